/-
  Insert over a Trie that holds a set of words. Own text.
-/
import Derived.Test.YmbrbmSets
import Derived.Deep.DeepCutAuto
namespace Go.Proofs.Ymbrbm
open Go.RowKit

theorem addP_in {P : List Str} {x : Str} (h : x ∈ P) : addP P x = P := if_pos h
theorem addP_out {P : List Str} {x : Str} (h : x ∉ P) : addP P x = P ++ [x] := if_neg h
theorem addP_mem {P : List Str} {x y : Str} : y ∈ addP P x ↔ y ∈ P ∨ y = x := by
  unfold addP
  split
  · constructor
    · exact .inl
    · rintro (h | rfl)
      · exact h
      · assumption
  · rw [List.mem_append, List.mem_singleton]
theorem addP_len (P : List Str) (x : Str) : (addP P x).length ≤ P.length + 1 := by
  unfold addP
  split
  · omega
  · rw [List.length_append]; simp
theorem insTo_len (P : List Str) (q : Str) (k : Nat) : (insTo P q k).length ≤ P.length + k + 1 := by
  induction k with
  | zero => exact addP_len P []
  | succ k ih =>
    have : (insTo P q (k + 1)).length ≤ (insTo P q k).length + 1 := addP_len _ _
    omega
theorem insTo_sub (P : List Str) (q : Str) (k : Nat) {y : Str} (h : y ∈ P) : y ∈ insTo P q k := by
  induction k with
  | zero => exact addP_mem.2 (.inl h)
  | succ k ih => exact addP_mem.2 (.inl ih)
theorem insTo_mem (P : List Str) (q : Str) (k : Nat) : q.take k ∈ insTo P q k := by
  cases k with
  | zero => exact addP_mem.2 (.inr rfl)
  | succ k => exact addP_mem.2 (.inr rfl)
theorem insTo_same {P : List Str} (h : Paths P) {q : Str} (hq : q ∈ P) (k : Nat) : insTo P q k = P := by
  induction k with
  | zero => exact addP_in (by have := h.take_mem hq 0; simpa using this)
  | succ k ih =>
    show addP (insTo P q k) (q.take (k + 1)) = P
    rw [ih]
    exact addP_in (h.take_mem hq _)

/-- The set behind an insertion; the paths; the code. -/
def insS (S : List Str) (q : Str) : List Str := if valid q = true ∧ q ∉ S then S ++ [q] else S
def insPs (P : List Str) (q : Str) : List Str := if valid q = true then insP P q else P
def codeI (S : List Str) (q : Str) : Nat := if valid q = true then (if q ∈ S then 1 else 0) else 2
theorem insS_len (S : List Str) (q : Str) : (insS S q).length ≤ S.length + 1 := by
  unfold insS; split
  · rw [List.length_append]; simp
  · omega
theorem insPs_len (P : List Str) (q : Str) : (insPs P q).length ≤ P.length + q.length + 1 := by
  unfold insPs; split
  · exact insTo_len P q _
  · omega

theorem good_root {T : TT} {P S : List Str} (G : Good T P S) (hnx : T.nx.length = T.wd.length * 26) (hbl : T.bl.length = T.wd.length) (h0 : P.length = 0) : Good T.grow (insTo P [] 0) S := by
  have e1 : P = [] := List.length_eq_zero_iff.1 h0
  have e3 : S = [] := by
    rcases S with _ | ⟨s, S⟩
    · rfl
    · have := G.sub s (by simp); rw [e1] at this; simp at this
  have e2 : T = TT.none := by
    have a3 := G.tree.len
    obtain ⟨nx, wd, bl⟩ := T
    rw [e1] at a3
    simp at hnx hbl a3
    subst a3
    simp at hnx hbl
    subst hnx hbl
    rfl
  subst e1 e2 e3
  refine ⟨tree_root, List.nodup_nil, fun s h => absurd h (by simp), fun i hi => ?_, fun i hi => ?_⟩
  · have : i = 0 := by simpa [insTo, addP] using hi
    subst this
    rfl
  · have : i = 0 := by simpa [insTo, addP] using hi
    subst this
    rfl
theorem Mdl.blb {T : TT} {P S : List Str} {q : Str} {k n : Nat} (M : Mdl 1 T P S q k) (hn : n < P.length) : 0 ≤ T.bl.getD n 0 ∧ T.bl.getD n 0 ≤ S.length + 1 := by
  rw [M.bl n hn]
  have := cnt_le S (P.getD n [])
  split <;> omega

set_option maxRecDepth 100000 in
set_option maxHeartbeats 1000000 in
theorem insert_added (B p : Nat) (h : Hd) (T : TT) (P S : List Str) (q : Str) (w : World) (t : TrieAt w B p h T) (G : Good T P S) (hq : q.length ≤ 1000000) (hP : P.length ≤ 100000000) (hS : S.length ≤ 100000000) (hb : B ≤ w.heap.size) (hv : valid q = true) (hm : q ∉ S) :
    Calls Ybmm.prog 16 #[.pointer (some ⟨p, 0, none⟩), Sv q] w fun e w' => e = .returned (.int .i64 0) ∧ ∃ h' T', TrieAt w' B p h' T' ∧ Good T' (insP P q) (S ++ [q]) ∧ Stp p h w h' w' := by
  have va := valid_calls q w (by unfold maxLen; omega)
  have ha := has_calls B p h T P S q w t G (by unfold maxLen; omega)
  rw [hv] at va
  rw [decide_eq_false hm] at ha
  have VA := hide2 va
  have HA := hide2 ha
  have HG := hide2 G
  have T0 := hide2 t
  have hlen := G.tree.len
  have HL := hide2 hlen
  have HV := hide2 hv
  have HM := hide2 hm
  obtain ⟨vN, vW, vB⟩ := h
  obtain ⟨aN, cN, e1⟩ := ownsRow_slice t.rN
  dsimp only at e1
  subst e1
  have c0 := t.mid.c0
  dsimp only at c0
  clear va ha G t hv hm hlen
  go_enter Ybmm.func16, Ybmm.ntmps16
  go_upto_if 20 with (first | (go_at_call 40; refine VA.out.mono ?_; rintro e w' ⟨rfl, he⟩; obtain rfl := he.symm) | (go_at_call 28; refine HA.out.mono ?_; rintro e w' ⟨rfl, he⟩; obtain rfl := he.symm))
  go_cut [4] (fun s4 wc => s4 = .int .i64 0 ∧ ∃ h1 T1, TrieAt wc B p h1 T1 ∧ Good T1 (insTo P q 0) S ∧ Stp p ⟨.slice aN T.wd.length cN, vW, vB⟩ w h1 wc)
  case first =>
    by_cases h0 : P.length = 0
    · have hz : ((T.wd.length : Int) == 0) = true := beq_iff_eq.2 (by have := HL.out; omega)
      have hg := good_root HG.out (nxlen T0.out) (bllen T0.out) h0
      have gc := grow_calls B p _ T w T0.out (by have := HL.out; omega) hb
      have GC := hide2 gc
      have HG1 := hide2 hg
      clear gc hg
      go_wp2_with (go_at_call 41; refine GC.out.mono ?_; rintro e w' ⟨rfl, h', t', s'⟩)
      go_meet
      case rel => exact ⟨rfl, h', T.grow, t', HG1.out, s'⟩
    · have hz : ((T.wd.length : Int) == 0) = false := beq_eq_false_iff_ne.2 (by have := HL.out; omega)
      go_wp2
      go_meet
      case rel =>
        refine ⟨rfl, _, T, T0.out, ?_, Stp.refl _ _ _⟩
        have : insTo P q 0 = P := addP_in (by rw [← HG.out.tree.paths.root (by omega)]; exact mem_getD (by omega))
        rw [this]
        exact HG.out
  case rest =>
    obtain ⟨rfl, h1, T1, t1, G1, s1⟩ := hcut
    have hl0 : 0 < (insTo P q 0).length := List.length_pos_of_mem (insTo_mem P q 0)
    have hln := insTo_len P q 0
    have hlen := G1.tree.len
    obtain ⟨gN, cN1, gW, cW, gB, cB, rfl⟩ := to_hd t1 (by omega)
    have vw := hd_view rfl t1
    have c2 := vw.c2
    have hc := vw.B 0 (by omega)
    have hf := vw.fB 0
    have M := Mdl.start (d := 1) (w := q) G1 (by rw [bllen t1]; exact hlen) hl0
    have hbd : 0 ≤ T1.bl.getD 0 0 ∧ T1.bl.getD 0 0 ≤ S.length := by
      rw [G1.bl 0 hl0]
      have := cnt_le S ((insTo P q 0).getD 0 [])
      omega
    obtain ⟨t2, s2⟩ := hd_setB rfl t1 0 (T1.bl.getD 0 0 + 1)
    have s12 := s1.trans s2
    have hix : ix (insTo P q 0) (q.take 0) = some 0 := by
      have := ix_of G1.tree.paths.nodup hl0
      rwa [G1.tree.paths.root hl0] at this
    have hp0 : 0 < T1.wd.length := by omega
    have M2 := hide2 M
    have T2 := hide2 t2
    have S12 := hide2 s12
    have HX := hide2 hix
    clear M t2 s12 hix s1 s2 t1 G1 vw HL T0 c0 VA HA
    generalize T1.bl.getD 0 0 = bv at *
    have hbs : w.heap.size ≤ wc.heap.size := by have := S12.out.t.size; simpa using this
    go_wp2
    generalize hX : wc.setCell ⟨gB, 0, none⟩ (.int .i64 (bv + 1)) = X at *
    have hXs : B ≤ X.heap.size := by have := S12.out.t.size; omega
    clear hX c2 hc hf
    go_loopw [5, 6] (fun x i wr => ∃ (k n : Nat) (h3 : Hd) (T3 : TT), i = .int .i64 k ∧ k ≤ q.length ∧ x = .int .i64 n ∧ TrieAt wr B p h3 T3 ∧ Mdl 1 T3 (insTo P q k) S q k ∧ ix (insTo P q k) (q.take k) = some n ∧ Stp p ⟨.slice aN T.wd.length cN, vW, vB⟩ w h3 wr) (fun _ i _ => q.length - (intOf i).toNat)
    case atStart => exact ⟨0, 0, _, _, rfl, Nat.zero_le _, rfl, T2.out, M2.out, HX.out, S12.out⟩
    case round =>
      obtain ⟨k, n, h3, T3, rfl, hk, rfl, t3, M3, hx3, s3⟩ := hrel
      have hwr : B ≤ wr.heap.size := by have := s3.t.size; omega
      have hlen := M3.tree.len
      have hl3 := insTo_len P q k
      obtain ⟨hn1, hn2⟩ := ix_some hx3
      obtain ⟨gN, cN1, gW, cW, gB, cB, rfl⟩ := to_hd t3 (by omega)
      have vw := hd_view rfl t3
      by_cases hlt : k < q.length
      · obtain ⟨l, hl, hql⟩ := valid_get HV.out hlt
        have hby : ((⟨q.toArray⟩ : ByteArray)[k]'hlt) = ltr l := hql
        have hbn : ((⟨q.toArray⟩ : ByteArray)[k]'hlt).toNat = 97 + l := by rw [hby, ltr_toNat hl]
        have hpk : (insTo P q k).getD n [] ++ [ltr l] = q.take (k + 1) := by
          rw [hn2, List.take_succ_eq_append_getElem hlt, hql]
        have c0 := vw.c0
        have hc := vw.N n l (by omega) hl
        have lk := M3.tree.link n l hn1 hl
        rw [hpk] at lk
        have T3h := hide2 t3
        have M3h := hide2 M3
        have S3h := hide2 s3
        have HPK := hide2 hpk
        have HLN := hide2 hlen
        have VW := hide2 vw
        have hnw : n < T3.wd.length := by omega
        have hw1 : IntKind.u8.wrap (((97 + l : Nat) : Int) - 97) = (l : Int) := by rw [IntKind.wrap_u8]; omega
        have hw2 : IntKind.u8.wrap ((97 + (l : Int)) - 97) = (l : Int) := by rw [IntKind.wrap_u8]; omega
        obtain ⟨mv, hmv⟩ : ∃ mv, T3.nxt n l = mv := ⟨_, rfl⟩
        rw [hmv] at hc lk
        have HMV := hide2 hmv
        have LK := hide2 lk
        clear t3 M3 s3 hpk hlen vw hql hby hmv lk
        go_upto_if 53 with (fail)
        go_cut [8] (fun s8 wc => ∃ (m : Nat) (h4 : Hd) (T4 : TT), s8 = .int .i64 m ∧ TrieAt wc B p h4 T4 ∧ Mdl 1 T4 (insTo P q (k + 1)) S q k ∧ ix (insTo P q (k + 1)) (q.take (k + 1)) = some m ∧ Stp p ⟨.slice aN T.wd.length cN, vW, vB⟩ w h4 wc)
        case first =>
          by_cases hz : mv = 0
          · subst hz
            have hfree := M3h.out.tree.free hn1 hl HMV.out
            rw [HPK.out] at hfree
            have M4 := M3h.out.add (nxlen T3h.out) (by rw [bllen T3h.out]; exact HLN.out) hn1 hl HPK.out hlt HMV.out
            have e4 : insTo P q (k + 1) = insTo P q k ++ [q.take (k + 1)] := addP_out hfree
            have x4 : ix (insTo P q k ++ [q.take (k + 1)]) (q.take (k + 1)) = some T3.wd.length := by
              rw [ix_snoc, ix_none.2 hfree, Option.none_or, if_pos (by simp), HLN.out]
            rw [← e4] at M4 x4
            have M4h := hide2 M4
            have X4h := hide2 x4
            clear M4 x4 e4 hfree c0 hc
            go_wp2_with fail
            refine (grow_calls B p _ T3 wr T3h.out (by have := HLN.out; omega) hwr).mono ?_
            rintro e w4 ⟨rfl, h', t', s'⟩
            have hgl : T3.grow.wd.length = T3.wd.length + 1 := by simp [TT.grow]
            obtain ⟨gN', cN', gW', cW', gB', cB', rfl⟩ := to_hd t' (by omega)
            rw [hgl] at t' s'
            have vw := hd_view hgl t'
            have c0 := vw.c0
            have hc := vw.N n l (by omega) hl
            have hf := vw.fN (n * 26 + l)
            obtain ⟨t5, s5⟩ := hd_setN hgl t' (n * 26 + l) T3.wd.length
            rw [TT.grow_add] at t5
            have s6 := (S3h.out.trans s').trans s5
            have T5 := hide2 t5
            have S6 := hide2 s6
            have hnw' : n < T3.wd.length + 1 := by omega
            clear t5 s6 s5 t' s' vw hgl
            generalize T3.grow.nxt n l = ov at *
            go_wp2
            go_meet
            case rel => exact ⟨_, _, _, rfl, T5.out, M4h.out, X4h.out, S6.out⟩
          · obtain ⟨m, hm⟩ : ∃ m, ix (insTo P q k) (q.take (k + 1)) = some m := by
              cases e : ix (insTo P q k) (q.take (k + 1)) with
              | none => have := LK.out; rw [e] at this; exact absurd this hz
              | some m => exact ⟨m, rfl⟩
            have hmm : mv = (m : Int) := by have := LK.out; rw [hm] at this; exact this
            subst hmm
            have hz' : ((m : Int) == 0) = false := beq_eq_false_iff_ne.2 hz
            have e4 : insTo P q (k + 1) = insTo P q k := addP_in (by obtain ⟨y1, y2⟩ := ix_some hm; rw [← y2]; exact mem_getD y1)
            have M4 := M3h.out
            rw [← e4] at hm M4
            have M4h := hide2 M4
            have X4h := hide2 hm
            clear M4 hm e4
            go_wp2
            go_meet
            case rel => exact ⟨_, _, _, rfl, T3h.out, M4h.out, X4h.out, S3h.out⟩
        case rest =>
          obtain ⟨m, h4, T4, rfl, t4, M4, hx4, s4⟩ := hcut
          have hlen4 := M4.tree.len
          obtain ⟨hm1, hm2⟩ := ix_some hx4
          have hl4 := insTo_len P q (k + 1)
          obtain ⟨gN, cN1, gW, cW, gB, cB, rfl⟩ := to_hd t4 (by omega)
          have vw := hd_view rfl t4
          have c2 := vw.c2
          have hcb := vw.B m (by omega)
          have hf := vw.fB m
          have hbd4 := M4.blb hm1
          obtain ⟨t5, s5⟩ := hd_setB rfl t4 m (T4.bl.getD m 0 + 1)
          have M5 := M4.inc (by rw [bllen t4]; exact hlen4) hm1 hm2 hlt
          have s45 := s4.trans s5
          have hmw : m < T4.wd.length := by omega
          have M5h := hide2 M5
          have T5 := hide2 t5
          have S5 := hide2 s45
          have X4h := hide2 hx4
          clear M5 t5 s45 s5 s4 t4 M4 vw hx4 hm2 hc c0 VW T3h M3h S3h HPK HLN HMV LK
          generalize T4.bl.getD m 0 = bv at *
          go_wp2
          go_roundw
          case rel => exact ⟨k + 1, m, _, _, by go_num, by omega, rfl, T5.out, M5h.out, X4h.out, S5.out⟩
          case measure => simp [intOf]; omega
      · obtain rfl : k = q.length := by omega
        have c1 := vw.c1
        have hc := vw.W n (by omega)
        have hf := vw.fW n
        obtain ⟨t5, s5⟩ := hd_setW rfl t3 n true
        have hx5 := hx3
        rw [List.take_length] at hx5
        have G5 := M3.ins HG.out.nodup hx5 HM.out
        have s45 := s3.trans s5
        have hnw : n < T3.wd.length := by omega
        have T5 := hide2 t5
        have G5h := hide2 G5
        have S5 := hide2 s45
        clear t5 G5 s45 s5 s3 t3 M3 vw hx3 hx5
        generalize T3.wd.getD n false = ov at *
        go_wp2
        go_ret
        exact ⟨rfl, _, _, T5.out, G5h.out, S5.out⟩
set_option maxRecDepth 100000 in
set_option maxHeartbeats 400000 in
theorem insert_calls (B p : Nat) (h : Hd) (T : TT) (P S : List Str) (q : Str) (w : World) (t : TrieAt w B p h T) (G : Good T P S) (hq : q.length ≤ 1000000) (hP : P.length ≤ 100000000) (hS : S.length ≤ 100000000) (hb : B ≤ w.heap.size) :
    Calls Ybmm.prog 16 #[.pointer (some ⟨p, 0, none⟩), Sv q] w fun e w' => e = .returned (.int .i64 (codeI S q)) ∧ ∃ h' T', TrieAt w' B p h' T' ∧ Good T' (insPs P q) (insS S q) ∧ Stp p h w h' w' := by
  by_cases hv : valid q = true
  · by_cases hm : q ∈ S
    · have e1 : codeI S q = 1 := by unfold codeI; rw [if_pos hv, if_pos hm]
      have e2 : insS S q = S := by unfold insS; rw [if_neg (fun h => h.2 hm)]
      have e3 : insPs P q = P := by unfold insPs; rw [if_pos hv]; exact insTo_same G.tree.paths (G.sub _ hm) _
      rw [e1, e2, e3]
      have va := valid_calls q w (by unfold maxLen; omega)
      have ha := has_calls B p h T P S q w t G (by unfold maxLen; omega)
      rw [hv] at va
      rw [decide_eq_true hm] at ha
      have VA := hide2 va
      have HA := hide2 ha
      have HG := hide2 G
      have T0 := hide2 t
      clear va ha G t hv hm e1 e2 e3
      go_enter Ybmm.func16, Ybmm.ntmps16
      go_wp2_with (first | (go_at_call 40; refine VA.out.mono ?_; rintro e w' ⟨rfl, he⟩; obtain rfl := he.symm) | (go_at_call 28; refine HA.out.mono ?_; rintro e w' ⟨rfl, he⟩; obtain rfl := he.symm))
      go_ret
      exact ⟨rfl, h, T, T0.out, HG.out, Stp.refl _ _ _⟩
    · have e1 : codeI S q = 0 := by unfold codeI; rw [if_pos hv, if_neg hm]
      have e2 : insS S q = S ++ [q] := by unfold insS; rw [if_pos ⟨hv, hm⟩]
      have e3 : insPs P q = insP P q := by unfold insPs; rw [if_pos hv]
      rw [e1, e2, e3]
      exact insert_added B p h T P S q w t G hq hP hS hb hv hm
  · have e1 : codeI S q = 2 := by unfold codeI; rw [if_neg hv]
    have e2 : insS S q = S := by unfold insS; rw [if_neg (fun h => hv h.1)]
    have e3 : insPs P q = P := by unfold insPs; rw [if_neg hv]
    rw [e1, e2, e3]
    have va := valid_calls q w (by unfold maxLen; omega)
    rw [Bool.not_eq_true] at hv
    rw [hv] at va
    have VA := hide2 va
    have HG := hide2 G
    have T0 := hide2 t
    clear va G t hv e1 e2 e3
    go_enter Ybmm.func16, Ybmm.ntmps16
    go_wp2_with (first | (go_at_call 40; refine VA.out.mono ?_; rintro e w' ⟨rfl, he⟩; obtain rfl := he.symm))
    go_ret
    exact ⟨rfl, h, T, T0.out, HG.out, Stp.refl _ _ _⟩
end Go.Proofs.Ymbrbm
