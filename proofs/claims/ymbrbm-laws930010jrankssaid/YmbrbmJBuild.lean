/-
  zzs930010jquery, zzs930010jbuild: their contracts. Own text.
-/
import Derived.Test.YmbrbmJFns
import Derived.Test.YmbrbmRemove
import Derived.Test.YmbrbmWithP
namespace Go.Proofs.Ymbrbm
open Go.RowKit

theorem arr_take (q : Str) (j : Nat) : (⟨q.toArray⟩ : ByteArray).extract 0 j = ⟨(q.take j).toArray⟩ := by
  apply ByteArray.ext
  simp [ByteArray.data_extract]

set_option maxRecDepth 100000 in
set_option maxHeartbeats 1000000 in
theorem jquery_calls (B : Nat) (v : Value) (n : Nat) (ss : List Str) (p : Str) (raw : Bool) (pick : Nat) (w : World) (hn : ss.length = n) (own : w.ownsRow B 9 1 v n (ss.map Sv)) (hb : n ≤ 1000000) (hp : pick ≤ 255) (hl : ∀ s ∈ ss, s.length ≤ 100000) (hpl : p.length ≤ maxLen) :
    Calls Ybmm.prog 23 #[v, Sv p, .bool raw, .int .u8 pick] w fun e w' => ∃ r, e = .returned (Sv r) ∧ (r = p ∨ r.length ≤ 100000) ∧ Below w.heap.size w w' := by
  obtain ⟨a, c, rfl⟩ := ownsRow_slice own
  unfold maxLen at hpl
  cases raw
  · obtain ⟨z, hz, hz2, hz3⟩ : ∃ z : Nat, (pick : Int) % 2 = (z : Int) ∧ Int.tmod (pick : Int) 2 = (z : Int) ∧ z < 2 := ⟨pick % 2, by simp, by rw [Int.tmod_eq_emod_of_nonneg (by omega)]; simp, by omega⟩
    by_cases hc : z = 0 ∧ 0 < n
    · obtain ⟨rfl, h0⟩ := hc
      obtain ⟨g, cap, he, _, _⟩ := own.form h0
      obtain ⟨rfl, rfl⟩ : a = some ⟨g, 0, none⟩ ∧ c = cap := by simpa using he
      obtain ⟨d, hd, hd2, hd3⟩ : ∃ d : Nat, (pick : Int) / 2 = (d : Int) ∧ Int.tdiv (pick : Int) 2 = (d : Int) ∧ d ≤ 127 := ⟨pick / 2, by simp, by rw [Int.tdiv_eq_ediv_of_nonneg (by omega)]; simp, by omega⟩
      obtain ⟨j, hj, hj2, hj3⟩ : ∃ j : Nat, (d : Int) % (n : Int) = (j : Int) ∧ Int.tmod (d : Int) (n : Int) = (j : Int) ∧ j < n := ⟨d % n, by simp, by rw [Int.tmod_eq_emod_of_nonneg (by omega)]; simp, Nat.mod_lt _ h0⟩
      have hcell := own_cell own j _ (getD_map_sv ss j (by omega))
      have hle := hl _ (mem_getD (show j < ss.length by omega))
      generalize ss.getD j [] = sk at hcell hle
      obtain ⟨r, hr, hr2, hr3⟩ : ∃ r : Nat, (p.length : Int) % ((sk.length : Int) + 1) = (r : Int) ∧ Int.tmod (p.length : Int) ((sk.length : Int) + 1) = (r : Int) ∧ r ≤ sk.length := by
        refine ⟨p.length % (sk.length + 1), by simp, by rw [Int.tmod_eq_emod_of_nonneg (by omega)]; simp, ?_⟩
        have := Nat.mod_lt p.length (show 0 < sk.length + 1 by omega)
        omega
      obtain ⟨st, hst⟩ : ∃ st, sk.take r = st := ⟨_, rfl⟩
      have te := arr_take sk r
      rw [hst] at te
      have hstl : st.length ≤ 100000 := by rw [← hst, List.length_take]; omega
      have hn1 : ((n : Int) == 0) = false := beq_eq_false_iff_ne.2 (by omega)
      have hn2 : (((sk.length : Int) + 1) == 0) = false := beq_eq_false_iff_ne.2 (by omega)
      clear own hl hn he hst
      go_enter Ybmm.func23, Ybmm.ntmps23
      go_wp2
      go_ret
      exact ⟨st, rfl, .inr hstl, Below.refl _ _⟩
    · have hcond : ((z : Int) == 0 && decide ((0 : Int) < (n : Int))) = false := by
        rw [Bool.and_eq_false_iff, beq_eq_false_iff_ne, decide_eq_false_iff_not]
        omega
      have jw := jword_calls p 3 w (by omega)
      have JW := hide2 jw
      clear own hl hn jw
      go_enter Ybmm.func23, Ybmm.ntmps23
      by_cases hz0 : z = 0
      · subst hz0
        have hn0 : ¬ 0 < n := by omega
        go_wp2_with (go_at_call 43; refine JW.out.mono ?_; rintro e w' ⟨r, rfl, hv, hrl, bel⟩)
        go_ret
        exact ⟨r, rfl, .inr (by omega), bel⟩
      · have hzf : ((z : Int) == 0) = false := beq_eq_false_iff_ne.2 (by omega)
        go_wp2_with (go_at_call 43; refine JW.out.mono ?_; rintro e w' ⟨r, rfl, hv, hrl, bel⟩)
        go_ret
        exact ⟨r, rfl, .inr (by omega), bel⟩
  · clear own hl hn
    go_enter Ybmm.func23, Ybmm.ntmps23
    go_wp2
    go_ret
    exact ⟨p, rfl, .inl rfl, Below.refl _ _⟩
/-- The steps that came in: a byte and a word. -/
structure OpsB (w : World) (b off n : Nat) (S : List (Nat × Str)) : Prop where
  lt : 0 < n → b < w.heap.size
  c0 : ∀ i, i < n → w.cell? ⟨b, off + i * 2, none⟩ = some (.int .u8 (S.getD i (0, [])).1)
  c1 : ∀ i, i < n → w.cell? ⟨b, off + i * 2 + 1, none⟩ = some (Sv (S.getD i (0, [])).2)
  r0 : ∀ i, i < n → (S.getD i (0, [])).1 ≤ 255
  l1 : ∀ i, i < n → (S.getD i (0, [])).2.length ≤ maxLen

theorem insS_putS {S : List Str} {q : Str} (hv : valid q = true) (x : Str) : x ∈ insS S q ↔ x ∈ putS S q := by
  rw [putS_mem]
  unfold insS
  by_cases h : q ∈ S
  · rw [if_neg (fun h2 => h2.2 h)]
    constructor
    · exact .inl
    · rintro (h1 | rfl)
      · exact h1
      · exact h
  · rw [if_pos ⟨hv, h⟩, List.mem_append, List.mem_singleton]
theorem putS_len' {T : TT} {P S : List Str} {q : Str} (G : Good T P (insS S q)) (hs : Sorted S) (hv : valid q = true) : (putS S q).length = (insS S q).length :=
  ((List.perm_ext_iff_of_nodup (putS_sorted hs q).nodup G.nodup).2 (fun x => (insS_putS hv x).symm)).length_eq

set_option maxRecDepth 100000 in
set_option maxHeartbeats 1000000 in
theorem jbuild_calls (a : Option Addr) (b off m c : Nat) (O : List (Nat × Str)) (w : World) (ha : 0 < m → a = some ⟨b, off, none⟩) (hs : OpsB w b off m O) (hm : m ≤ 256) :
    Calls Ybmm.prog 22 #[.slice a m c] w fun e w' => ∃ v, e = .returned (.tuple #[.pointer (some ⟨w.heap.size, 0, none⟩), v]) ∧ ∃ h T, TrieAt w' w.heap.size w.heap.size h T ∧ ∃ P S, Good T P S ∧ Sorted S ∧ w'.ownsRow w.heap.size 9 1 v S.length (S.map Sv) ∧ P.length ≤ 257 * m ∧ S.length ≤ m ∧ Below w.heap.size w w' := by
  have HA := hide2 ha
  have HS := hide2 hs
  clear ha hs
  go_enter Ybmm.func22, Ybmm.ntmps22
  go_wp2
  generalize hB : w.heap.size = B at *
  have hBw : B ≤ w.heap.size := by omega
  have HB := hide2 hB
  clear hB
  go_loopw [5, 6] (fun v i wr => ∃ (k : Nat) (x : Option Addr) (y : Nat) (h : Hd) (T : TT) (P S : List Str), i = .int .i64 k ∧ k ≤ m ∧ v = .slice x S.length y ∧ TrieAt wr B B h T ∧ Good T P S ∧ Sorted S ∧ wr.ownsRow B 9 1 v S.length (S.map Sv) ∧ P.length ≤ 257 * k ∧ S.length ≤ k ∧ Below B w wr) (fun _ i _ => m - (intOf i).toNat)
  case atStart =>
    have hB := HB.out
    subst hB
    refine ⟨0, _, _, _, TT.none, [], [], rfl, Nat.zero_le _, rfl, (trie_new w w.heap.size (Nat.le_refl _)).alloc _, good_none, List.Pairwise.nil, ?_, Nat.zero_le _, Nat.zero_le _, ((Below.refl _ w).alloc (Nat.le_refl _) _).alloc (by simp) _⟩
    have := own_empty (w.alloc (.cells #[.slice none 0 0, .slice none 0 0, .slice none 0 0] 29)) w.heap.size (by simp)
    simpa using this
  case round =>
    obtain ⟨k, x0, y0, h, T, P, S, rfl, hk, rfl, t, G, so, own, hP, hS, bel⟩ := hrel
    have hwr : B ≤ wr.heap.size := by have := bel.size; omega
    have T0 := hide2 t
    have HG := hide2 G
    have SO := hide2 so
    have OW := hide2 own
    clear t G own so
    by_cases hlt : k < m
    · have hea := HA.out (by omega)
      subst hea
      have hsb := HS.out.lt (by omega)
      have d0 := (bel.cell (p := ⟨b, off + k * 2, none⟩) (by show b < B; have := HB.out; omega)).trans (HS.out.c0 k hlt)
      have d1 := (bel.cell (p := ⟨b, off + k * 2 + 1, none⟩) (by show b < B; have := HB.out; omega)).trans (HS.out.c1 k hlt)
      have r0 := HS.out.r0 k hlt
      have l1 := HS.out.l1 k hlt
      unfold maxLen at l1
      generalize (O.getD k (0, [])).1 = kd at d0 r0
      generalize (O.getD k (0, [])).2 = raw at d1 l1
      obtain ⟨z, hz, hz2, hz3⟩ : ∃ z : Nat, (kd : Int) % 4 = (z : Int) ∧ Int.tmod (kd : Int) 4 = (z : Int) ∧ z < 4 := ⟨kd % 4, by simp, by rw [Int.tmod_eq_emod_of_nonneg (by omega)]; simp, by omega⟩
      by_cases hrem : z = 3 ∧ 0 < S.length
      · obtain ⟨rfl, h0⟩ := hrem
        obtain ⟨g, cap, he, _, _⟩ := OW.out.form h0
        obtain ⟨rfl, rfl⟩ : x0 = some ⟨g, 0, none⟩ ∧ y0 = cap := by simpa using he
        obtain ⟨j, hj, hj2, hj3⟩ : ∃ j : Nat, (raw.length : Int) % (S.length : Int) = (j : Int) ∧ Int.tmod (raw.length : Int) (S.length : Int) = (j : Int) ∧ j < S.length := ⟨raw.length % S.length, by simp, by rw [Int.tmod_eq_emod_of_nonneg (by omega)]; simp, Nat.mod_lt _ h0⟩
        have hcell := own_cell OW.out j _ (getD_map_sv S j hj3)
        have hmem := mem_getD hj3
        have hql : (S.getD j []).length ≤ 1000000 := by have := HG.out.tree.paths.lenM (HG.out.sub _ hmem); omega
        have her := erase_nodup HG.out.nodup hj3
        have rc := remove_calls B B h T P S (S.getD j []) wr T0.out HG.out hql (by omega)
        rw [her] at rc
        have RC := hide2 rc
        have hn1 : ((S.length : Int) == 0) = false := beq_eq_false_iff_ne.2 (by omega)
        clear he rc her hmem hql
        generalize S.getD j [] = q at hcell RC
        generalize decide (q ∈ S) = bb at RC
        go_wp2_with fail
        refine RC.out.mono ?_
        rintro e w2 ⟨rfl, T2, t2, G2, s2⟩
        have o2 := own_stp T0.out OW.out s2
        have b2 := bel.trans (s2.t.below (fun k hk => (T0.out.foot_lt k hk).1) hwr)
        have hw2 : B ≤ w2.heap.size := by have := b2.size; omega
        have T2h := hide2 t2
        have G2h := hide2 G2
        have O2 := hide2 o2
        clear t2 G2 o2 s2 hcell
        go_wp2_with fail
        refine (jdrop_calls B _ _ S j w2 rfl O2.out (by omega)).mono ?_
        rintro e w3 ⟨g3, k3, rfl, own3, b3⟩
        have hle : (S.eraseIdx j).length ≤ S.length := (List.eraseIdx_sublist S j).length_le
        have t3 := T2h.out.below b3
        have o3 := own_mono own3 hw2
        have b4 := b2.trans (b3.mono hw2)
        have so3 : Sorted (S.eraseIdx j) := List.Pairwise.sublist (List.eraseIdx_sublist S j) SO.out
        have T3 := hide2 t3
        have O3 := hide2 o3
        have SO3 := hide2 so3
        clear t3 o3 so3 own3
        go_wp2
        go_roundw
        case rel => exact ⟨k + 1, _, _, h, T2, P, S.eraseIdx j, by go_num, by omega, rfl, T3.out, G2h.out, SO3.out, O3.out, by omega, by omega, b4⟩
        case measure => simp [intOf]; omega
      · have hcond : (((z : Int) == 3) = true ∧ ¬ 0 < S.length) ∨ ((z : Int) == 3) = false := by
          by_cases h3 : z = 3
          · left; subst h3; exact ⟨rfl, fun h => hrem ⟨rfl, h⟩⟩
          · right; rw [beq_eq_false_iff_ne]; omega
        have jw := jword_calls raw 256 wr (by omega)
        have JW := hide2 jw
        clear jw hrem
        rcases hcond with ⟨hc1, hc2⟩ | hc1
        all_goals
          go_wp2_with fail
          refine JW.out.mono ?_
          rintro e w1 ⟨q, rfl, hqv, hql, b1⟩
          have t1 := T0.out.below b1
          have o1 := own_below OW.out b1
          have bel1 := bel.trans (b1.mono hwr)
          have hw1 : B ≤ w1.heap.size := by have := bel1.size; omega
          have T1 := hide2 t1
          have O1 := hide2 o1
          have e1 : ((codeI S q : Int) != 2) = true := by
            rw [bne_iff_ne]
            unfold codeI
            rw [if_pos hqv]
            split <;> decide
          have hpl := insPs_len P q
          have hsl := insS_len S q
          have ic := insert_calls B B h T P S q w1 T1.out HG.out (by omega) (by omega) (by omega) hw1
          have IC := hide2 ic
          have HQV := hide2 hqv
          clear t1 o1 d0 d1 ic hqv
          generalize codeI S q = cd at *
          go_wp2_with fail
          refine IC.out.mono ?_
          rintro e w2 ⟨rfl, h2, T2, t2, G2, s2⟩
          have o2 := own_stp T1.out O1.out s2
          have b2 := bel1.trans (s2.t.below (fun k hk => (T1.out.foot_lt k hk).1) hw1)
          have hw2 : B ≤ w2.heap.size := by have := b2.size; omega
          have hpe := Nat.le_of_eq (putS_len' G2 SO.out HQV.out)
          have so3 := putS_sorted SO.out q
          have G3 := G2.same so3.nodup (fun x => insS_putS HQV.out x)
          have T2h := hide2 t2
          have G3h := hide2 G3
          have O2 := hide2 o2
          have SO3 := hide2 so3
          clear t2 G2 G3 o2 s2 so3
          go_wp2_with fail
          refine (jput_calls B _ _ S q w2 rfl O2.out SO.out (by omega)).mono ?_
          rintro e w3 ⟨g3, k3, rfl, own3, b3⟩
          have t3 := T2h.out.below b3
          have o3 := own_mono own3 hw2
          have b4 := b2.trans (b3.mono hw2)
          have T3 := hide2 t3
          have O3 := hide2 o3
          clear t3 o3 own3
          go_wp2
          go_roundw
          case rel => exact ⟨k + 1, _, _, h2, T2, insPs P q, putS S q, by go_num, by omega, rfl, T3.out, G3h.out, SO3.out, O3.out, by omega, by omega, b4⟩
          case measure => simp [intOf]; omega
    · have hB := HB.out
      subst hB
      go_wp2
      go_ret2
      exact ⟨_, rfl, h, T, T0.out, P, S, HG.out, SO.out, OW.out, by omega, by omega, bel⟩
end Go.Proofs.Ymbrbm
