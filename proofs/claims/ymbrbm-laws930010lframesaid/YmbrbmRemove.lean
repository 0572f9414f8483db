/-
  Remove over a Trie that holds a set of words. Own text.
-/
import Derived.Test.YmbrbmInsert
import Derived.BigQuiet
namespace Go.Proofs.Ymbrbm
open Go.RowKit

theorem Stp.drewN {p : Nat} {a b : Hd} {u v : World} (x : Stp p a u b v) (m : Nat) : Stp p a u b (v.drewN m) := ⟨⟨x.t.os, x.t.tape, x.t.output, x.t.size, x.t.block⟩, x.f⟩
theorem Mdl.blb' {T : TT} {P S : List Str} {q : Str} {k n : Nat} (M : Mdl (-1) T P S q k) (hn : n < P.length) : -1 ≤ T.bl.getD n 0 ∧ T.bl.getD n 0 ≤ S.length := by
  rw [M.bl n hn]
  have := cnt_le S (P.getD n [])
  split <;> omega

set_option maxRecDepth 100000 in
set_option maxHeartbeats 1000000 in
theorem remove_there (B p : Nat) (h : Hd) (T : TT) (P S : List Str) (q : Str) (w : World) (t : TrieAt w B p h T) (G : Good T P S) (hq : q.length ≤ 1000000) (hS : S.length ≤ 100000000) (hm : q ∈ S) :
    Calls Ybmm.prog 15 #[.pointer (some ⟨p, 0, none⟩), Sv q] w fun e w' => e = .returned (.bool true) ∧ ∃ T', TrieAt w' B p h T' ∧ Good T' P (S.erase q) ∧ Stp p h w h w' := by
  have ha := has_calls B p h T P S q w t G (by unfold maxLen; omega)
  rw [decide_eq_true hm] at ha
  have hlen := G.tree.len
  have hqP := G.sub _ hm
  have hP0 : 0 < P.length := List.length_pos_of_mem hqP
  obtain ⟨gN, cN, gW, cW, gB, cB, rfl⟩ := to_hd t (by omega)
  have vw := hd_view rfl t
  have c2 := vw.c2
  have hc := vw.B 0 (by omega)
  have hf := vw.fB 0
  have M := Mdl.start (d := -1) (w := q) G (by rw [bllen t]; exact hlen) hP0
  have hbd : 0 ≤ T.bl.getD 0 0 ∧ T.bl.getD 0 0 ≤ S.length := by
    rw [G.bl 0 hP0]
    have := cnt_le S (P.getD 0 [])
    omega
  obtain ⟨t2, s2⟩ := hd_setB rfl t 0 (T.bl.getD 0 0 + -1)
  have hix : ix P (q.take 0) = some 0 := by
    have := ix_of G.tree.paths.nodup hP0
    rwa [G.tree.paths.root hP0] at this
  have hp0 : 0 < T.wd.length := by omega
  rw [show T.bl.getD 0 0 + -1 = T.bl.getD 0 0 - 1 by omega] at t2 s2 M
  have M2 := hide2 M
  have T2 := hide2 t2
  have S2 := hide2 s2
  have HX := hide2 hix
  have HA := hide2 ha
  have HG := hide2 G
  have HM := hide2 hm
  have HQ := hide2 hqP
  have HL := hide2 hlen
  clear M t2 s2 hix ha G t vw hm hqP
  generalize T.bl.getD 0 0 = bv at *
  go_enter Ybmm.func15, Ybmm.ntmps15
  go_wp2_with (go_at_call 28; refine HA.out.mono ?_; rintro e w' ⟨rfl, he⟩; obtain rfl := he.symm)
  generalize hX : w.setCell ⟨gB, 0, none⟩ (.int .i64 (bv - 1)) = X at *
  clear hX c2 hc hf HA
  go_loopw [5, 6] (fun x i wr => ∃ (k n : Nat) (T3 : TT), i = .int .i64 k ∧ k ≤ q.length ∧ x = .int .i64 n ∧ T3.wd.length = T.wd.length ∧ TrieAt wr B p (hd gN cN gW cW gB cB T.wd.length) T3 ∧ Mdl (-1) T3 P S q k ∧ ix P (q.take k) = some n ∧ Stp p (hd gN cN gW cW gB cB T.wd.length) w (hd gN cN gW cW gB cB T.wd.length) wr) (fun _ i _ => q.length - (intOf i).toNat)
  case atStart => exact ⟨0, 0, ⟨T.nx, T.wd, T.bl.set 0 (bv - 1)⟩, rfl, Nat.zero_le _, rfl, rfl, T2.out, M2.out, HX.out, S2.out⟩
  case round =>
    obtain ⟨k, n, T3, rfl, hk, rfl, hl3, t3, M3, hx3, s3⟩ := hrel
    obtain ⟨hn1, hn2⟩ := ix_some hx3
    have vw := hd_view hl3 t3
    have hnw : n < T.wd.length := by have := HL.out; omega
    by_cases hlt : k < q.length
    · obtain ⟨m, hm⟩ := ix_mem (M3.tree.paths.take_mem HQ.out (k + 1))
      obtain ⟨hm1, hm2⟩ := ix_some hm
      obtain ⟨l, hl, hql⟩ : ∃ l, l < 26 ∧ q[k] = ltr l := M3.tree.paths.letter (s := q.take k) (by rw [← List.take_succ_eq_append_getElem hlt, ← hm2]; exact mem_getD hm1)
      have hby : ((⟨q.toArray⟩ : ByteArray)[k]'hlt) = ltr l := hql
      have hbn : ((⟨q.toArray⟩ : ByteArray)[k]'hlt).toNat = 97 + l := by rw [hby, ltr_toNat hl]
      have hpk : P.getD n [] ++ [ltr l] = q.take (k + 1) := by
        rw [hn2, List.take_succ_eq_append_getElem hlt, hql]
      have c0 := vw.c0
      have hc := vw.N n l (by omega) hl
      have lk := M3.tree.link n l hn1 hl
      rw [hpk, hm, Option.getD_some] at lk
      rw [lk] at hc
      have c2 := vw.c2
      have hmw : m < T.wd.length := by have := HL.out; omega
      have hcb := vw.B m (by omega)
      have hf := vw.fB m
      have hbd4 := M3.blb' hm1
      have M5 := M3.inc (by rw [bllen t3, hl3]; exact HL.out) hm1 hm2 hlt
      rw [show T3.bl.getD m 0 + -1 = T3.bl.getD m 0 - 1 by omega] at M5
      have M5h := hide2 M5
      have T5 := hide2 t3
      have S5 := hide2 s3
      have X4h := hide2 hm
      have hw1 : IntKind.u8.wrap (((97 + l : Nat) : Int) - 97) = (l : Int) := by rw [IntKind.wrap_u8]; omega
      have hw2 : IntKind.u8.wrap ((97 + (l : Int)) - 97) = (l : Int) := by rw [IntKind.wrap_u8]; omega
      have HL3 := hide2 hl3
      clear M5 s3 t3 M3 vw hm hm2 hn2 hpk lk hql hby hx3 hl3
      generalize T3.bl.getD m 0 = bw at *
      go_wp2
      go_quiet (fail)
      go_wp2
      go_roundw
      case rel =>
        obtain ⟨t5, s5⟩ := hd_setB HL3.out (T5.out.drewN nq) m (bw - 1)
        exact ⟨k + 1, m, ⟨T3.nx, T3.wd, T3.bl.set m (bw - 1)⟩, by go_num, by omega, rfl, HL3.out, t5, M5h.out, X4h.out, (S5.out.drewN nq).trans s5⟩
      case measure => simp [intOf]; omega
    · obtain rfl : k = q.length := by omega
      have c1 := vw.c1
      have hc := vw.W n (by omega)
      have hf := vw.fW n
      obtain ⟨t5, s5⟩ := hd_setW hl3 t3 n false
      have hx5 := hx3
      rw [List.take_length] at hx5
      have G5 := M3.rem HG.out.nodup hx5 HM.out
      have s45 := s3.trans s5
      have T5 := hide2 t5
      have G5h := hide2 G5
      have S5 := hide2 s45
      clear t5 G5 s45 s5 s3 t3 M3 vw hx3 hx5 hl3
      generalize T3.wd.getD n false = ov at *
      go_wp2
      go_ret
      exact ⟨rfl, _, T5.out, G5h.out, S5.out⟩
set_option maxRecDepth 100000 in
set_option maxHeartbeats 400000 in
theorem remove_calls (B p : Nat) (h : Hd) (T : TT) (P S : List Str) (q : Str) (w : World) (t : TrieAt w B p h T) (G : Good T P S) (hq : q.length ≤ 1000000) (hS : S.length ≤ 100000000) :
    Calls Ybmm.prog 15 #[.pointer (some ⟨p, 0, none⟩), Sv q] w fun e w' => e = .returned (.bool (decide (q ∈ S))) ∧ ∃ T', TrieAt w' B p h T' ∧ Good T' P (S.erase q) ∧ Stp p h w h w' := by
  by_cases hm : q ∈ S
  · rw [decide_eq_true hm]
    exact remove_there B p h T P S q w t G hq hS hm
  · have ha := has_calls B p h T P S q w t G (by unfold maxLen; omega)
    rw [decide_eq_false hm] at ha ⊢
    rw [List.erase_of_not_mem hm]
    have HA := hide2 ha
    have HG := hide2 G
    have T0 := hide2 t
    clear ha G t hm
    go_enter Ybmm.func15, Ybmm.ntmps15
    go_wp2_with (go_at_call 28; refine HA.out.mono ?_; rintro e w' ⟨rfl, he⟩; obtain rfl := he.symm)
    go_ret
    exact ⟨rfl, T, T0.out, HG.out, Stp.refl _ _ _⟩
end Go.Proofs.Ymbrbm
