/-
  zzs930010lscript: its contract. Own text.
-/
import Derived.Test.YmbrbmLFns
import Derived.Test.YmbrbmWithP
namespace Go.Proofs.Ymbrbm
open Go.RowKit

/-- The steps that came in: a byte, a flag and a word. -/
structure OpsL (w : World) (b off n : Nat) (S : List (Nat × Bool × Str)) : Prop where
  lt : 0 < n → b < w.heap.size
  c0 : ∀ i, i < n → w.cell? ⟨b, off + i * 3, none⟩ = some (.int .u8 (S.getD i (0, false, [])).1)
  c1 : ∀ i, i < n → w.cell? ⟨b, off + i * 3 + 1, none⟩ = some (.bool (S.getD i (0, false, [])).2.1)
  c2 : ∀ i, i < n → w.cell? ⟨b, off + i * 3 + 2, none⟩ = some (Sv (S.getD i (0, false, [])).2.2)
  r0 : ∀ i, i < n → (S.getD i (0, false, [])).1 ≤ 255
  l2 : ∀ i, i < n → (S.getD i (0, false, [])).2.2.length ≤ maxLen

set_option maxRecDepth 100000 in
set_option maxHeartbeats 1000000 in
theorem lscript_calls (a : Option Addr) (b off m c : Nat) (O : List (Nat × Bool × Str)) (w : World) (ha : 0 < m → a = some ⟨b, off, none⟩) (hs : OpsL w b off m O) (hm : m ≤ 256) :
    Calls Ybmm.prog 38 #[.slice a m c] w fun e w' => ∃ prev, e = .returned (.tuple #[.pointer (some ⟨w.heap.size, 0, none⟩), Sv prev]) ∧ prev.length ≤ 257 ∧ ∃ h T, TrieAt w' w.heap.size w.heap.size h T ∧ ∃ P S, Good T P S ∧ P.length ≤ 258 * m ∧ S.length ≤ m ∧ Below w.heap.size w w' := by
  have HA := hide2 ha
  have HS := hide2 hs
  clear ha hs
  go_enter Ybmm.func38, Ybmm.ntmps38
  go_wp2
  generalize hB : w.heap.size = B at *
  have hBw : B ≤ w.heap.size := by omega
  have HB := hide2 hB
  clear hB
  go_loopw [5, 6] (fun v i wr => ∃ (k : Nat) (prev : Str) (h : Hd) (T : TT) (P S : List Str), i = .int .i64 k ∧ k ≤ m ∧ v = Sv prev ∧ prev.length ≤ 257 ∧ TrieAt wr B B h T ∧ Good T P S ∧ P.length ≤ 258 * k ∧ S.length ≤ k ∧ Below B w wr) (fun _ i _ => m - (intOf i).toNat)
  case atStart =>
    have hB := HB.out
    subst hB
    exact ⟨0, [], _, TT.none, [], [], rfl, Nat.zero_le _, rfl, by simp, trie_new w w.heap.size (Nat.le_refl _), good_none, Nat.zero_le _, Nat.zero_le _, (Below.refl _ w).alloc (Nat.le_refl _) _⟩
  case round =>
    obtain ⟨k, prev, h, T, P, S, rfl, hk, rfl, hpl, t, G, hP, hS, bel⟩ := hrel
    have hwr : B ≤ wr.heap.size := by have := bel.size; omega
    have T0 := hide2 t
    have HG := hide2 G
    clear t G
    by_cases hlt : k < m
    · have hea := HA.out (by omega)
      subst hea
      have hbb : b < B := by have := HS.out.lt (by omega); have := HB.out; omega
      have d0 := (bel.cell (p := ⟨b, off + k * 3, none⟩) hbb).trans (HS.out.c0 k hlt)
      have d1 := (bel.cell (p := ⟨b, off + k * 3 + 1, none⟩) hbb).trans (HS.out.c1 k hlt)
      have d2 := (bel.cell (p := ⟨b, off + k * 3 + 2, none⟩) hbb).trans (HS.out.c2 k hlt)
      have r0 := HS.out.r0 k hlt
      have l1 := HS.out.l2 k hlt
      generalize (O.getD k (0, false, [])).1 = kd at d0 r0
      generalize (O.getD k (0, false, [])).2.1 = dl at d1
      generalize (O.getD k (0, false, [])).2.2 = raw at d2 l1
      have lw := fun w => lword_calls kd raw prev w r0 l1 hpl
      have LW := hide2 lw
      have z1 : (0 : Int) ≤ (k : Int) := by omega
      have z2 : (k : Int) < (m : Int) := by omega
      have D1 := hide2 d1
      clear lw d1
      obtain ⟨wo, hwo⟩ : ∃ wo, wo = wr := ⟨_, rfl⟩
      rw [← hwo] at bel hwr T0 d0 d2 D1
      subst hwo
      go_upto_region 6 with (fail)
      go_cut [7] (fun s7 wc => ∃ q, s7 = Sv q ∧ q.length ≤ 257 ∧ Below wo.heap.size wo wc)
      case first =>
        go_region_with (go_at_call 33; refine (LW.out _).mono ?_; rintro e w' ⟨q, rfl, hql, bq⟩)
        all_goals
          go_wp2
          go_meet
          case rel => exact ⟨_, rfl, hql, ((Below.refl wo.heap.size wo).drew).trans bq⟩
      case rest =>
        obtain ⟨q, rfl, hql, bq⟩ := hcut
        have t1 := T0.out.below bq
        have bel1 := bel.trans (bq.mono hwr)
        have hw1 : B ≤ wc.heap.size := by have := bq.size; omega
        have d1 := (bq.cell (p := ⟨b, off + k * 3 + 1, none⟩) (by show b < _; omega)).trans D1.out
        have T1 := hide2 t1
        clear t1
        cases dl
        · have hpl2 := insPs_len P q
          have hsl := insS_len S q
          have ic := insert_calls B B h T P S q wc T1.out HG.out (by omega) (by omega) (by omega) hw1
          have IC := hide2 ic
          clear ic
          generalize codeI S q = cd at IC
          go_wp2_with fail
          refine IC.out.mono ?_
          rintro e w2 ⟨rfl, h2, T2, t2, G2, s2⟩
          have b2 := bel1.trans (s2.t.below (fun k hk => (T1.out.foot_lt k hk).1) hw1)
          have T2h := hide2 t2
          have G2h := hide2 G2
          clear t2 G2 s2
          go_wp2
          go_roundw
          case rel => exact ⟨k + 1, q, h2, T2, insPs P q, insS S q, by go_num, by omega, rfl, hql, T2h.out, G2h.out, by omega, by omega, b2⟩
          case measure => simp [intOf]; omega
        · have rc := remove_calls B B h T P S q wc T1.out HG.out (by omega) (by omega)
          have RC := hide2 rc
          have hle := (List.length_erase_le : (S.erase q).length ≤ S.length)
          clear rc
          generalize decide (q ∈ S) = bb at RC
          go_wp2_with fail
          refine RC.out.mono ?_
          rintro e w2 ⟨rfl, T2, t2, G2, s2⟩
          have b2 := bel1.trans (s2.t.below (fun k hk => (T1.out.foot_lt k hk).1) hw1)
          have T2h := hide2 t2
          have G2h := hide2 G2
          clear t2 G2 s2
          go_wp2
          go_roundw
          case rel => exact ⟨k + 1, q, h, T2, P, S.erase q, by go_num, by omega, rfl, hql, T2h.out, G2h.out, by omega, by omega, b2⟩
          case measure => simp [intOf]; omega
    · have hB := HB.out
      subst hB
      go_wp2
      go_ret2
      exact ⟨prev, rfl, hpl, h, T, T0.out, P, S, HG.out, by omega, by omega, bel⟩
end Go.Proofs.Ymbrbm
