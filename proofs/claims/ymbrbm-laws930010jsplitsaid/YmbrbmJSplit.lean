/-
  The walk of LawS930010JSplit. Own text.
-/
import Derived.Test.YmbrbmJBuild
import Derived.Test.YmbrbmSplit
import Derived.BigQuiet
namespace Go.Proofs.Ymbrbm
open Go.RowKit

set_option maxRecDepth 100000 in
set_option maxHeartbeats 400000 in
theorem jsplit_big (a : Option Addr) (m c : Nat) (p : Str) (raw : Bool) (pick : Int) (w : World) (h : 256 < m ∨ 1024 < p.length) :
    Calls Ybmm.prog 7 #[.slice a m c, Sv p, .bool raw, .int .u8 pick] w fun e w' => e = .returned (.bool true) ∧ Below w.heap.size w w' := by
  by_cases h1 : 256 < m
  · have hd : decide ((256 : Int) < (m : Int)) = true := decide_eq_true (by omega)
    go_enter Ybmm.func7, Ybmm.ntmps7
    go_wp2
    go_ret
    exact ⟨rfl, Below.refl _ _⟩
  · have hd : decide ((256 : Int) < (m : Int)) = false := decide_eq_false (by omega)
    have hd2 : decide ((1024 : Int) < (p.length : Int)) = true := decide_eq_true (by omega)
    go_enter Ybmm.func7, Ybmm.ntmps7
    go_wp2
    go_ret
    exact ⟨rfl, Below.refl _ _⟩

theorem getD_pre {A R : List Str} {i : Nat} (h : A <+: R) (hi : i < A.length) : i < R.length ∧ R.getD i [] = A.getD i [] := by
  obtain ⟨r, rfl⟩ := h
  refine ⟨by rw [List.length_append]; omega, ?_⟩
  rw [List.getD_eq_getElem?_getD, List.getElem?_append_left hi, ← List.getD_eq_getElem?_getD]
theorem getD_app_right (A B : List Str) (i : Nat) : (A ++ B).getD (A.length + i) [] = B.getD i [] := by
  rw [List.getD_eq_getElem?_getD, List.getElem?_append_right (by omega), Nat.add_sub_cancel_left, ← List.getD_eq_getElem?_getD]

set_option maxRecDepth 100000 in
set_option maxHeartbeats 1000000 in
theorem jsplit_walk (a : Option Addr) (b off m c : Nat) (O : List (Nat × Str)) (p : Str) (raw : Bool) (pick : Nat) (w : World) (ha : 0 < m → a = some ⟨b, off, none⟩) (hs : OpsB w b off m O) (hm : m ≤ 256) (hpk : pick ≤ 255) (hpl : p.length ≤ 1024) :
    Calls Ybmm.prog 7 #[.slice a m c, Sv p, .bool raw, .int .u8 pick] w fun e w' => e = .returned (.bool true) ∧ Below w.heap.size w w' := by
  have hd : decide ((256 : Int) < (m : Int)) = false := decide_eq_false (by omega)
  have hd2 : decide ((1024 : Int) < (p.length : Int)) = false := decide_eq_false (by omega)
  have HA := hide2 ha
  have HS := hide2 hs
  clear ha hs
  go_enter Ybmm.func7, Ybmm.ntmps7
  go_wp2_with fail
  refine (jbuild_calls a b off m c O w HA.out HS.out hm).mono ?_
  rintro e w1 ⟨v, rfl, h, T, t, P, S, G, so, own, hP, hS, bel⟩
  generalize hB : w.heap.size = B at *
  have HB := hide2 hB
  clear hB
  have hw1 : B ≤ w1.heap.size := by have := bel.size; have := HB.out; omega
  obtain ⟨x0, y0, rfl⟩ := ownsRow_slice own
  have hls : ∀ s ∈ S, s.length ≤ 100000 := fun s hs => by have := G.tree.paths.lenM (G.sub _ hs); omega
  have jq := jquery_calls B _ _ S p raw pick w1 rfl own (by omega) hpk hls (by unfold maxLen; omega)
  have T0 := hide2 t
  have HG := hide2 G
  have SO := hide2 so
  have JQ := hide2 jq
  clear t G so own jq hls
  go_wp2_with fail
  refine JQ.out.mono ?_
  rintro e w2 ⟨q, rfl, hq, b2⟩
  have hql : q.length ≤ 100000 := by
    rcases hq with rfl | hq
    · omega
    · exact hq
  have hw2 : B ≤ w2.heap.size := by have := b2.size; omega
  have wc := withp_calls B B h T P S q w2 (T0.out.below b2) HG.out (by unfold maxLen; omega) (by omega) (by omega) hw2
  have WC := hide2 wc
  clear wc hq
  go_wp2_with fail
  refine WC.out.mono ?_
  rintro e w3 ⟨g3, k3, R, rfl, own3, hg3, li, b3⟩
  have hR : R = spl S q 26 := (li.eq SO.out).trans (HG.out.split SO.out q)
  have hRl : R.length ≤ S.length := by rw [li.eq SO.out]; exact List.length_filter_le _ _
  have b4 : Below B w w3 := (bel.trans (b2.mono hw1)).trans (b3.mono hw2)
  have t3 := (T0.out.below b2).below b3
  have hw3 : B ≤ w3.heap.size := by have := b3.size; omega
  have hc := has_calls B B h T P S q w3 t3 HG.out (by unfold maxLen; omega)
  obtain ⟨bb, hbb⟩ : ∃ bb, decide (q ∈ S) = bb := ⟨_, rfl⟩
  rw [hbb] at hc
  have hz : spl S q 0 = if bb = true then [q] else [] := by rw [spl_zero, ← hbb]; simp
  have hp0 := spl_pre S q (l := 0) (by omega)
  rw [← hR] at hp0
  have O3 := hide2 own3
  have HR := hide2 hR
  have T3 := hide2 t3
  have HC := hide2 hc
  have HZ := hide2 hz
  have HP0 := hide2 hp0
  clear own3 hR li hg3 t3 hc hbb hz hp0
  go_upto_if 40 with (go_at_call 28; refine HC.out.mono ?_; rintro e w' ⟨rfl, he⟩; obtain rfl := he.symm)
  go_cut [13] (fun s13 wc => s13 = .int .i64 ((spl S q 0).length : Nat) ∧ wc = w3)
  case first =>
    cases bb
    · have hl0 : (spl S q 0).length = 0 := by rw [HZ.out]; rfl
      have HL0 := hide2 hl0
      clear hl0
      go_wp2
      go_meet
      case rel => exact ⟨by rw [HL0.out]; rfl, rfl⟩
    · have hl0 : (spl S q 0).length = 1 := by rw [HZ.out]; rfl
      obtain ⟨hr1, hr2⟩ := getD_pre HP0.out (i := 0) (by omega)
      have hc0 := own_cell O3.out 0 _ (getD_map_sv R 0 hr1)
      rw [hr2, HZ.out] at hc0
      have hc1 : w3.cell? ⟨g3, 0, none⟩ = some (Sv q) := hc0
      have hn0 : ((R.length : Int) == 0) = false := beq_eq_false_iff_ne.2 (by omega)
      have hne : (q != q) = false := by simp
      have HL0 := hide2 hl0
      clear hl0 hc0 hr2
      go_wp2
      go_meet
      case rel => exact ⟨by rw [HL0.out]; rfl, rfl⟩
  case rest =>
    obtain ⟨rfl, rfl⟩ := hcut
    go_wp2
    go_loopw [13, 14] (fun jv lv wr => ∃ l : Nat, lv = .int .i64 l ∧ l ≤ 26 ∧ jv = .int .i64 ((spl S q l).length : Nat) ∧ Below wc.heap.size wc wr) (fun _ lv _ => 26 - (intOf lv).toNat)
    case atStart => exact ⟨0, rfl, Nat.zero_le _, rfl, Below.refl _ _⟩
    case round =>
      obtain ⟨l, rfl, hl, rfl, br⟩ := hrel
      have hwr : B ≤ wr.heap.size := by have := br.size; omega
      by_cases hlt : l < 26
      · have rl := run_letter l wr.heap.size (wr.alloc (.cells #[.int .u8 (97 + (l : Int))] 5)) (by simp)
        have hcl : ¬ (9223372036854775807 < List.length q + 1) := by omega
        have rw1 : IntKind.i64.wrap (97 + (l : Int)) = 97 + (l : Int) := by rw [IntKind.wrap_i64]; omega
        have rw2 : IntKind.u8.wrap (97 + (l : Int)) = 97 + (l : Int) := by rw [IntKind.wrap_u8]; omega
        have ba : Below wr.heap.size wr (wr.alloc (.cells #[.int .u8 (97 + (l : Int))] 5)) := (Below.refl _ wr).alloc (Nat.le_refl _) _
        have wp := withp_calls B B h T P S (q ++ [ltr l]) (wr.alloc (.cells #[.int .u8 (97 + (l : Int))] 5)) ((T3.out.below br).below ba) HG.out (by unfold maxLen; rw [List.length_append]; simp; omega) (by omega) (by omega) (by have := ba.size; omega)
        have WP := hide2 wp
        have hss := spl_succ S q l
        have hpr := spl_pre S q (l := l + 1) (by omega)
        rw [← HR.out, hss] at hpr
        have HSS := hide2 hss
        have HPR := hide2 hpr
        have BA := hide2 ba
        clear wp hss hpr ba
        obtain ⟨j0, hj0⟩ : ∃ j0, (spl S q l).length = j0 := ⟨_, rfl⟩
        rw [hj0]
        have HJ0 := hide2 hj0
        clear hj0
        go_wp2_with (go_at_call 24; rw [sv_append1]; go_must (refine WP.out.mono ?_); rintro e w5 ⟨g5, k5, Q, rfl, own5, hg5, li5, b5⟩)
        have hQ : Q = withL S (q ++ [ltr l]) := li5.eq SO.out
        have bel5 : Below wc.heap.size wc w5 := (br.trans (BA.out.mono br.size)).trans (b5.mono (by have := br.size; have := BA.out.size; omega))
        have O5 := hide2 own5
        have HQ := hide2 hQ
        clear own5 hQ li5 hg5 rl
        rw [← HQ.out] at HPR HSS
        have hQl : j0 + Q.length ≤ R.length := by
          have := HPR.out.length_le
          rw [List.length_append, HJ0.out] at this
          exact this
        go_loopw [13, 16] (fun jv iv wx => ∃ i : Nat, iv = .int .i64 i ∧ i ≤ Q.length ∧ jv = .int .i64 (j0 + i : Nat) ∧ Below w5.heap.size w5 wx) (fun _ iv _ => Q.length - (intOf iv).toNat)
        case atStart => exact ⟨0, rfl, Nat.zero_le _, rfl, Below.refl _ _⟩
        case round =>
          obtain ⟨i, rfl, hi, rfl, bx⟩ := hrel
          by_cases hiq : i < Q.length
          · have o5 := own_below O5.out bx
            have o3 := own_below (own_below O3.out bel5) bx
            obtain ⟨h1, h2⟩ := getD_pre HPR.out (i := j0 + i) (by rw [List.length_append, HJ0.out]; omega)
            rw [← HJ0.out, getD_app_right, HJ0.out] at h2
            have c5 := own_cell o5 i _ (getD_map_sv Q i hiq)
            have c3 := own_cell o3 (j0 + i) _ (getD_map_sv R (j0 + i) h1)
            rw [h2] at c3
            clear o5 o3 h2
            generalize Q.getD i [] = sk at c3 c5
            have hne : (sk != sk) = false := by simp
            obtain ⟨ji, hji⟩ : ∃ ji, j0 + i = ji := ⟨_, rfl⟩
            have hj1 : j0 + (i + 1) = ji + 1 := by omega
            rw [hji] at c3 h1 ⊢
            clear hji
            go_wp2
            go_quiet (fail)
            go_wp2
            go_roundw
            case rel => exact ⟨i + 1, by go_num, by omega, by rw [hj1]; go_num, Below.drewN bx _⟩
            case measure => simp [intOf]; omega
          · obtain rfl : i = Q.length := by omega
            have hfin : j0 + Q.length = (spl S q (l + 1)).length := by rw [HSS.out, List.length_append, HJ0.out]
            rw [hfin]
            clear hfin
            go_wp2
            go_roundw
            case rel => exact ⟨l + 1, by go_num, by omega, rfl, bel5.trans (bx.mono bel5.size)⟩
            case measure => simp [intOf]; omega
      · have hll : (spl S q l).length = R.length := by rw [show l = 26 by omega, ← HR.out]
        rw [hll]
        have hbb : ((R.length : Int) == (R.length : Int)) = true := by simp
        clear hll
        go_wp2
        go_ret
        exact ⟨rfl, by rw [HB.out]; exact b4.trans (br.mono hw3)⟩
end Go.Proofs.Ymbrbm
