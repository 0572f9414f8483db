/-
  The walk of LawS930010HListing. Own text.
-/
import Derived.Test.YmbrblHPlay
import Derived.Test.YmbrblSelect
import Derived.BigQuiet
namespace Go.Proofs.Ymbrbl
open Go.RowKit

set_option maxRecDepth 100000 in
set_option maxHeartbeats 1000000 in
theorem hlisting_walk (a : Option Addr) (b off m c : Nat) (O : List (Nat × Str)) (w : World) (ha : 0 < m → a = some ⟨b, off, none⟩) (hs : OpsB w b off m O) :
    Calls Yblm.prog 13 #[.slice a m c] w fun e w' => e = .returned (.bool true) ∧ Below w.heap.size w w' := by
  have hb := hbig_calls a b off m c O w ha hs
  have HA := hide2 ha
  have HS := hide2 hs
  have HBG := hide2 hb
  clear ha hs hb
  go_enter Yblm.func13, Yblm.ntmps13
  go_wp2_with fail
  refine HBG.out.mono ?_
  rintro e w' ⟨⟨bb, rfl, hbb⟩, he⟩
  obtain rfl := he.symm
  cases bb
  · obtain ⟨hm2, hl⟩ := hbb rfl
    obtain ⟨B, hB⟩ : ∃ B, w.heap.size = B := ⟨_, rfl⟩
    have HB := hide2 hB
    clear hB
    have t0 := trie_new w w.heap.size (Nat.le_refl _)
    have hs1 : OpsB (w.alloc (.cells #[.slice none 0 0, .slice none 0 0, .slice none 0 0] 29)) b off m O := by
      have bl := (Below.refl w.heap.size w).alloc (Nat.le_refl _) (.cells #[.slice none 0 0, .slice none 0 0, .slice none 0 0] 29)
      have hsw := HS.out
      exact ⟨fun h => Nat.lt_of_lt_of_le (hsw.lt h) bl.size, fun i hi => (bl.cell (p := ⟨b, off + i * 2, none⟩) (hsw.lt (by omega))).trans (hsw.c0 i hi), fun i hi => (bl.cell (p := ⟨b, off + i * 2 + 1, none⟩) (hsw.lt (by omega))).trans (hsw.c1 i hi), hsw.r0, hsw.l1⟩
    have hp := hplay_calls w.heap.size w.heap.size _ a b off m c O _ t0 (by simp) HA.out (fun h => HS.out.lt h) hs1 hm2 hl
    have HP := hide2 hp
    clear hp t0 hs1 hl hbb
    go_wp2_with fail
    refine HP.out.mono ?_
    rintro e w1 ⟨v, rfl, h, T, t, P, S, G, own, hP, hS, bel0⟩
    have bel : Below w.heap.size w w1 := ((Below.refl w.heap.size w).alloc (Nat.le_refl _) _).trans bel0
    rw [HB.out] at t own bel bel0 ⊢
    have hw1 : B ≤ w1.heap.size := by have := bel.size; have := HB.out; omega
    obtain ⟨x0, y0, rfl⟩ := ownsRow_slice own
    have wc := withp_calls B B h T P S [] w1 t G (by simp) (by omega) (by omega) hw1
    have T0 := hide2 t
    have HG := hide2 G
    have WC := hide2 wc
    clear t G own wc bel0
    go_wp2_with fail
    refine WC.out.mono ?_
    rintro e w3 ⟨g3, k3, R, rfl, own3, hg3, li, b3⟩
    have b4 : Below B w w3 := bel.trans (b3.mono hw1)
    have t3 := T0.out.below b3
    have hw3 : B ≤ w3.heap.size := by have := b3.size; omega
    have hRl := li.len HG.out.nodup
    rw [cnt_all] at hRl
    have O3 := hide2 own3
    have LI := hide2 li
    have T3 := hide2 t3
    have HRL := hide2 hRl
    have hne : ((R.length : Int) != (S.length : Int)) = false := by rw [hRl]; simp
    have hRb : R.length ≤ 256 := by omega
    clear own3 li hg3 t3 hRl
    go_wp2
    go_loopw [6] (fun iv wr => ∃ i : Nat, iv = .int .i64 i ∧ i ≤ R.length ∧ Below w3.heap.size w3 wr) (fun iv _ => R.length - (intOf iv).toNat)
    case atStart => exact ⟨0, rfl, Nat.zero_le _, Below.refl _ _⟩
    case round =>
      obtain ⟨i, rfl, hi, br⟩ := hrel
      have hwr : B ≤ wr.heap.size := by have := br.size; omega
      by_cases hlt : i < R.length
      · have si := select_in B B h T P S R i wr (T3.out.below br) HG.out LI.out hlt (by omega) (by omega) hwr
        have hc0 := fun (wx : World) (bx : Below w3.heap.size w3 wx) => own_cell (own_below O3.out bx) i _ (getD_map_sv R i hlt)
        have HC0 := hide2 hc0
        have SI := hide2 si
        clear hc0 si
        generalize R.getD i [] = x at SI HC0
        go_wp2_with fail
        refine SI.out.mono ?_
        rintro e w5 ⟨rfl, b5⟩
        have br5 : Below w3.heap.size w3 w5 := br.trans (b5.mono br.size)
        have hc := HC0.out w5 br5
        have hx2 : (x != x) = false := by simp
        have hx3 : (x == x) = true := by simp
        go_wp2
        go_roundw
        case rel => exact ⟨i + 1, by go_num, by omega, br5⟩
        case measure => simp [intOf]; omega
      · have s1 := select_out B B h T P S (-1) wr (T3.out.below br) HG.out (.inl (by omega))
        have s2 := select_out B B h T P S (R.length : Int) wr (T3.out.below br) HG.out (.inr (by have := HRL.out; omega))
        have S1 := hide2 s1
        have S2 := hide2 s2
        clear s1 s2
        go_wp2_with fail
        refine S1.out.mono ?_
        rintro e w' ⟨rfl, he⟩
        obtain rfl := he.symm
        go_wp2_with fail
        refine S2.out.mono ?_
        rintro e w' ⟨rfl, he⟩
        obtain rfl := he.symm
        go_wp2
        go_ret
        exact ⟨rfl, by rw [HB.out]; exact b4.trans (br.mono hw3)⟩
  · go_wp2
    go_ret
    exact ⟨rfl, Below.refl _ _⟩
end Go.Proofs.Ymbrbl
