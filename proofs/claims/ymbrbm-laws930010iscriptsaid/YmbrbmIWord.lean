/-
  zzs930010iword: its contract. Own text.
-/
import Derived.Test.YmbrbmBytes
namespace Go.Proofs.Ymbrbm
open Go.RowKit

def iwordOf (s : Str) : Str := (s.take 16).map (fun c => ltr (c.toNat % 26))
theorem iwordOf_len (s : Str) : (iwordOf s).length ≤ 16 := by unfold iwordOf; rw [List.length_map, List.length_take]; omega
set_option maxRecDepth 100000 in
set_option maxHeartbeats 400000 in
theorem iword_calls (s : Str) (w : World) :
    Calls Ybmm.prog 14 #[Sv s] w fun e w' => e = .returned (Sv (iwordOf s)) ∧ Below w.heap.size w w' := by
  go_enter Ybmm.func14, Ybmm.ntmps14
  go_wp2
  generalize hB : w.heap.size = B at *
  have hBw : B ≤ w.heap.size := by omega
  have HB := hide2 hB
  clear hB
  go_loopw [3, 4] (fun v i wr => ∃ (k g y : Nat) (X : List Value), i = .int .i64 k ∧ k ≤ s.length ∧ k ≤ 16 ∧ v = .slice (some ⟨g, 0, none⟩) k y ∧ wr.ownsRow B 5 1 v k X ∧ X = ((s.take k).map (fun c => ltr (c.toNat % 26))).map Bv ∧ Below B w wr) (fun _ i _ => s.length - (intOf i).toNat)
  case atStart =>
    have hB := HB.out
    subst hB
    refine ⟨0, _, _, _, rfl, Nat.zero_le _, Nat.zero_le _, rfl, ?_, rfl, (Below.refl _ w).alloc (Nat.le_refl _) _⟩
    exact own_empty5 w w.heap.size (Nat.le_refl _)
  case round =>
    obtain ⟨k, g, y, X, rfl, hk, hk2, rfl, own, hX, bel⟩ := hrel
    have HX := hide2 hX
    clear hX
    have hwr : B ≤ wr.heap.size := by have := bel.size; omega
    by_cases hlt : k < s.length ∧ k < 16
    · obtain ⟨h1, h2⟩ := hlt
      have hsz : k < (⟨s.toArray⟩ : ByteArray).size := h1
      obtain ⟨c, hc⟩ : ∃ c : UInt8, ((⟨s.toArray⟩ : ByteArray)[k]'hsz) = c := ⟨_, rfl⟩
      have hc2 : s[k] = c := hc
      have hcl := c.toNat_lt
      obtain ⟨l, hl, hl26⟩ : ∃ l : Nat, (c.toNat : Int) % 26 = (l : Int) ∧ l = c.toNat % 26 := ⟨c.toNat % 26, by simp, rfl⟩
      have hl27 : l < 26 := by omega
      have hl3 : Int.tmod (c.toNat : Int) 26 = (l : Int) := by rw [← hl]; exact Int.tmod_eq_emod_of_nonneg (by omega)
      have rw2 : IntKind.u8.wrap (97 + (l : Int)) = 97 + (l : Int) := by rw [IntKind.wrap_u8]; omega
      have hfin : ((s.take (k + 1)).map (fun c => ltr (c.toNat % 26))).map Bv = X ++ [.int .u8 (97 + (l : Int))] := by
        rw [HX.out, List.take_succ_eq_append_getElem h1, List.map_append, List.map_append, hc2]
        simp only [List.map_cons, List.map_nil]
        rw [← hl26, Bv, ltr_toNat hl27]
        rfl
      have HF := hide2 hfin
      have OW := hide2 own
      clear hfin own hl26 hc2
      go_wp2_with (at_builtin; go_must (refine wpList_app_byte (.tmp 16) (.tmp 22) rfl rfl B k _ _ rfl OW.out _ wr.heap.size rfl rfl (by omega) hwr ?_))
      intro g5 k5 w5 ow5 b5
      have OW5 := hide2 ow5
      clear ow5
      go_wp2
      go_roundw
      case rel => exact ⟨k + 1, g5, k5, _, by go_num, by omega, by omega, rfl, OW5.out, HF.out.symm, bel.trans b5⟩
      case measure => simp [intOf]; omega
    · have hfin : X = (iwordOf s).map Bv := by
        rw [HX.out]
        unfold iwordOf
        by_cases h1 : k < s.length
        · rw [show k = 16 by omega]
        · rw [List.take_of_length_le (by omega), List.take_of_length_le (by omega)]
      rw [hfin] at own
      have cv := bytes_str own
      have hd1 : (decide ((k : Int) < (s.length : Int)) && decide ((k : Int) < 16)) = false := by
        rw [Bool.and_eq_false_iff, decide_eq_false_iff_not, decide_eq_false_iff_not]; omega
      have HF := hide2 hfin
      clear hfin own
      generalize hr : iwordOf s = r at *
      have HR := hide2 hr
      clear hr
      go_wp2
      all_goals
        go_ret
        exact ⟨by rw [HR.out]; rfl, by rw [HB.out]; exact bel⟩
end Go.Proofs.Ymbrbm
