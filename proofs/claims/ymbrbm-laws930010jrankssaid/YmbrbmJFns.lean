/-
  zzs930010jput, zzs930010jdrop, zzs930010jword, zzs930010jquery: their contracts. Own text.
-/
import Derived.Test.YmbrbmPut
import Derived.Test.YmbrbmBytes
namespace Go.Proofs.Ymbrbm
open Go.RowKit

theorem own_mono {w : World} {B B' e sz n : Nat} {v : Value} {xs : List Value} (h : w.ownsRow B e sz v n xs) (hB : B' ≤ B) : w.ownsRow B' e sz v n xs := by
  refine ⟨h.1, ?_⟩
  rcases h.2 with hn | ⟨g, cap, cur, rfl, hbg, rest⟩
  · exact .inl hn
  · exact .inr ⟨g, cap, cur, rfl, Nat.le_trans hB hbg, rest⟩
theorem put_len_le {ss : List Str} {q : Str} {k : Nat} {d : Bool} (h : k ≤ ss.length) : (putD (ss.take k) q d).length ≤ 2 * ss.length + 1 := by
  have h1 : (ss.take k).length ≤ ss.length := by rw [List.length_take]; omega
  unfold putD
  split
  · have := putS_len (ss.take k) q; omega
  · omega

set_option maxRecDepth 100000 in
set_option maxHeartbeats 1000000 in
theorem jput_calls (B : Nat) (v : Value) (n : Nat) (ss : List Str) (q : Str) (w : World) (hn : ss.length = n) (own : w.ownsRow B 9 1 v n (ss.map Sv)) (hs : Sorted ss) (hb : n ≤ 1000000) :
    Calls Ybmm.prog 44 #[v, Sv q] w fun e w' => ∃ g k, e = .returned (.slice (some ⟨g, 0, none⟩) (putS ss q).length k) ∧ w'.ownsRow w.heap.size 9 1 (.slice (some ⟨g, 0, none⟩) (putS ss q).length k) (putS ss q).length ((putS ss q).map Sv) ∧ Below w.heap.size w w' := by
  obtain ⟨a, c, rfl⟩ := ownsRow_slice own
  have HN := hide2 hn
  have HS := hide2 hs
  have OW := hide2 own
  clear hn hs own
  go_enter Ybmm.func44, Ybmm.ntmps44
  go_wp2
  generalize hB : w.heap.size = N at *
  have hBw : N ≤ w.heap.size := by omega
  have HB := hide2 hB
  clear hB
  go_loopw [5, 6, 7] (fun v d i wr => ∃ (k g y : Nat) (dd : Bool) (L : List Str), i = .int .i64 k ∧ k ≤ n ∧ d = .bool dd ∧ v = .slice (some ⟨g, 0, none⟩) L.length y ∧ L = putD (ss.take k) q dd ∧ PutD (ss.take k) q dd ∧ wr.ownsRow N 9 1 v L.length (L.map Sv) ∧ Below N w wr) (fun _ _ i _ => n - (intOf i).toNat)
  case atStart =>
    have hB := HB.out
    subst hB
    exact ⟨0, _, _, false, [], rfl, Nat.zero_le _, rfl, rfl, rfl, putD_start q, own_empty w w.heap.size (Nat.le_refl _), (Below.refl _ w).alloc (Nat.le_refl _) _⟩
  case round =>
    obtain ⟨k, g0, y0, dd, L, rfl, hk, rfl, rfl, hL, pd, own2, bel⟩ := hrel
    have hwr : N ≤ wr.heap.size := by have := bel.size; omega
    have hll : L.length ≤ 2 * n + 1 := by rw [hL, ← HN.out]; exact put_len_le (by have := HN.out; omega)
    have HLE := hide2 hL
    have PD := hide2 pd
    have O2 := hide2 own2
    clear hL pd own2
    by_cases hlt : k < n
    · obtain ⟨g, cap, he, _, _⟩ := OW.out.form (by omega)
      obtain ⟨rfl, rfl⟩ : a = some ⟨g, 0, none⟩ ∧ c = cap := by simpa using he
      have oww := own_below OW.out (by rw [HB.out]; exact bel)
      have hc := own_cell oww k _ (getD_map_sv ss k (by have := HN.out; omega))
      have hst := sorted_take HS.out (k := k) (by have := HN.out; omega)
      have ht := take_snoc ss k [] (by have := HN.out; omega)
      have HST := hide2 hst
      have HT := hide2 ht
      clear he hst ht oww
      generalize hsk : ss.getD k [] = sk at hc HST HT
      have HSK := hide2 hsk
      clear hsk
      cases dd
      · cases h1 : bl q sk
        · cases h2 : (q == sk)
          · have h3 : bl sk q = true := by
              rcases bl_tri q sk with h | h | h
              · rw [h1] at h; cases h
              · subst h; simp at h2
              · exact h
            have pd2 := PD.out.less h3
            rw [← HT.out] at pd2
            have PD2 := hide2 pd2
            have hl2 : L ++ [sk] = putD (ss.take (k + 1)) q false := by rw [HT.out, HLE.out]; rfl
            have HL2 := hide2 hl2
            have g1 : Op.bytesLess q sk = false := h1
            clear pd2 hl2 h3 h1
            go_wp2_with (at_builtin; go_must (refine wpList_app_str (.tmp 35) (.tmp 40) rfl rfl N _ _ _ rfl O2.out sk wr.heap.size rfl rfl (by omega) hwr ?_))
            intro g5 k5 w5 ow5 st5
            have O5 := hide2 ow5
            have b5 := bel.trans (st5.toBelow (fun k hk => (O2.out.lt k hk).1) hwr)
            clear ow5 st5
            go_wp2
            go_roundw
            case rel =>
              refine ⟨k + 1, g5, k5, false, L ++ [sk], by go_num, by omega, rfl, by rw [List.length_append]; rfl, HL2.out, PD2.out, ?_, b5⟩
              rw [List.map_append, List.length_append]
              exact O5.out
            case measure => simp [intOf]; omega
          · have e : q = sk := by simpa using h2
            subst e
            obtain ⟨pd2, hp2⟩ := PD.out.same
            have hl2 : L ++ [q] = putD (ss.take (k + 1)) q true := by
              rw [HLE.out, HT.out]
              exact hp2.symm
            rw [← HT.out] at pd2
            have PD2 := hide2 pd2
            have HL2 := hide2 hl2
            have g1 : Op.bytesLess q q = false := h1
            clear pd2 hp2 hl2 h1
            go_wp2_with (at_builtin; go_must (refine wpList_app_str (.tmp 35) (.tmp 40) rfl rfl N _ _ _ rfl O2.out q wr.heap.size rfl rfl (by omega) hwr ?_))
            intro g5 k5 w5 ow5 st5
            have O5 := hide2 ow5
            have b5 := bel.trans (st5.toBelow (fun k hk => (O2.out.lt k hk).1) hwr)
            clear ow5 st5
            go_wp2
            go_roundw
            case rel =>
              refine ⟨k + 1, g5, k5, true, L ++ [q], by go_num, by omega, rfl, by rw [List.length_append]; rfl, HL2.out, PD2.out, ?_, b5⟩
              rw [List.map_append, List.length_append]
              exact O5.out
            case measure => simp [intOf]; omega
        · obtain ⟨pd2, hp2⟩ := PD.out.put h1
          rw [← HT.out] at pd2 hp2
          have PD2 := hide2 pd2
          have hl2 : L ++ [q] ++ [sk] = putD (ss.take (k + 1)) q true := by
            rw [HLE.out]
            exact hp2.symm
          have HL2 := hide2 hl2
          have g1 : Op.bytesLess q sk = true := h1
          clear pd2 hp2 hl2 h1
          go_wp2_with (at_builtin; go_must (refine wpList_app_str (.tmp 31) (.tmp 33) rfl rfl N _ _ _ rfl O2.out q wr.heap.size rfl rfl (by omega) hwr ?_))
          intro g4 k4 w4 ow5 st5
          have O4 := hide2 ow5
          have b4 := bel.trans (st5.toBelow (fun k hk => (O2.out.lt k hk).1) hwr)
          clear ow5 st5
          have hw4 : N ≤ w4.heap.size := by have := b4.size; omega
          have oww4 := own_below OW.out (by rw [HB.out]; exact b4)
          have hc4 := own_cell oww4 k _ (getD_map_sv ss k (by have := HN.out; omega))
          rw [HSK.out] at hc4
          clear oww4 hc
          go_wp2_with (at_builtin; go_must (refine wpList_app_str (.tmp 35) (.tmp 40) rfl rfl N _ _ _ rfl O4.out sk w4.heap.size rfl rfl (by omega) hw4 ?_))
          intro g5 k5 w5 ow5 st5
          have O5 := hide2 ow5
          have b5 := b4.trans (st5.toBelow (fun k hk => (O4.out.lt k hk).1) hw4)
          clear ow5 st5
          go_wp2
          go_roundw
          case rel =>
            refine ⟨k + 1, g5, k5, true, L ++ [q] ++ [sk], by go_num, by omega, rfl, by rw [List.length_append, List.length_append]; rfl, HL2.out, PD2.out, ?_, b5⟩
            rw [List.map_append, List.length_append, List.map_append, List.length_append, List.append_assoc]
            exact O5.out
          case measure => simp [intOf]; omega
      · obtain ⟨pd2, hp2, _⟩ := PD.out.more HST.out
        rw [← HT.out] at pd2 hp2
        have PD2 := hide2 pd2
        have hl2 : L ++ [sk] = putD (ss.take (k + 1)) q true := by
          rw [HLE.out]
          exact hp2.symm
        have HL2 := hide2 hl2
        clear pd2 hp2 hl2
        go_wp2_with (at_builtin; go_must (refine wpList_app_str (.tmp 35) (.tmp 40) rfl rfl N _ _ _ rfl O2.out sk wr.heap.size rfl rfl (by omega) hwr ?_))
        intro g5 k5 w5 ow5 st5
        have O5 := hide2 ow5
        have b5 := bel.trans (st5.toBelow (fun k hk => (O2.out.lt k hk).1) hwr)
        clear ow5 st5
        go_wp2
        go_roundw
        case rel =>
          refine ⟨k + 1, g5, k5, true, L ++ [sk], by go_num, by omega, rfl, by rw [List.length_append]; rfl, HL2.out, PD2.out, ?_, b5⟩
          rw [List.map_append, List.length_append]
          exact O5.out
        case measure => simp [intOf]; omega
    · have hall : ss.take k = ss := List.take_of_length_le (by have := HN.out; omega)
      rw [hall] at HLE PD
      cases dd
      · have hl2 : L ++ [q] = putS ss q := by rw [HLE.out, PD.out.last]; rfl
        have HL2 := hide2 hl2
        clear hl2
        go_wp2_with (at_builtin; go_must (refine wpList_app_str (.tmp 44) (.tmp 46) rfl rfl N _ _ _ rfl O2.out q wr.heap.size rfl rfl (by omega) hwr ?_))
        intro g5 k5 w5 ow5 st5
        have O5 := hide2 ow5
        have b5 := bel.trans (st5.toBelow (fun k hk => (O2.out.lt k hk).1) hwr)
        clear ow5 st5
        go_wp2
        go_ret
        rw [HB.out]
        have := O5.out
        rw [← HL2.out]
        refine ⟨g5, k5, by rw [List.length_append]; rfl, ?_, b5⟩
        rw [List.map_append, List.length_append]
        exact this
      · have hl2 : L = putS ss q := HLE.out
        have HL2 := hide2 hl2
        clear hl2
        go_wp2
        go_ret
        rw [HB.out, ← HL2.out]
        exact ⟨g0, y0, rfl, O2.out, bel⟩
set_option maxRecDepth 100000 in
set_option maxHeartbeats 1000000 in
theorem jdrop_calls (B : Nat) (v : Value) (n : Nat) (ss : List Str) (j : Nat) (w : World) (hn : ss.length = n) (own : w.ownsRow B 9 1 v n (ss.map Sv)) (hb : n ≤ 1000000) :
    Calls Ybmm.prog 42 #[v, .int .i64 j] w fun e w' => ∃ g k, e = .returned (.slice (some ⟨g, 0, none⟩) (ss.eraseIdx j).length k) ∧ w'.ownsRow w.heap.size 9 1 (.slice (some ⟨g, 0, none⟩) (ss.eraseIdx j).length k) (ss.eraseIdx j).length ((ss.eraseIdx j).map Sv) ∧ Below w.heap.size w w' := by
  obtain ⟨a, c, rfl⟩ := ownsRow_slice own
  have HN := hide2 hn
  have OW := hide2 own
  clear hn own
  go_enter Ybmm.func42, Ybmm.ntmps42
  go_wp2
  generalize hB : w.heap.size = N at *
  have hBw : N ≤ w.heap.size := by omega
  have HB := hide2 hB
  clear hB
  go_loopw [5, 6] (fun v i wr => ∃ (k g y : Nat) (L : List Str), i = .int .i64 k ∧ k ≤ n ∧ v = .slice (some ⟨g, 0, none⟩) L.length y ∧ L = (ss.take k).eraseIdx j ∧ wr.ownsRow N 9 1 v L.length (L.map Sv) ∧ Below N w wr) (fun _ i _ => n - (intOf i).toNat)
  case atStart =>
    have hB := HB.out
    subst hB
    exact ⟨0, _, _, [], rfl, Nat.zero_le _, rfl, by simp, own_empty w w.heap.size (Nat.le_refl _), (Below.refl _ w).alloc (Nat.le_refl _) _⟩
  case round =>
    obtain ⟨k, g0, y0, L, rfl, hk, rfl, hL, own2, bel⟩ := hrel
    have hwr : N ≤ wr.heap.size := by have := bel.size; omega
    have hll : L.length ≤ n := by
      rw [hL]
      have := (List.eraseIdx_sublist (ss.take k) j).length_le
      rw [List.length_take] at this
      have := HN.out
      omega
    have HLE := hide2 hL
    have O2 := hide2 own2
    clear hL own2
    by_cases hlt : k < n
    · obtain ⟨g, cap, he, _, _⟩ := OW.out.form (by omega)
      obtain ⟨rfl, rfl⟩ : a = some ⟨g, 0, none⟩ ∧ c = cap := by simpa using he
      have oww := own_below OW.out (by rw [HB.out]; exact bel)
      have hc := own_cell oww k _ (getD_map_sv ss k (by have := HN.out; omega))
      have ht := take_snoc ss k [] (by have := HN.out; omega)
      have hkl : (ss.take k).length = k := by rw [List.length_take]; have := HN.out; omega
      have HT := hide2 ht
      have HKL := hide2 hkl
      clear he ht oww hkl
      generalize ss.getD k [] = sk at hc HT
      by_cases hkj : k = j
      · subst hkj
        have hl2 : L = (ss.take (k + 1)).eraseIdx k := by
          rw [HT.out, HLE.out]
          have := erase_snoc_eq (ss.take k) sk
          rw [HKL.out] at this
          rw [this, List.eraseIdx_of_length_le (by rw [HKL.out]; exact Nat.le_refl _)]
        have HL2 := hide2 hl2
        clear hl2
        have hbb : ((k : Int) != (k : Int)) = false := by simp
        go_wp2
        go_roundw
        case rel => exact ⟨k + 1, g0, y0, L, by go_num, by omega, rfl, HL2.out, O2.out, bel⟩
        case measure => simp [intOf]; omega
      · have hl2 : L ++ [sk] = (ss.take (k + 1)).eraseIdx j := by
          rw [HT.out, HLE.out, erase_snoc_ne _ _ _ (by rw [HKL.out]; omega)]
        have HL2 := hide2 hl2
        clear hl2
        have hbb : ((k : Int) != (j : Int)) = true := by rw [bne_iff_ne]; omega
        go_wp2_with (at_builtin; go_must (refine wpList_app_str (.tmp 17) (.tmp 22) rfl rfl N _ _ _ rfl O2.out sk wr.heap.size rfl rfl (by omega) hwr ?_))
        intro g5 k5 w5 ow5 st5
        have O5 := hide2 ow5
        have b5 := bel.trans (st5.toBelow (fun k hk => (O2.out.lt k hk).1) hwr)
        clear ow5 st5
        go_wp2
        go_roundw
        case rel =>
          refine ⟨k + 1, g5, k5, L ++ [sk], by go_num, by omega, by rw [List.length_append]; rfl, HL2.out, ?_, b5⟩
          rw [List.map_append, List.length_append]
          exact O5.out
        case measure => simp [intOf]; omega
    · have hall : ss.take k = ss := List.take_of_length_le (by have := HN.out; omega)
      rw [hall] at HLE
      go_wp2
      go_ret
      rw [HB.out, ← HLE.out]
      exact ⟨g0, y0, rfl, O2.out, bel⟩

theorem valid_app (a : Str) (l : Nat) (ha : valid a = true) (hl : l < 26) : valid (a ++ [ltr l]) = true := by
  unfold valid at *
  rw [List.all_append, ha]
  have := ltr_toNat hl
  simp [this]
  omega

set_option maxRecDepth 100000 in
set_option maxHeartbeats 1000000 in
theorem jword_calls (s : Str) (lim : Nat) (w : World) (hlim : lim ≤ 1000000) :
    Calls Ybmm.prog 43 #[Sv s, .int .i64 lim] w fun e w' => ∃ r, e = .returned (Sv r) ∧ valid r = true ∧ r.length ≤ lim ∧ Below w.heap.size w w' := by
  go_enter Ybmm.func43, Ybmm.ntmps43
  go_wp2
  generalize hB : w.heap.size = B at *
  have hBw : B ≤ w.heap.size := by omega
  have HB := hide2 hB
  clear hB
  go_loopw [5, 6] (fun v i wr => ∃ (k g y : Nat) (X : List Value) (r : Str), i = .int .i64 k ∧ k ≤ s.length ∧ k ≤ lim ∧ v = .slice (some ⟨g, 0, none⟩) k y ∧ wr.ownsRow B 5 1 v k X ∧ X = r.map Bv ∧ valid r = true ∧ r.length = k ∧ Below B w wr) (fun _ i _ => s.length - (intOf i).toNat)
  case atStart =>
    have hB := HB.out
    subst hB
    exact ⟨0, _, _, _, [], rfl, Nat.zero_le _, Nat.zero_le _, rfl, own_empty5 w w.heap.size (Nat.le_refl _), rfl, rfl, rfl, (Below.refl _ w).alloc (Nat.le_refl _) _⟩
  case round =>
    obtain ⟨k, g, y, X, r, rfl, hk, hk2, rfl, own, hX, hv, hrl, bel⟩ := hrel
    have HX := hide2 hX
    have HV := hide2 hv
    have HRL := hide2 hrl
    clear hX hv hrl
    have hwr : B ≤ wr.heap.size := by have := bel.size; omega
    by_cases hlt : k < s.length ∧ k < lim
    · obtain ⟨h1, h2⟩ := hlt
      have hsz : k < (⟨s.toArray⟩ : ByteArray).size := h1
      obtain ⟨c, hc⟩ : ∃ c : UInt8, ((⟨s.toArray⟩ : ByteArray)[k]'hsz) = c := ⟨_, rfl⟩
      have hcl := c.toNat_lt
      have OW := hide2 own
      clear own
      obtain ⟨l, z, hl26, hz, hzz⟩ : ∃ (l : Nat) (z : Nat), l < 26 ∧ Int.tmod (c.toNat : Int) 3 = (z : Int) ∧ (z = 0 ∧ l = 0 ∨ z = 1 ∧ l = 12 ∨ z = 2 ∧ l = 25) := by
        have e : Int.tmod (c.toNat : Int) 3 = ((c.toNat % 3 : Nat) : Int) := by rw [Int.tmod_eq_emod_of_nonneg (by omega)]; simp
        have h3 : c.toNat % 3 = 0 ∨ c.toNat % 3 = 1 ∨ c.toNat % 3 = 2 := by omega
        rcases h3 with h3 | h3 | h3
        · exact ⟨0, 0, by omega, by rw [e, h3], .inl ⟨rfl, rfl⟩⟩
        · exact ⟨12, 1, by omega, by rw [e, h3], .inr (.inl ⟨rfl, rfl⟩)⟩
        · exact ⟨25, 2, by omega, by rw [e, h3], .inr (.inr ⟨rfl, rfl⟩)⟩
      have hz2 : (c.toNat : Int) % 3 = (z : Int) := by rw [← hz]; exact (Int.tmod_eq_emod_of_nonneg (by omega)).symm
      have hfin : (r ++ [ltr l]).map Bv = X ++ [.int .u8 (97 + (l : Int))] := by
        rw [HX.out, List.map_append]
        simp only [List.map_cons, List.map_nil]
        rw [Bv, ltr_toNat hl26]
        rfl
      have hva := valid_app r l HV.out hl26
      have HF := hide2 hfin
      have HVA := hide2 hva
      clear hfin hva
      rcases hzz with ⟨rfl, rfl⟩ | ⟨rfl, rfl⟩ | ⟨rfl, rfl⟩
      all_goals
        go_wp2_with (at_builtin; go_must (refine wpList_app_byte (.tmp 19) (.tmp 26) rfl rfl B k _ _ rfl OW.out _ wr.heap.size rfl rfl (by omega) hwr ?_))
        intro g5 k5 w5 ow5 b5
        have OW5 := hide2 ow5
        clear ow5
        go_wp2
        go_roundw
        case rel => exact ⟨k + 1, g5, k5, _, _, by go_num, by omega, by omega, rfl, OW5.out, HF.out.symm, HVA.out, by rw [List.length_append, HRL.out]; rfl, bel.trans b5⟩
        case measure => simp [intOf]; omega
    · rw [HX.out] at own
      have cv := bytes_str own
      have hd1 : (decide ((k : Int) < (s.length : Int)) && decide ((k : Int) < (lim : Int))) = false := by
        rw [Bool.and_eq_false_iff, decide_eq_false_iff_not, decide_eq_false_iff_not]; omega
      clear own
      go_wp2
      all_goals
        go_ret
        exact ⟨r, rfl, HV.out, by rw [HRL.out]; exact hk2, by rw [HB.out]; exact bel⟩
end Go.Proofs.Ymbrbm
