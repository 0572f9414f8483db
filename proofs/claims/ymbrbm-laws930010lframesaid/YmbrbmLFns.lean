/-
  zzs930010lword, zzs930010lgood, zzs930010lscript: their contracts. Own text.
-/
import Derived.Test.YmbrbmHBase
import Derived.Test.YmbrbmRemove
import Derived.Deep.DeepCutAuto
import Derived.Deep.RegionWith
namespace Go.Proofs.Ymbrbm
open Go.RowKit

theorem arr_take (q : Str) (j : Nat) : (⟨q.toArray⟩ : ByteArray).extract 0 j = ⟨(q.take j).toArray⟩ := by
  apply ByteArray.ext
  simp [ByteArray.data_extract]

set_option maxRecDepth 100000 in
set_option maxHeartbeats 1000000 in
theorem lgood_calls (q : Str) (w : World) (hq : q.length ≤ maxLen) :
    Calls Ybmm.prog 39 #[Sv q] w fun e w' => e = .returned (.bool (valid q)) ∧ w' = w := by
  unfold maxLen at hq
  go_enter Ybmm.func39, Ybmm.ntmps39
  go_wp2
  go_loop [3] (fun i => ∃ k : Nat, i = .int .i64 k ∧ k ≤ q.length ∧ valid (q.take k) = true) (fun i => q.length - (intOf i).toNat)
  case atStart => exact ⟨0, rfl, Nat.zero_le _, rfl⟩
  case round =>
    obtain ⟨k, rfl, hk, hv⟩ := hrel
    have HV := hide2 hv
    clear hv
    by_cases hlt : k < q.length
    · have hsz : k < (⟨q.toArray⟩ : ByteArray).size := hlt
      by_cases h1 : ((⟨q.toArray⟩ : ByteArray)[k]'hsz).toNat < 97
      · have hno := valid_no hlt (.inl h1)
        have HN := hide2 hno
        clear hno
        have hd0 : decide (97 ≤ (((⟨q.toArray⟩ : ByteArray)[k]'hsz).toNat : Int)) = false := decide_eq_false (by omega)
        go_wp2
        go_ret
        exact ⟨by rw [HN.out]; rfl, rfl⟩
      · by_cases h2 : 122 < ((⟨q.toArray⟩ : ByteArray)[k]'hsz).toNat
        · have hno := valid_no hlt (.inr h2)
          have HN := hide2 hno
          clear hno
          have hd0 : decide (97 ≤ (((⟨q.toArray⟩ : ByteArray)[k]'hsz).toNat : Int)) = true := decide_eq_true (by omega)
          have hd1 : decide ((((⟨q.toArray⟩ : ByteArray)[k]'hsz).toNat : Int) ≤ 122) = false := decide_eq_false (by omega)
          go_wp2
          go_ret
          exact ⟨by rw [HN.out]; rfl, rfl⟩
        · have hd0 : decide (97 ≤ (((⟨q.toArray⟩ : ByteArray)[k]'hsz).toNat : Int)) = true := decide_eq_true (by omega)
          have hd1 : decide ((((⟨q.toArray⟩ : ByteArray)[k]'hsz).toNat : Int) ≤ 122) = true := decide_eq_true (by omega)
          have hyes : valid (q.take (k + 1)) = true := by
            have h3 : ¬ q[k].toNat < 97 := h1
            have h4 : ¬ 122 < q[k].toNat := h2
            rw [valid_snoc q k hlt, HV.out]
            simp
            omega
          have HY := hide2 hyes
          clear hyes
          go_wp2
          go_round
          case rel => exact ⟨k + 1, by go_num, by omega, HY.out⟩
          case measure => simp [intOf]; omega
    · have hyes : valid q = true := by
        have := HV.out
        rwa [List.take_of_length_le (by omega)] at this
      have HY := hide2 hyes
      clear hyes
      go_wp2
      go_ret
      exact ⟨by rw [HY.out]; rfl, rfl⟩

set_option maxRecDepth 100000 in
set_option maxHeartbeats 1000000 in
theorem lword_calls (op : Nat) (s prev : Str) (w : World) (hop : op ≤ 255) (hs : s.length ≤ maxLen) (hp : prev.length ≤ 257) :
    Calls Ybmm.prog 33 #[.int .u8 op, Sv s, Sv prev] w fun e w' => ∃ r, e = .returned (Sv r) ∧ r.length ≤ 257 ∧ Below w.heap.size w w' := by
  unfold maxLen at hs
  obtain ⟨z, hz, hz2, hz3⟩ : ∃ z : Nat, (op : Int) % 5 = (z : Int) ∧ Int.tmod (op : Int) 5 = (z : Int) ∧ z < 5 := ⟨op % 5, by simp, by rw [Int.tmod_eq_emod_of_nonneg (by omega)]; simp, by omega⟩
  go_enter Ybmm.func33, Ybmm.ntmps33
  go_upto_if 14 with (fail)
  go_cut [1] (fun s1 wc => ∃ s', s1 = Sv s' ∧ s'.length ≤ 256 ∧ wc = w)
  case first =>
    by_cases hb : 256 < s.length
    · have hd : decide ((256 : Int) < (s.length : Int)) = true := decide_eq_true (by omega)
      obtain ⟨st, hst⟩ : ∃ st, s.take 256 = st := ⟨_, rfl⟩
      have te := arr_take s 256
      rw [hst] at te
      have hstl : st.length ≤ 256 := by rw [← hst, List.length_take]; omega
      clear hst
      go_wp2
      go_meet
      case rel => exact ⟨st, rfl, hstl, rfl⟩
    · have hd : decide ((256 : Int) < (s.length : Int)) = false := decide_eq_false (by omega)
      go_wp2
      go_meet
      case rel => exact ⟨s, rfl, by omega, rfl⟩
  case rest =>
    obtain ⟨x, rfl, hx, hwo⟩ := hcut
    obtain rfl := hwo.symm
    by_cases z0 : z = 0
    · subst z0
      go_wp2
      go_ret
      exact ⟨x, rfl, by omega, Below.refl _ _⟩
    · have e0 : ((z : Int) == 0) = false := beq_eq_false_iff_ne.2 (by omega)
      by_cases z1 : z = 1
      · subst z1
        obtain ⟨st, hst⟩ : ∃ st, prev.take x.length = st := ⟨_, rfl⟩
        have te := arr_take prev x.length
        have te2 := arr_take prev prev.length
        rw [hst] at te
        rw [List.take_length] at te2
        have hstl : st.length ≤ 257 := by rw [← hst, List.length_take]; omega
        clear hst
        by_cases hb : prev.length < x.length
        · have hd : decide ((prev.length : Int) < (x.length : Int)) = true := decide_eq_true (by omega)
          go_wp2
          go_ret
          exact ⟨prev, rfl, hp, Below.refl _ _⟩
        · have hd : decide ((prev.length : Int) < (x.length : Int)) = false := decide_eq_false (by omega)
          go_wp2
          go_ret
          exact ⟨st, rfl, hstl, Below.refl _ _⟩
      · have e1 : ((z : Int) == 1) = false := beq_eq_false_iff_ne.2 (by omega)
        go_upto_if 36 with (fail)
        go_cut [9] (fun s9 wc => ∃ sz : Nat, s9 = .int .u8 sz ∧ 0 < sz ∧ sz ≤ 26 ∧ wc = w)
        case first =>
          by_cases z3 : z = 3
          · subst z3
            go_wp2
            go_meet
            case rel => exact ⟨26, rfl, by omega, by omega, rfl⟩
          · have e3 : ((z : Int) == 3) = false := beq_eq_false_iff_ne.2 (by omega)
            go_wp2
            go_meet
            case rel => exact ⟨2, rfl, by omega, by omega, rfl⟩
        case rest =>
          obtain ⟨sz, rfl, hsz0, hsz, hwo⟩ := hcut
          obtain rfl := hwo.symm
          have hse : ((sz : Int) == 0) = false := beq_eq_false_iff_ne.2 (by omega)
          go_wp2
          generalize hB : w.heap.size = B at *
          have hBw : B ≤ w.heap.size := by omega
          have HB := hide2 hB
          clear hB
          go_loopw [10, 11] (fun v i wr => ∃ (k g y : Nat) (X : List Value) (r : Str), i = .int .i64 k ∧ k ≤ x.length ∧ v = .slice (some ⟨g, 0, none⟩) k y ∧ wr.ownsRow B 5 1 v k X ∧ X = r.map Bv ∧ r.length = k ∧ Below B w wr) (fun _ i _ => x.length - (intOf i).toNat)
          case atStart =>
            have hB := HB.out
            subst hB
            exact ⟨0, _, _, _, [], rfl, Nat.zero_le _, rfl, own_empty5 w w.heap.size (Nat.le_refl _), rfl, rfl, (Below.refl _ w).alloc (Nat.le_refl _) _⟩
          case round =>
            obtain ⟨k, g, y, X, r, rfl, hk, rfl, own, hX, hrl, bel⟩ := hrel
            have HX := hide2 hX
            have HRL := hide2 hrl
            have OW := hide2 own
            clear hX hrl own
            have hwr : B ≤ wr.heap.size := by have := bel.size; omega
            by_cases h1 : k < x.length
            · have hsz : k < (⟨x.toArray⟩ : ByteArray).size := h1
              obtain ⟨c, hc⟩ : ∃ c : UInt8, ((⟨x.toArray⟩ : ByteArray)[k]'hsz) = c := ⟨_, rfl⟩
              have hcl := c.toNat_lt
              obtain ⟨l, hl, hl2, hl26⟩ : ∃ l : Nat, (c.toNat : Int) % (sz : Int) = (l : Int) ∧ Int.tmod (c.toNat : Int) (sz : Int) = (l : Int) ∧ l < 26 :=
                ⟨c.toNat % sz, by simp, by rw [Int.tmod_eq_emod_of_nonneg (by omega)]; simp, Nat.lt_of_lt_of_le (Nat.mod_lt _ hsz0) (by omega)⟩
              have hfin : (r ++ [ltr l]).map Bv = X ++ [.int .u8 (97 + (l : Int))] := by
                rw [HX.out, List.map_append]
                simp only [List.map_cons, List.map_nil]
                rw [Bv, ltr_toNat hl26]
                rfl
              have HF := hide2 hfin
              have rw2 : IntKind.u8.wrap (97 + (l : Int)) = 97 + (l : Int) := by rw [IntKind.wrap_u8]; omega
              clear hfin
              go_wp2_with (at_builtin; go_must (refine wpList_app_byte (.tmp 44) (.tmp 51) rfl rfl B k _ _ rfl OW.out _ wr.heap.size rfl rfl (by omega) hwr ?_))
              intro g5 k5 w5 ow5 b5
              have OW5 := hide2 ow5
              clear ow5
              go_wp2
              go_roundw
              case rel => exact ⟨k + 1, g5, k5, _, _, by go_num, by omega, rfl, OW5.out, HF.out.symm, by rw [List.length_append, HRL.out]; rfl, bel.trans b5⟩
              case measure => simp [intOf]; omega
            · by_cases z4 : z = 4
              · subst z4
                have hfin : (r ++ [123]).map Bv = X ++ [.int .u8 123] := by
                  rw [HX.out, List.map_append]
                  rfl
                have HF := hide2 hfin
                clear hfin
                go_wp2_with (at_builtin; go_must (refine wpList_app_byte (.tmp 55) (.tmp 56) rfl rfl B k _ _ rfl OW.out _ wr.heap.size rfl rfl (by omega) hwr ?_))
                intro g5 k5 w5 ow5 b5
                rw [← HF.out] at ow5
                have cv := bytes_str ow5
                have hrl2 : (r ++ [123]).length ≤ 257 := by rw [List.length_append, HRL.out]; simp; omega
                generalize r ++ [123] = r2 at cv hrl2
                clear ow5 HF
                go_wp2
                go_ret
                exact ⟨r2, rfl, hrl2, by rw [HB.out]; exact bel.trans b5⟩
              · have e4 : ((z : Int) == 4) = false := beq_eq_false_iff_ne.2 (by omega)
                have own2 := OW.out
                rw [HX.out] at own2
                have cv := bytes_str own2
                clear own2
                go_wp2
                go_ret
                exact ⟨r, rfl, by rw [HRL.out]; omega, by rw [HB.out]; exact bel⟩
end Go.Proofs.Ymbrbm
