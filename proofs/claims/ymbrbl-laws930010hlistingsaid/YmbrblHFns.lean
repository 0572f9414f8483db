/-
  zzs930010hbig, zzs930010hin, zzs930010hword: their contracts. Own text.
-/
import Derived.Test.YmbrblHBase
namespace Go.Proofs.Ymbrbl
open Go.RowKit

/-- The answer of the guard: false tells that the script is small. -/
def HBig (m : Nat) (O : List (Nat × Str)) (e : Ending) : Prop := ∃ bb, e = .returned (.bool bb) ∧ (bb = false → m ≤ 256 ∧ ∀ i, i < m → (O.getD i (0, [])).2.length ≤ 256)
set_option maxRecDepth 100000 in
set_option maxHeartbeats 1000000 in
theorem hbig_calls (a : Option Addr) (b off m c : Nat) (O : List (Nat × Str)) (w : World) (ha : 0 < m → a = some ⟨b, off, none⟩) (hs : OpsB w b off m O) :
    Calls Yblm.prog 36 #[.slice a m c] w fun e w' => HBig m O e ∧ w' = w := by
  have HA := hide2 ha
  have HS := hide2 hs
  clear ha hs
  by_cases hb : 256 < m
  · have hd : decide ((256 : Int) < (m : Int)) = true := decide_eq_true (by omega)
    go_enter Yblm.func36, Yblm.ntmps36
    go_wp2
    go_ret
    exact ⟨⟨true, rfl, fun h => by cases h⟩, rfl⟩
  · have hd : decide ((256 : Int) < (m : Int)) = false := decide_eq_false (by omega)
    go_enter Yblm.func36, Yblm.ntmps36
    go_wp2
    go_loop [3] (fun i => ∃ k : Nat, i = .int .i64 k ∧ k ≤ m ∧ ∀ j, j < k → (O.getD j (0, [])).2.length ≤ 256) (fun i => m - (intOf i).toNat)
    case atStart => exact ⟨0, rfl, Nat.zero_le _, fun j hj => absurd hj (by omega)⟩
    case round =>
      obtain ⟨k, rfl, hk, hall⟩ := hrel
      have HAL := hide2 hall
      clear hall
      by_cases hlt : k < m
      · have hea := HA.out (by omega)
        subst hea
        have d1 := HS.out.c1 k hlt
        have l1 := HS.out.l1 k hlt
        unfold maxLen at l1
        have hnx : (O.getD k (0, [])).2.length ≤ 256 → ∀ j, j < k + 1 → (O.getD j (0, [])).2.length ≤ 256 := fun h j hj => by
          by_cases e : j = k
          · subst e; exact h
          · exact HAL.out j (by omega)
        have HNX := hide2 hnx
        clear hnx
        generalize (O.getD k (0, [])).2 = raw at d1 l1 HNX
        by_cases hr : 256 < raw.length
        · have hd2 : decide ((256 : Int) < (raw.length : Int)) = true := decide_eq_true (by omega)
          go_wp2
          go_ret
          exact ⟨⟨true, rfl, fun h => by cases h⟩, rfl⟩
        · have hd2 : decide ((256 : Int) < (raw.length : Int)) = false := decide_eq_false (by omega)
          go_wp2
          go_round
          case rel => exact ⟨k + 1, by go_num, by omega, HNX.out (by omega)⟩
          case measure => simp [intOf]; omega
      · obtain rfl : k = m := by omega
        go_wp2
        go_ret
        exact ⟨⟨false, rfl, fun _ => ⟨by omega, HAL.out⟩⟩, rfl⟩

set_option maxRecDepth 100000 in
set_option maxHeartbeats 1000000 in
theorem hin_calls (B : Nat) (v : Value) (n : Nat) (ss : List Str) (q : Str) (w : World) (hn : ss.length = n) (own : w.ownsRow B 9 1 v n (ss.map Sv)) (hb : n ≤ 1000000) :
    Calls Yblm.prog 38 #[v, Sv q] w fun e w' => e = .returned (.bool (decide (q ∈ ss))) ∧ w' = w := by
  obtain ⟨a, c, rfl⟩ := ownsRow_slice own
  have HN := hide2 hn
  clear hn
  go_enter Yblm.func38, Yblm.ntmps38
  go_wp2
  go_loop [5] (fun i => ∃ k : Nat, i = .int .i64 k ∧ k ≤ n ∧ q ∉ ss.take k) (fun i => n - (intOf i).toNat)
  case atStart => exact ⟨0, rfl, Nat.zero_le _, by simp⟩
  case round =>
    obtain ⟨k, rfl, hk, hno⟩ := hrel
    have HNO := hide2 hno
    clear hno
    by_cases hlt : k < n
    · obtain ⟨g, cap, he, _, _⟩ := own.form (by omega)
      obtain ⟨rfl, rfl⟩ : a = some ⟨g, 0, none⟩ ∧ c = cap := by simpa using he
      have hc := own_cell own k _ (getD_map_sv ss k (by have := HN.out; omega))
      have ht := take_snoc ss k [] (by have := HN.out; omega)
      have hmem : ss.getD k [] ∈ ss := mem_getD (by have := HN.out; omega)
      have HT := hide2 ht
      have HM := hide2 hmem
      clear he ht hmem
      generalize ss.getD k [] = sk at hc HT HM
      cases hq : (sk == q)
      · have hnx : q ∉ ss.take (k + 1) := by
          rw [HT.out, List.mem_append, List.mem_singleton]
          rintro (h | rfl)
          · exact HNO.out h
          · simp at hq
        have HNX := hide2 hnx
        clear hnx
        go_wp2
        go_round
        case rel => exact ⟨k + 1, by go_num, by omega, HNX.out⟩
        case measure => simp [intOf]; omega
      · have hin : decide (q ∈ ss) = true := by
          have e : sk = q := by simpa using hq
          rw [← e]
          exact decide_eq_true HM.out
        have HIN := hide2 hin
        clear hin
        go_wp2
        go_ret
        exact ⟨by rw [HIN.out]; rfl, rfl⟩
    · have hin : decide (q ∈ ss) = false := by
        have := HNO.out
        rw [List.take_of_length_le (by have := HN.out; omega)] at this
        exact decide_eq_false this
      have HIN := hide2 hin
      clear hin
      go_wp2
      go_ret
      exact ⟨by rw [HIN.out]; rfl, rfl⟩

set_option maxRecDepth 100000 in
set_option maxHeartbeats 1000000 in
theorem hword_calls (s : Str) (w : World) (hs : s.length ≤ 256) :
    Calls Yblm.prog 50 #[Sv s] w fun e w' => ∃ r, e = .returned (Sv r) ∧ valid r = true ∧ r.length ≤ 256 ∧ Below w.heap.size w w' := by
  have m1 := run_make5 s.length (by omega)
  go_enter Yblm.func50, Yblm.ntmps50
  go_wp2
  generalize hB : w.heap.size = B at *
  have hBw : B ≤ w.heap.size := by omega
  have HB := hide2 hB
  clear hB
  go_loopw [4] (fun i wr => ∃ (k m : Nat) (X : List Value) (r : Str), i = .int .i64 k ∧ k + m = s.length ∧ wr.ownsRow B 5 1 (.slice (some ⟨B, 0, none⟩) s.length s.length) s.length X ∧ X = zpad r m ∧ valid r = true ∧ r.length = k ∧ Below B w wr) (fun i _ => s.length - (intOf i).toNat)
  case atStart =>
    have hB := HB.out
    subst hB
    exact ⟨0, s.length, _, [], rfl, Nat.zero_add _, zpad_made w s.length w.heap.size (Nat.le_refl _) (by omega), rfl, rfl, rfl, (Below.refl _ w).alloc (Nat.le_refl _) _⟩
  case round =>
    obtain ⟨k, m, X, r, rfl, hkm, own, hX, hv, hrl, bel⟩ := hrel
    have HX := hide2 hX
    have HV := hide2 hv
    have HRL := hide2 hrl
    have HKM := hide2 hkm
    have hk : k ≤ s.length := by omega
    clear hX hv hrl hkm
    have hwr : B ≤ wr.heap.size := by have := bel.size; omega
    by_cases h1 : k < s.length
    · obtain ⟨m, rfl⟩ : ∃ m', m = m' + 1 := ⟨m - 1, by have := HKM.out; omega⟩
      have hsz : k < (⟨s.toArray⟩ : ByteArray).size := h1
      obtain ⟨c, hc⟩ : ∃ c : UInt8, ((⟨s.toArray⟩ : ByteArray)[k]'hsz) = c := ⟨_, rfl⟩
      have hcl := c.toNat_lt
      obtain ⟨l, hl, hl26⟩ : ∃ l : Nat, (c.toNat : Int) % 26 = (l : Int) ∧ l < 26 := ⟨c.toNat % 26, by simp, by omega⟩
      have hl3 : Int.tmod (c.toNat : Int) 26 = (l : Int) := by rw [← hl]; exact Int.tmod_eq_emod_of_nonneg (by omega)
      have rw2 : IntKind.u8.wrap (97 + (l : Int)) = 97 + (l : Int) := by rw [IntKind.wrap_u8]; omega
      have hva := valid_app r l HV.out hl26
      have hset := zpad_set (m := m) HRL.out (ltr l) (97 + (l : Int)) (by rw [ltr_toNat hl26]; omega)
      rw [← HX.out] at hset
      have own2 := (own.stored k (.int .u8 (97 + (l : Int)))).1
      rw [hset] at own2
      have hcell := own_cell own k _ (by rw [HX.out]; exact zpad_cell HRL.out (by omega))
      have hfr := own.frozenAt k
      have bel2 : Below B w (wr.setCell ⟨B, k, none⟩ (.int .u8 (97 + (l : Int)))) := bel.setCell (Nat.le_refl _) _
      have HVA := hide2 hva
      have O2 := hide2 own2
      have BL2 := hide2 bel2
      clear hva own2 own hset bel2
      go_wp2
      go_roundw
      case rel => exact ⟨k + 1, m, _, r ++ [ltr l], by go_num, by have := HKM.out; omega, O2.out, rfl, HVA.out, by rw [List.length_append, HRL.out]; rfl, BL2.out⟩
      case measure => simp [intOf]; omega
    · obtain rfl : m = 0 := by have := HKM.out; omega
      rw [HX.out, show zpad r 0 = r.map Bv by simp [zpad]] at own
      have cv := bytes_str own
      clear own
      go_wp2
      go_ret
      exact ⟨r, rfl, HV.out, by rw [HRL.out]; omega, by rw [HB.out]; exact bel⟩
end Go.Proofs.Ymbrbl
