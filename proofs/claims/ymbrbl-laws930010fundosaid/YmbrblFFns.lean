/-
  zzs930010fbig, fhas, fword, fwithout, fcount, fpick: their contracts. Own text.
-/
import Derived.Test.YmbrblHBase
namespace Go.Proofs.Ymbrbl
open Go.RowKit

/-- The steps that came in: two bytes and a word. -/
structure OpsF (w : World) (b off n : Nat) (S : List (Nat × Nat × Str)) : Prop where
  lt : 0 < n → b < w.heap.size
  c0 : ∀ i, i < n → w.cell? ⟨b, off + i * 3, none⟩ = some (.int .u8 (S.getD i (0, 0, [])).1)
  c1 : ∀ i, i < n → w.cell? ⟨b, off + i * 3 + 1, none⟩ = some (.int .u8 (S.getD i (0, 0, [])).2.1)
  c2 : ∀ i, i < n → w.cell? ⟨b, off + i * 3 + 2, none⟩ = some (Sv (S.getD i (0, 0, [])).2.2)
  r0 : ∀ i, i < n → (S.getD i (0, 0, [])).1 ≤ 255
  r1 : ∀ i, i < n → (S.getD i (0, 0, [])).2.1 ≤ 255
  l2 : ∀ i, i < n → (S.getD i (0, 0, [])).2.2.length ≤ maxLen
theorem OpsF.below {w w' : World} {b off n : Nat} {S : List (Nat × Nat × Str)} (h : OpsF w b off n S) (hb : Below w.heap.size w w') : OpsF w' b off n S :=
  ⟨fun h0 => Nat.lt_of_lt_of_le (h.lt h0) hb.size, fun i hi => (hb.cell (p := ⟨b, off + i * 3, none⟩) (h.lt (by omega))).trans (h.c0 i hi), fun i hi => (hb.cell (p := ⟨b, off + i * 3 + 1, none⟩) (h.lt (by omega))).trans (h.c1 i hi), fun i hi => (hb.cell (p := ⟨b, off + i * 3 + 2, none⟩) (h.lt (by omega))).trans (h.c2 i hi), h.r0, h.r1, h.l2⟩
theorem arr_take (q : Str) (j : Nat) : (⟨q.toArray⟩ : ByteArray).extract 0 j = ⟨(q.take j).toArray⟩ := by
  apply ByteArray.ext
  simp [ByteArray.data_extract]
theorem pre_slice (x q : Str) : (decide ((q.length : Int) ≤ (x.length : Int)) && (x.take q.length == q)) = q.isPrefixOf x := by
  rw [Bool.eq_iff_iff, pre_iff, Bool.and_eq_true, decide_eq_true_eq, beq_iff_eq, List.prefix_iff_eq_take]
  constructor
  · rintro ⟨_, h⟩; exact h.symm
  · intro h
    refine ⟨?_, h.symm⟩
    have := congrArg List.length h
    rw [List.length_take] at this
    omega

/-- The answer of the guard: false tells that the script is small. -/
def FBig (m : Nat) (O : List (Nat × Nat × Str)) (e : Ending) : Prop := ∃ bb, e = .returned (.bool bb) ∧ (bb = false → m ≤ 256 ∧ ∀ i, i < m → (O.getD i (0, 0, [])).2.2.length ≤ 256)
set_option maxRecDepth 100000 in
set_option maxHeartbeats 1000000 in
theorem fbig_calls (a : Option Addr) (b off m c : Nat) (O : List (Nat × Nat × Str)) (w : World) (ha : 0 < m → a = some ⟨b, off, none⟩) (hs : OpsF w b off m O) :
    Calls Yblm.prog 18 #[.slice a m c] w fun e w' => FBig m O e ∧ w' = w := by
  have HA := hide2 ha
  have HS := hide2 hs
  clear ha hs
  by_cases hb : 256 < m
  · have hd : decide ((256 : Int) < (m : Int)) = true := decide_eq_true (by omega)
    go_enter Yblm.func18, Yblm.ntmps18
    go_wp2
    go_ret
    exact ⟨⟨true, rfl, fun h => by cases h⟩, rfl⟩
  · have hd : decide ((256 : Int) < (m : Int)) = false := decide_eq_false (by omega)
    go_enter Yblm.func18, Yblm.ntmps18
    go_wp2
    go_loop [3] (fun i => ∃ k : Nat, i = .int .i64 k ∧ k ≤ m ∧ ∀ j, j < k → (O.getD j (0, 0, [])).2.2.length ≤ 256) (fun i => m - (intOf i).toNat)
    case atStart => exact ⟨0, rfl, Nat.zero_le _, fun j hj => absurd hj (by omega)⟩
    case round =>
      obtain ⟨k, rfl, hk, hall⟩ := hrel
      have HAL := hide2 hall
      clear hall
      by_cases hlt : k < m
      · have hea := HA.out (by omega)
        subst hea
        have d1 := HS.out.c2 k hlt
        have l1 := HS.out.l2 k hlt
        unfold maxLen at l1
        have hnx : (O.getD k (0, 0, [])).2.2.length ≤ 256 → ∀ j, j < k + 1 → (O.getD j (0, 0, [])).2.2.length ≤ 256 := fun h j hj => by
          by_cases e : j = k
          · subst e; exact h
          · exact HAL.out j (by omega)
        have HNX := hide2 hnx
        clear hnx
        generalize (O.getD k (0, 0, [])).2.2 = raw at d1 l1 HNX
        by_cases hr : 256 < raw.length
        · have hd2 : decide ((256 : Int) < (raw.length : Int)) = true := decide_eq_true (by omega)
          go_wp2
          go_ret
          exact ⟨⟨true, rfl, fun h => by cases h⟩, rfl⟩
        · have hd2 : decide ((256 : Int) < (raw.length : Int)) = false := decide_eq_false (by omega)
          go_wp2
          go_round
          case rel => exact ⟨k + 1, by go_num, by omega, HNX.out (by omega)⟩
          case measure => simp [intOf]; omega
      · obtain rfl : k = m := by omega
        go_wp2
        go_ret
        exact ⟨⟨false, rfl, fun _ => ⟨by omega, HAL.out⟩⟩, rfl⟩

set_option maxRecDepth 100000 in
set_option maxHeartbeats 1000000 in
theorem fhas_calls (B : Nat) (v : Value) (n : Nat) (ss : List Str) (q : Str) (w : World) (hn : ss.length = n) (own : w.ownsRow B 9 1 v n (ss.map Sv)) (hb : n ≤ 1000000) :
    Calls Yblm.prog 22 #[v, Sv q] w fun e w' => e = .returned (.bool (decide (q ∈ ss))) ∧ w' = w := by
  obtain ⟨a, c, rfl⟩ := ownsRow_slice own
  have HN := hide2 hn
  clear hn
  go_enter Yblm.func22, Yblm.ntmps22
  go_wp2
  go_loop [5] (fun i => ∃ k : Nat, i = .int .i64 k ∧ k ≤ n ∧ q ∉ ss.take k) (fun i => n - (intOf i).toNat)
  case atStart => exact ⟨0, rfl, Nat.zero_le _, by simp⟩
  case round =>
    obtain ⟨k, rfl, hk, hno⟩ := hrel
    have HNO := hide2 hno
    clear hno
    by_cases hlt : k < n
    · obtain ⟨g, cap, he, _, _⟩ := own.form (by omega)
      obtain ⟨rfl, rfl⟩ : a = some ⟨g, 0, none⟩ ∧ c = cap := by simpa using he
      have hc := own_cell own k _ (getD_map_sv ss k (by have := HN.out; omega))
      have ht := take_snoc ss k [] (by have := HN.out; omega)
      have hmem : ss.getD k [] ∈ ss := mem_getD (by have := HN.out; omega)
      have HT := hide2 ht
      have HM := hide2 hmem
      clear he ht hmem
      generalize ss.getD k [] = sk at hc HT HM
      cases hq : (sk == q)
      · have hnx : q ∉ ss.take (k + 1) := by
          rw [HT.out, List.mem_append, List.mem_singleton]
          rintro (h | rfl)
          · exact HNO.out h
          · simp at hq
        have HNX := hide2 hnx
        clear hnx
        go_wp2
        go_round
        case rel => exact ⟨k + 1, by go_num, by omega, HNX.out⟩
        case measure => simp [intOf]; omega
      · have hin : decide (q ∈ ss) = true := by
          have e : sk = q := by simpa using hq
          rw [← e]
          exact decide_eq_true HM.out
        have HIN := hide2 hin
        clear hin
        go_wp2
        go_ret
        exact ⟨by rw [HIN.out]; rfl, rfl⟩
    · have hin : decide (q ∈ ss) = false := by
        have := HNO.out
        rw [List.take_of_length_le (by have := HN.out; omega)] at this
        exact decide_eq_false this
      have HIN := hide2 hin
      clear hin
      go_wp2
      go_ret
      exact ⟨by rw [HIN.out]; rfl, rfl⟩

set_option maxRecDepth 100000 in
set_option maxHeartbeats 1000000 in
theorem fword_calls (s : Str) (w : World) (hs : s.length ≤ 256) :
    Calls Yblm.prog 45 #[Sv s] w fun e w' => ∃ r, e = .returned (Sv r) ∧ valid r = true ∧ r.length ≤ 256 ∧ Below w.heap.size w w' := by
  have m1 := run_make5 s.length (by omega)
  go_enter Yblm.func45, Yblm.ntmps45
  go_wp2
  generalize hB : w.heap.size = B at *
  have hBw : B ≤ w.heap.size := by omega
  have HB := hide2 hB
  clear hB
  go_loopw [4] (fun i wr => ∃ (k m : Nat) (X : List Value) (r : Str), i = .int .i64 k ∧ k + m = s.length ∧ wr.ownsRow B 5 1 (.slice (some ⟨B, 0, none⟩) s.length s.length) s.length X ∧ X = zpad r m ∧ valid r = true ∧ r.length = k ∧ Below B w wr) (fun i _ => s.length - (intOf i).toNat)
  case atStart =>
    have hB := HB.out
    subst hB
    exact ⟨0, s.length, _, [], rfl, Nat.zero_add _, zpad_made w s.length w.heap.size (Nat.le_refl _) (by omega), rfl, rfl, rfl, (Below.refl _ w).alloc (Nat.le_refl _) _⟩
  case round =>
    obtain ⟨k, m, X, r, rfl, hkm, own, hX, hv, hrl, bel⟩ := hrel
    have HX := hide2 hX
    have HV := hide2 hv
    have HRL := hide2 hrl
    have HKM := hide2 hkm
    have hk : k ≤ s.length := by omega
    clear hX hv hrl hkm
    have hwr : B ≤ wr.heap.size := by have := bel.size; omega
    by_cases h1 : k < s.length
    · obtain ⟨m, rfl⟩ : ∃ m', m = m' + 1 := ⟨m - 1, by have := HKM.out; omega⟩
      have hsz : k < (⟨s.toArray⟩ : ByteArray).size := h1
      obtain ⟨c, hc⟩ : ∃ c : UInt8, ((⟨s.toArray⟩ : ByteArray)[k]'hsz) = c := ⟨_, rfl⟩
      have hcl := c.toNat_lt
      obtain ⟨d, hd, hd0⟩ : ∃ d : Nat, IntKind.u8.wrap ((c.toNat : Int) - 97) = (d : Int) ∧ d ≤ 255 := by
        refine ⟨(IntKind.u8.wrap ((c.toNat : Int) - 97)).toNat, ?_, ?_⟩
        · rw [IntKind.wrap_u8]; omega
        · rw [IntKind.wrap_u8]; omega
      obtain ⟨l, hl, hl26⟩ : ∃ l : Nat, (d : Int) % 26 = (l : Int) ∧ l < 26 := ⟨d % 26, by simp, by omega⟩
      have hl3 : Int.tmod (d : Int) 26 = (l : Int) := by rw [← hl]; exact Int.tmod_eq_emod_of_nonneg (by omega)
      have rw2 : IntKind.u8.wrap (97 + (l : Int)) = 97 + (l : Int) := by rw [IntKind.wrap_u8]; omega
      have hva := valid_app r l HV.out hl26
      have hset := zpad_set (m := m) HRL.out (ltr l) (97 + (l : Int)) (by rw [ltr_toNat hl26]; omega)
      rw [← HX.out] at hset
      have own2 := (own.stored k (.int .u8 (97 + (l : Int)))).1
      rw [hset] at own2
      have hcell := own_cell own k _ (by rw [HX.out]; exact zpad_cell HRL.out (by omega))
      have hfr := own.frozenAt k
      have bel2 : Below B w (wr.setCell ⟨B, k, none⟩ (.int .u8 (97 + (l : Int)))) := bel.setCell (Nat.le_refl _) _
      have HVA := hide2 hva
      have O2 := hide2 own2
      have BL2 := hide2 bel2
      clear hva own2 own hset bel2
      go_wp2
      go_roundw
      case rel => exact ⟨k + 1, m, _, r ++ [ltr l], by go_num, by have := HKM.out; omega, O2.out, rfl, HVA.out, by rw [List.length_append, HRL.out]; rfl, BL2.out⟩
      case measure => simp [intOf]; omega
    · obtain rfl : m = 0 := by have := HKM.out; omega
      rw [HX.out, show zpad r 0 = r.map Bv by simp [zpad]] at own
      have cv := bytes_str own
      clear own
      go_wp2
      go_ret
      exact ⟨r, rfl, HV.out, by rw [HRL.out]; omega, by rw [HB.out]; exact bel⟩
set_option maxRecDepth 100000 in
set_option maxHeartbeats 1000000 in
theorem fwithout_calls (B : Nat) (v : Value) (n : Nat) (ss : List Str) (q : Str) (w : World) (hn : ss.length = n) (own : w.ownsRow B 9 1 v n (ss.map Sv)) (hb : n ≤ 1000000) :
    Calls Yblm.prog 23 #[v, Sv q] w fun e w' => ∃ g k, e = .returned (.slice (some ⟨g, 0, none⟩) (ss.filter (fun x => x != q)).length k) ∧ w'.ownsRow w.heap.size 9 1 (.slice (some ⟨g, 0, none⟩) (ss.filter (fun x => x != q)).length k) (ss.filter (fun x => x != q)).length ((ss.filter (fun x => x != q)).map Sv) ∧ Below w.heap.size w w' := by
  obtain ⟨a, c, rfl⟩ := ownsRow_slice own
  have HN := hide2 hn
  have OW := hide2 own
  clear hn own
  go_enter Yblm.func23, Yblm.ntmps23
  go_wp2
  generalize hB : w.heap.size = N at *
  have hBw : N ≤ w.heap.size := by omega
  have HB := hide2 hB
  clear hB
  go_loopw [5, 6] (fun v i wr => ∃ (k g y : Nat) (L : List Str), i = .int .i64 k ∧ k ≤ n ∧ v = .slice (some ⟨g, 0, none⟩) L.length y ∧ L = (ss.take k).filter (fun x => x != q) ∧ wr.ownsRow N 9 1 v L.length (L.map Sv) ∧ Below N w wr) (fun _ i _ => n - (intOf i).toNat)
  case atStart =>
    have hB := HB.out
    subst hB
    exact ⟨0, _, _, [], rfl, Nat.zero_le _, rfl, by simp, own_empty w w.heap.size (Nat.le_refl _), (Below.refl _ w).alloc (Nat.le_refl _) _⟩
  case round =>
    obtain ⟨k, g0, y0, L, rfl, hk, rfl, hL, own2, bel⟩ := hrel
    have hwr : N ≤ wr.heap.size := by have := bel.size; omega
    have hll : L.length ≤ n := by
      rw [hL]
      have := List.length_filter_le (fun x => x != q) (ss.take k)
      rw [List.length_take] at this
      have := HN.out
      omega
    have HLE := hide2 hL
    have O2 := hide2 own2
    clear hL own2
    by_cases hlt : k < n
    · obtain ⟨g, cap, he, _, _⟩ := OW.out.form (by omega)
      obtain ⟨rfl, rfl⟩ : a = some ⟨g, 0, none⟩ ∧ c = cap := by simpa using he
      have oww := own_below OW.out (by rw [HB.out]; exact bel)
      have hc := own_cell oww k _ (getD_map_sv ss k (by have := HN.out; omega))
      have ht := take_snoc ss k [] (by have := HN.out; omega)
      have HT := hide2 ht
      clear he ht oww
      generalize ss.getD k [] = sk at hc HT
      cases hne : (sk == q)
      · have hl2 : L ++ [sk] = (ss.take (k + 1)).filter (fun x => x != q) := by
          rw [HT.out, List.filter_append, ← HLE.out]
          simp [bne, hne]
        have HL2 := hide2 hl2
        clear hl2
        go_wp2_with (at_builtin; go_must (refine wpList_app_str (.tmp 20) (.tmp 25) rfl rfl N _ _ _ rfl O2.out sk wr.heap.size rfl rfl (by omega) hwr ?_))
        intro g5 k5 w5 ow5 st5
        have O5 := hide2 ow5
        have b5 := bel.trans (st5.toBelow (fun k hk => (O2.out.lt k hk).1) hwr)
        clear ow5 st5
        go_wp2
        go_roundw
        case rel =>
          refine ⟨k + 1, g5, k5, L ++ [sk], by go_num, by omega, by rw [List.length_append]; rfl, HL2.out, ?_, b5⟩
          rw [List.map_append, List.length_append]
          exact O5.out
        case measure => simp [intOf]; omega
      · have hl2 : L = (ss.take (k + 1)).filter (fun x => x != q) := by
          rw [HT.out, List.filter_append, ← HLE.out]
          simp [bne, hne]
        have HL2 := hide2 hl2
        clear hl2
        go_wp2
        go_roundw
        case rel => exact ⟨k + 1, g0, y0, L, by go_num, by omega, rfl, HL2.out, O2.out, bel⟩
        case measure => simp [intOf]; omega
    · have hall : ss.take k = ss := List.take_of_length_le (by have := HN.out; omega)
      rw [hall] at HLE
      go_wp2
      go_ret
      rw [HB.out, ← HLE.out]
      exact ⟨g0, y0, rfl, O2.out, bel⟩


set_option maxRecDepth 100000 in
set_option maxHeartbeats 1000000 in
theorem fcount_calls (B : Nat) (v : Value) (n : Nat) (ss : List Str) (q : Str) (w : World) (hn : ss.length = n) (own : w.ownsRow B 9 1 v n (ss.map Sv)) (hb : n ≤ 1000000) (_hql : q.length ≤ 1000000) (hl : ∀ s ∈ ss, s.length ≤ 1000000) :
    Calls Yblm.prog 26 #[v, Sv q] w fun e w' => e = .returned (.int .i64 (cnt ss q : Nat)) ∧ w' = w := by
  obtain ⟨a, c, rfl⟩ := ownsRow_slice own
  have HN := hide2 hn
  have OW := hide2 own
  have HL := hide2 hl
  clear hn own hl
  go_enter Yblm.func26, Yblm.ntmps26
  go_wp2
  go_loop [5, 6] (fun x i => ∃ k y : Nat, i = .int .i64 k ∧ x = .int .i64 y ∧ k ≤ n ∧ y ≤ k ∧ y = cnt (ss.take k) q) (fun _ i => n - (intOf i).toNat)
  case atStart => exact ⟨0, 0, rfl, rfl, Nat.zero_le _, Nat.le_refl _, rfl⟩
  case round =>
    obtain ⟨k, y, rfl, rfl, hk, hyk, hy⟩ := hrel
    have HY := hide2 hy
    clear hy
    by_cases hlt : k < n
    · obtain ⟨g, cap, he, _, _⟩ := OW.out.form (by omega)
      obtain ⟨rfl, rfl⟩ : a = some ⟨g, 0, none⟩ ∧ c = cap := by simpa using he
      have hc := own_cell OW.out k _ (getD_map_sv ss k (by have := HN.out; omega))
      have ht := take_snoc ss k [] (by have := HN.out; omega)
      have hsn := cnt_snoc (ss.take k) (ss.getD k []) q
      rw [← ht, ← HY.out] at hsn
      have hps := pre_slice (ss.getD k []) q
      have hsl := HL.out _ (mem_getD (show k < ss.length by have := HN.out; omega))
      have HSN := hide2 hsn
      have HPS := hide2 hps
      clear he ht hsn hps
      generalize ss.getD k [] = sk at hc HSN HPS hsl
      obtain ⟨st, hst⟩ : ∃ st, sk.take q.length = st := ⟨_, rfl⟩
      have te := arr_take sk q.length
      rw [hst] at te HPS
      clear hst
      by_cases h1 : q.length ≤ sk.length
      · cases h2 : (st == q)
        · have hno : q.isPrefixOf sk = false := by rw [← HPS.out, h2, Bool.and_false]
          rw [hno, if_neg (by simp), Nat.add_zero] at HSN
          go_wp2
          go_round
          case rel => exact ⟨k + 1, y, by go_num, rfl, by omega, by omega, HSN.out.symm⟩
          case measure => simp [intOf]; omega
        · have hyes : q.isPrefixOf sk = true := by rw [← HPS.out, h2, Bool.and_true]; exact decide_eq_true (by omega)
          rw [hyes, if_pos rfl] at HSN
          go_wp2
          go_round
          case rel => exact ⟨k + 1, y + 1, by go_num, by go_num, by omega, by omega, HSN.out.symm⟩
          case measure => simp [intOf]; omega
      · have hno : q.isPrefixOf sk = false := by rw [← HPS.out, Bool.and_eq_false_iff]; left; exact decide_eq_false (by omega)
        rw [hno, if_neg (by simp), Nat.add_zero] at HSN
        go_wp2
        go_round
        case rel => exact ⟨k + 1, y, by go_num, rfl, by omega, by omega, HSN.out.symm⟩
        case measure => simp [intOf]; omega
    · have hall : ss.take k = ss := List.take_of_length_le (by have := HN.out; omega)
      rw [hall] at HY
      go_wp2
      go_ret
      exact ⟨by rw [← HY.out]; rfl, rfl⟩

/-- The word picked: one of the list, or the raw one. -/
def Picked (ss : List Str) (raw : Str) (e : Ending) : Prop := ∃ r, e = .returned (Sv r) ∧ (r = raw ∨ r ∈ ss)
set_option maxRecDepth 100000 in
set_option maxHeartbeats 1000000 in
theorem fpick_calls (B : Nat) (v : Value) (n : Nat) (ss : List Str) (sel : Nat) (raw : Str) (w : World) (hn : ss.length = n) (own : w.ownsRow B 9 1 v n (ss.map Sv)) (hb : n ≤ 1000000) (hp : sel ≤ 255) :
    Calls Yblm.prog 20 #[v, .int .u8 sel, Sv raw] w fun e w' => Picked ss raw e ∧ w' = w := by
  obtain ⟨a, c, rfl⟩ := ownsRow_slice own
  obtain ⟨z, hz, hz2, hz3⟩ : ∃ z : Nat, (sel : Int) % 2 = (z : Int) ∧ Int.tmod (sel : Int) 2 = (z : Int) ∧ z < 2 := ⟨sel % 2, by simp, by rw [Int.tmod_eq_emod_of_nonneg (by omega)]; simp, by omega⟩
  by_cases hz1 : z = 1
  · subst hz1
    by_cases h0 : 0 < n
    · obtain ⟨g, cap, he, _, _⟩ := own.form h0
      obtain ⟨rfl, rfl⟩ : a = some ⟨g, 0, none⟩ ∧ c = cap := by simpa using he
      obtain ⟨d, hd, hd2, hd3⟩ : ∃ d : Nat, (sel : Int) / 2 = (d : Int) ∧ Int.tdiv (sel : Int) 2 = (d : Int) ∧ d ≤ 127 := ⟨sel / 2, by simp, by rw [Int.tdiv_eq_ediv_of_nonneg (by omega)]; simp, by omega⟩
      obtain ⟨j, hj, hj2, hj3⟩ : ∃ j : Nat, (d : Int) % (n : Int) = (j : Int) ∧ Int.tmod (d : Int) (n : Int) = (j : Int) ∧ j < n := ⟨d % n, by simp, by rw [Int.tmod_eq_emod_of_nonneg (by omega)]; simp, Nat.mod_lt _ h0⟩
      have hcell := own_cell own j _ (getD_map_sv ss j (by omega))
      have hme := mem_getD (show j < ss.length by omega)
      have HM := hide2 hme
      generalize ss.getD j [] = sk at hcell HM
      have hn1 : ((n : Int) == 0) = false := beq_eq_false_iff_ne.2 (by omega)
      clear own hn he hme
      go_enter Yblm.func20, Yblm.ntmps20
      go_wp2
      go_ret
      exact ⟨⟨sk, rfl, .inr HM.out⟩, rfl⟩
    · clear own hn
      go_enter Yblm.func20, Yblm.ntmps20
      go_wp2
      go_ret
      exact ⟨⟨raw, rfl, .inl rfl⟩, rfl⟩
  · have hzf : ((z : Int) == 1) = false := beq_eq_false_iff_ne.2 (by omega)
    clear own hn
    go_enter Yblm.func20, Yblm.ntmps20
    go_wp2
    go_ret
    exact ⟨⟨raw, rfl, .inl rfl⟩, rfl⟩
end Go.Proofs.Ymbrbl
