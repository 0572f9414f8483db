/-
  Bytes made and stored one by one, steps that came in (a byte and a word), a list less its last. Own text.
-/
import Derived.Test.YmbrbmPut
import Derived.Test.YmbrbmBytes
import Derived.Laws.OwnMore
namespace Go.Proofs.Ymbrbm
open Go.RowKit

theorem own_mono {w : World} {B B' e sz n : Nat} {v : Value} {xs : List Value} (h : w.ownsRow B e sz v n xs) (hB : B' ≤ B) : w.ownsRow B' e sz v n xs := by
  refine ⟨h.1, ?_⟩
  rcases h.2 with hn | ⟨g, cap, cur, rfl, hbg, rest⟩
  · exact .inl hn
  · exact .inr ⟨g, cap, cur, rfl, Nat.le_trans hB hbg, rest⟩
theorem valid_app (a : Str) (l : Nat) (ha : valid a = true) (hl : l < 26) : valid (a ++ [ltr l]) = true := by
  unfold valid at *
  rw [List.all_append, ha]
  have := ltr_toNat hl
  simp [this]
  omega
/-- The steps that came in: a byte and a word. -/
structure OpsB (w : World) (b off n : Nat) (S : List (Nat × Str)) : Prop where
  lt : 0 < n → b < w.heap.size
  c0 : ∀ i, i < n → w.cell? ⟨b, off + i * 2, none⟩ = some (.int .u8 (S.getD i (0, [])).1)
  c1 : ∀ i, i < n → w.cell? ⟨b, off + i * 2 + 1, none⟩ = some (Sv (S.getD i (0, [])).2)
  r0 : ∀ i, i < n → (S.getD i (0, [])).1 ≤ 255
  l1 : ∀ i, i < n → (S.getD i (0, [])).2.length ≤ maxLen

def zbytes (n : Nat) : Array Value := (List.replicate n (Value.int .u8 0)).toArray
theorem run_make5 (n : Nat) (hn : n ≤ 1000000000) (w : World) : (Instr.makeSlice 45 (.int .i64 n) (.int .i64 n)).run Ybmm.prog w = .ok (.slice (some ⟨w.heap.size, 0, none⟩) n n) (w.alloc (.cells (zbytes n) 5)) := by
  obtain ⟨i, hi, hz, hs, hb⟩ := info_parts infoByte
  have h := run_make (P := Ybmm.prog) w 45 5 i _ Ybmm.underlying45 hi hz .i64 .i64 (n : Int) (n : Int) (by omega) (by omega) (by rw [hb]; omega) (by omega)
  rw [h, hs]
  simp only [Int.toNat_natCast, zbytes, Nat.mul_one]
  congr 3
  apply Array.ext'
  exact toList_madeCells_one _ n
/-- The bytes set so far, zeros behind them. -/
def zpad (r : Str) (m : Nat) : List Value := (r ++ List.replicate m 0).map Bv
theorem zpad_made (w : World) (n B : Nat) (hB : B ≤ w.heap.size) (hn : n ≤ 1000000000) : (w.alloc (.cells (zbytes n) 5)).ownsRow B 5 1 (.slice (some ⟨w.heap.size, 0, none⟩) n n) n (zpad [] n) := by
  have := World.ownsRow_lit (base := B) (e := 5) (size := 1) w (zbytes n) n hB (by unfold maxLen; omega) (by simp [zbytes])
  rw [show zpad [] n = (zbytes n).toList by simp [zpad, zbytes, Bv]]
  exact this
theorem zpad_cell {r : Str} {m k : Nat} (hk : r.length = k) (hm : 0 < m) : (zpad r m)[k]? = some (.int .u8 0) := by
  subst hk
  unfold zpad
  rw [List.getElem?_map, List.getElem?_append_right (Nat.le_refl _), Nat.sub_self, List.getElem?_replicate, if_pos hm]
  rfl
theorem zpad_set {r : Str} {m k : Nat} (hk : r.length = k) (c : UInt8) (z : Int) (hz : z = (c.toNat : Int)) : (zpad r (m + 1)).set k (.int .u8 z) = zpad (r ++ [c]) m := by
  subst hk
  unfold zpad
  rw [List.map_append, List.set_append_right _ _ (by simp), List.length_map, Nat.sub_self, List.replicate_succ, List.map_cons, List.set_cons_zero, List.append_assoc, List.map_append, hz]
  rfl
theorem own_cap {w : World} {B e sz g n c : Nat} {xs : List Value} (h : w.ownsRow B e sz (.slice (some ⟨g, 0, none⟩) n c) n xs) : n ≤ c ∧ c ≤ maxLen := by
  rcases h.2 with ⟨h', _⟩ | ⟨g', cap', cur, h', hb, hg, hnc, hcm, hcs, htake⟩
  · simp at h'
  · simp only [Value.slice.injEq, Option.some.injEq, Addr.mk.injEq, and_true, true_and] at h'
    obtain ⟨rfl, rfl⟩ := h'
    exact ⟨hnc, hcm⟩
/-- 'ws[:n-1]'. -/
theorem own_short {w : World} {B e sz g n c : Nat} {xs : List Value} (h : w.ownsRow B e sz (.slice (some ⟨g, 0, none⟩) (n + 1) c) (n + 1) xs) : w.ownsRow B e sz (.slice (some ⟨g, 0, none⟩) n c) n (xs.take (n * sz)) := by
  rcases h.2 with ⟨h', _⟩ | ⟨g', cap', cur, h', hb, hg, hnc, hcm, hcs, htake⟩
  · simp at h'
  · simp only [Value.slice.injEq, Option.some.injEq, Addr.mk.injEq, and_true, true_and] at h'
    obtain ⟨rfl, rfl⟩ := h'
    have hl := h.1
    refine ⟨?_, .inr ⟨g, c, cur, rfl, hb, hg, by omega, hcm, hcs, ?_⟩⟩
    · rw [List.length_take, hl]
      exact Nat.min_eq_left (Nat.mul_le_mul_right _ (Nat.le_succ _))
    · rw [← htake, List.take_take, Nat.min_eq_left (Nat.mul_le_mul_right _ (Nat.le_succ _))]
end Go.Proofs.Ymbrbm
