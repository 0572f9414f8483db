/-
  (*Trie).child: its contracts over cells. Own text.
-/
import Derived.Test.YmbrbmMem
namespace Go.Proofs.Ymbrbm
open Go.RowKit
set_option maxHeartbeats 400000 in
theorem child_bad (p : Nat) (n c : Int) (w : World) (h : c < 97 ∨ 122 < c) :
    Calls Ybmm.prog 21 #[.pointer (some ⟨p, 0, none⟩), .int .i64 n, .int .u8 c] w fun e w' => e = .returned (.tuple #[.int .i64 0, .bool false]) ∧ w' = w := by
  rcases h with h | h
  · go_enter Ybmm.func21, Ybmm.ntmps21
    go_wp2
    go_ret2
    exact ⟨rfl, rfl⟩
  · have h' : ¬ c < 97 := by omega
    go_enter Ybmm.func21, Ybmm.ntmps21
    go_wp2
    go_ret2
    exact ⟨rfl, rfl⟩

set_option maxHeartbeats 400000 in
theorem child_ok (p gN N cN : Nat) (k c m : Int) (w : World) (h0 : 0 ≤ k) (hk : k < N) (h1 : 97 ≤ c) (h2 : c ≤ 122)
    (c0 : w.cell? ⟨p, 0, none⟩ = some (.slice (some ⟨gN, 0, none⟩) N cN)) (hc : w.cell? ⟨gN, k.toNat * 26 + (c - 97).toNat, none⟩ = some (.int .i64 m)) :
    Calls Ybmm.prog 21 #[.pointer (some ⟨p, 0, none⟩), .int .i64 k, .int .u8 c] w fun e w' => e = .returned (.tuple #[.int .i64 m, .bool (m != 0)]) ∧ w' = w := by
  obtain ⟨k, rfl⟩ := Int.eq_ofNat_of_zero_le h0
  obtain ⟨l, hl⟩ := Int.eq_ofNat_of_zero_le (show 0 ≤ c - 97 by omega)
  obtain rfl : c = 97 + (l : Int) := by omega
  rw [hl] at hc
  simp only [Int.toNat_natCast] at hc
  clear hl
  have h1' : ¬ (97 + (l : Int)) < 97 := by omega
  have h2' : ¬ 122 < (97 + (l : Int)) := by omega
  go_enter Ybmm.func21, Ybmm.ntmps21
  go_wp2
  go_ret2
  exact ⟨rfl, rfl⟩
end Go.Proofs.Ymbrbm
