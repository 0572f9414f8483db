/-
  'make' of the three slice types of a Trie, at variable sizes: the new block written out. Own text.
-/
import Derived.Test.YmbrbmRows26
import Derived.Laws.MakeOwn
namespace Go.Proofs.Ymbrbm
open Go.RowKit

def zers (n : Nat) : Array Value := (List.replicate n (Value.int .i64 0)).toArray
def falses (n : Nat) : Array Value := (List.replicate n (Value.bool false)).toArray

theorem made_const (z : Array Value) (v : Value) (hz : ∀ j, j < z.size → z[j]! = v) (h0 : 0 < z.size) (n : Nat) : madeCells z n = (List.replicate n v).toArray := by
  apply Array.ext
  · simp [madeCells]
  · intro i h1 h2
    simp [madeCells] at h1 ⊢
    exact hz _ (Nat.mod_lt _ h0)

theorem run_makeN (l n : Nat) (hln : l ≤ n) (hn : n ≤ 1000000000) (w : World) : (Instr.makeSlice 25 (.int .i64 l) (.int .i64 n)).run Ybmm.prog w = .ok (.slice (some ⟨w.heap.size, 0, none⟩) l n) (w.alloc (.cells (zers (n * 26)) 69)) := by
  obtain ⟨i, hi, hz, hs, hb⟩ := info_parts infoRow
  have h := run_make (P := Ybmm.prog) w 25 69 i _ Ybmm.underlying25 hi hz .i64 .i64 (l : Int) (n : Int) (by omega) (by omega) (by rw [hb]; omega) (by omega)
  rw [h, hs]
  simp only [Int.toNat_natCast, zers]
  rw [made_const _ (.int .i64 0) (fun j hj => by simp [Value.cells] at hj ⊢; simp [hj]) (by simp [Value.cells])]
theorem run_makeW (l n : Nat) (hln : l ≤ n) (hn : n ≤ 1000000000) (w : World) : (Instr.makeSlice 26 (.int .i64 l) (.int .i64 n)).run Ybmm.prog w = .ok (.slice (some ⟨w.heap.size, 0, none⟩) l n) (w.alloc (.cells (falses n) 4)) := by
  obtain ⟨i, hi, hz, hs, hb⟩ := info_parts infoBool
  have h := run_make (P := Ybmm.prog) w 26 4 i _ Ybmm.underlying26 hi hz .i64 .i64 (l : Int) (n : Int) (by omega) (by omega) (by rw [hb]; omega) (by omega)
  rw [h, hs]
  simp only [Int.toNat_natCast, falses]
  rw [made_const _ (.bool false) (fun j hj => by simp [Value.cells] at hj ⊢; simp [hj]) (by simp [Value.cells]), Nat.mul_one]
theorem run_makeB (l n : Nat) (hln : l ≤ n) (hn : n ≤ 1000000000) (w : World) : (Instr.makeSlice 27 (.int .i64 l) (.int .i64 n)).run Ybmm.prog w = .ok (.slice (some ⟨w.heap.size, 0, none⟩) l n) (w.alloc (.cells (zers n) 3)) := by
  obtain ⟨i, hi, hz, hs, hb⟩ := info_parts infoInt
  have h := run_make (P := Ybmm.prog) w 27 3 i _ Ybmm.underlying27 hi hz .i64 .i64 (l : Int) (n : Int) (by omega) (by omega) (by rw [hb]; omega) (by omega)
  rw [h, hs]
  simp only [Int.toNat_natCast, zers]
  rw [made_const _ (.int .i64 0) (fun j hj => by simp [Value.cells] at hj ⊢; simp [hj]) (by simp [Value.cells]), Nat.mul_one]
end Go.Proofs.Ymbrbm
