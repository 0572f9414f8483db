/-
  'append(next, row)': the one-element slice laid for a whole row. Own text.
-/
import Derived.Test.YmbrbmRows26
namespace Go.Proofs.Ymbrbm
open Go.RowKit
theorem fold_set : ∀ (l : List Value) (k : Nat) (A M C : List Value), A.length = k → M.length = l.length →
    ((l.zipIdx k).foldl (fun (cs : Array Value) (x : Value × Nat) => cs.setIfInBounds x.snd x.fst) (A ++ M ++ C).toArray) = (A ++ l ++ C).toArray
  | [], k, A, M, C, hA, hM => by
    obtain rfl : M = [] := List.eq_nil_of_length_eq_zero (by simpa using hM)
    simp
  | v :: l, k, A, z :: M, C, hA, hM => by
    have ih := fold_set l (k + 1) (A ++ [v]) M C (by simp [hA]) (by simpa using hM)
    rw [List.zipIdx_cons, List.foldl_cons]
    have e : ((A ++ z :: M ++ C).toArray.setIfInBounds k v) = (A ++ [v] ++ M ++ C).toArray := by
      subst hA; simp
    rw [e, ih]
    simp
  | v :: l, k, A, [], C, hA, hM => by simp at hM
theorem fold_whole (R Z : Array Value) (h : Z.size = R.size) : Array.foldl (fun cs (x : Value × Nat) => cs.setIfInBounds x.snd x.fst) Z R.zipIdx 0 R.size = R := by
  have := fold_set R.toList 0 [] Z.toList [] rfl (by simpa using h)
  simp only [List.nil_append, List.append_nil, Array.toArray_toList] at this
  have e : R.size = R.zipIdx.size := by simp
  rw [e, ← Array.foldl_toList, Array.toList_zipIdx]
  exact this
theorem run_buildSlice_row (w : World) (R : Array Value) (hR : R.size = 26) : (Instr.buildSlice 25 1 #[(0, .agg R)]).run Ybmm.prog w = .ok (.slice (some ⟨w.heap.size, 0, none⟩) 1 1) (w.alloc (.cells R 69)) := by
  obtain ⟨i, hi, hz, hs, hb⟩ := info_parts infoRow
  simp [Instr.buildSlice, run_underlying Ybmm.underlying25, sizeOf, typeInfo, hi, hs, zeroValue, hz, newRow, Instr.fill, hR, Value.cells]
  rw [← hR, fold_whole]
  simp [hR]
theorem wpList_buildSlice_row {ops : Array Oper} {rest : List Oper} {o : Oper} {a : Act} {w : World} {Q : Exit → Act → World → Prop} (hgd : o.guard = none) (x : Operand) (ho : o.op = .buildSlice 25 1 #[(0, x)])
    (R : Array Value) (hx : a.eval x = .agg R) (hR : R.size = 26) (h : wpList Ybmm.prog ops Q rest (a.put o.dst (.slice (some ⟨w.heap.size, 0, none⟩) 1 1)) (w.alloc (.cells R 69))) : wpList Ybmm.prog ops Q (o :: rest) a w := by
  refine wpList_plain hgd fun K hK => ?_
  unfold Oper.wp execOp
  simp only [ho, List.map_toArray, List.map_cons, List.map_nil, hx, Sem.run_bind, run_buildSlice_row w R hR, Result.andThen_ok, Sem.run_pure]
  exact hK _ _ h
theorem news_row (W : World) (L : List Value) (t : TypeId) (H : Nat) (h : W.heap.size = H) : ∀ j u, L[j]? = some u → (W.alloc (.cells L.toArray t)).cell? ((⟨H, 0, none⟩ : Addr).add j) = some u := by
  subst h
  exact fun j u hu => World.news_of_block (heap_alloc_new W _) j u (by simpa using hu)
theorem ints_one (L : List Int) : ∀ u ∈ L.map (Value.int .i64), u.oneCell' = true := fun u hu => by obtain ⟨z, _, rfl⟩ := List.mem_map.1 hu; rfl

def row26 (NX : List Int) (k : Nat) : List Int := (NX.drop (k * 26)).take 26
theorem row26_len (NX : List Int) (k n : Nat) (h : NX.length = n * 26) (hk : k < n) : (row26 NX k).length = 26 := by
  unfold row26; rw [List.length_take, List.length_drop]; omega
theorem take_add26 (NX : List Int) (k : Nat) : NX.take ((k + 1) * 26) = NX.take (k * 26) ++ row26 NX k := by
  unfold row26; rw [show (k + 1) * 26 = k * 26 + 26 by omega, List.take_add]
theorem guardRow : Ybmm.prog.eqGuardType Ybmm.prog.depth 69 = false := by kernel_rfl
/-- Row j of a flat list of rows, as cells. -/
theorem row_at (L : List Int) (j : Nat) (M : List Int) (hM : M = row26 L j) : ∀ i v, (M.map (Value.int .i64))[i]? = some v → (L.map (Value.int .i64))[j * 26 + i]? = some v := by
  intro i v hv
  subst hM
  simp only [row26, List.getElem?_map, List.getElem?_take, List.getElem?_drop] at hv ⊢
  by_cases h26 : i < 26
  · rw [if_pos h26] at hv; exact hv
  · rw [if_neg h26] at hv; cases hv
theorem row26_app_left (A B : List Int) (j n : Nat) (hA : A.length = n * 26) (hj : j < n) : row26 (A ++ B) j = row26 A j := by
  unfold row26
  rw [List.drop_append_of_le_length (by omega), List.take_append_of_le_length (by rw [List.length_drop]; omega)]
theorem row26_app_right (A B : List Int) (n : Nat) (hA : A.length = n * 26) (hB : B.length = 26) : row26 (A ++ B) n = B := by
  unfold row26
  rw [← hA, List.drop_left, ← hB, List.take_length]
end Go.Proofs.Ymbrbm
