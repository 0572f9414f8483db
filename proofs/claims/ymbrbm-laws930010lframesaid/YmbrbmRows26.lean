/-
  Arrays of 26 numbers in memory: a whole row stored into a block, loaded, compared. Own text.
-/
import Derived.Test.YmbrbmMem
import Derived.Laws.StructEq
import Derived.Deep.QuietTactic
import Derived.BigQuiet
namespace Go.Proofs.Ymbrbm
open Go.RowKit

theorem setCell_splice {w : World} {b : Nat} {A C : List Value} {z : Value} {t : TypeId} (h : w.heap[b]? = some (.cells (A ++ z :: C).toArray t (0, 0))) (v : Value) (o : Nat) (ho : A.length = o) :
    (w.setCell ⟨b, o, none⟩ v).heap[b]? = some (.cells (A ++ v :: C).toArray t (0, 0)) := by
  subst ho
  rw [heap_setCell_same h]
  congr 2
  simp

theorem setCells_splice {b : Nat} {t : TypeId} : ∀ (vs : List Value) {w : World} {A M C : List Value} (o : Nat), w.heap[b]? = some (.cells (A ++ M ++ C).toArray t (0, 0)) → M.length = vs.length → A.length = o →
    (w.setCells b o vs).heap[b]? = some (.cells (A ++ vs ++ C).toArray t (0, 0))
  | [], w, A, M, C, o, h, hl, ho => by
    have : M = [] := List.eq_nil_of_length_eq_zero (by simpa using hl)
    subst this
    simpa [World.setCells] using h
  | v :: vs, w, A, z :: M, C, o, h, hl, ho => by
    have h1 : (w.setCell ⟨b, o, none⟩ v).heap[b]? = some (.cells (A ++ v :: (M ++ C)).toArray t (0, 0)) := setCell_splice (z := z) (by simpa using h) v o ho
    have h2 := setCells_splice vs (A := A ++ [v]) (M := M) (C := C) (o + 1) (by simpa using h1) (by simpa using hl) (by simp [ho])
    simpa [World.setCells] using h2
  | v :: vs, w, A, [], C, o, h, hl, ho => by simp at hl

theorem heap_setCells_other {b k : Nat} (hk : k ≠ b) : ∀ (vs : List Value) (w : World) (o : Nat), (w.setCells b o vs).heap[k]? = w.heap[k]?
  | [], _, _ => rfl
  | v :: vs, w, o => by
    rw [World.setCells, heap_setCells_other hk vs]
    exact Below.heap_setCell _ _ _ _ hk

theorem size_setCells' (b : Nat) : ∀ (vs : List Value) (w : World) (o : Nat), (w.setCells b o vs).heap.size = w.heap.size
  | [], _, _ => rfl
  | v :: vs, w, o => by
    rw [World.setCells, size_setCells' b vs]
    simp [World.setCell]

theorem streams_setCells (b : Nat) : ∀ (vs : List Value) (w : World) (o : Nat), (w.setCells b o vs).os = w.os ∧ (w.setCells b o vs).tape = w.tape ∧ (w.setCells b o vs).output = w.output
  | [], _, _ => ⟨rfl, rfl, rfl⟩
  | v :: vs, w, o => by
    rw [World.setCells]
    obtain ⟨h1, h2, h3⟩ := streams_setCells b vs (w.setCell ⟨b, o, none⟩ v) (o + 1)
    exact ⟨h1, h2, h3⟩

theorem below_setCells {B : Nat} {a w : World} (h : Below B a w) {b : Nat} (hb : B ≤ b) (o : Nat) (vs : List Value) : Below B a (w.setCells b o vs) := by
  obtain ⟨h1, h2, h3⟩ := streams_setCells b vs w o
  refine ⟨h1.trans h.os, h2.trans h.tape, h3.trans h.output, by rw [size_setCells']; exact h.size, fun k hk => ?_⟩
  rw [heap_setCells_other (by omega)]
  exact h.block k hk
theorem touch_setCells {F : List Nat} {a w : World} (h : Touch F a w) {b : Nat} (hb : b < a.heap.size → b ∈ F) (o : Nat) (vs : List Value) : Touch F a (w.setCells b o vs) := by
  obtain ⟨h1, h2, h3⟩ := streams_setCells b vs w o
  refine ⟨h1.trans h.os, h2.trans h.tape, h3.trans h.output, by rw [size_setCells']; exact h.size, fun k hk hn => ?_⟩
  rw [heap_setCells_other (fun e => by subst e; exact hn (hb hk))]
  exact h.block k hk hn

/-- A part of a block that is known whole. -/
theorem rangeAt_of {w : World} {b : Nat} {A M C : List Value} {t : TypeId} (h : w.heap[b]? = some (.cells (A ++ M ++ C).toArray t (0, 0))) (o : Nat) (ho : A.length = o) : w.rangeAt b o M := by
  intro j v hv
  subst ho
  have hj : j < M.length := (List.getElem?_eq_some_iff.1 hv).1
  simp only [World.cell?, h]
  simp
  rw [List.getElem?_append_right (by omega), show A.length + j - A.length = j by omega, List.getElem?_append_left hj]
  exact hv
theorem there_of {w : World} {b : Nat} {A M C : List Value} {t : TypeId} (h : w.heap[b]? = some (.cells (A ++ M ++ C).toArray t (0, 0))) (o n : Nat) (ho : A.length = o) (hn : M.length = n) : w.there b o n := by
  intro j hj
  have hj' : j < M.length := by omega
  refine ⟨?_, frozen_st_mid h _⟩
  rw [rangeAt_of h o ho j M[j] (List.getElem?_eq_getElem hj')]
  rfl
where frozen_st_mid {w : World} {b : Nat} {cs : Array Value} {t : TypeId} (h : w.heap[b]? = some (.cells cs t (0, 0))) (i : Nat) : w.frozen? ⟨b, i, none⟩ = false := by simp [World.frozen?, h]

/-- A whole row read in a region that draws its order and only reads. -/
theorem quiet_load_row {P : Program} {C : World → Prop} {a : Act} {o : Oper} {K : Act → Prop} (ty : TypeId) (x : Operand) (ho : o.op = .load ty x) (p : Addr) (hx : a.eval x = .pointer (some p)) (R : Array Value)
    (hr : ∀ w, C w → (Instr.loadAt ty (.pointer (some p))).run P w = .ok (.agg R) w) (hk : K (a.put o.dst (.agg R))) : o.quiet P a C K := by
  refine ⟨_, fun w hw => ?_, hk⟩
  have h1 := hr w hw
  unfold Oper.quietAt execOp
  simp only [ho, hx, Sem.run_bind, h1, Result.andThen_ok, Sem.run_pure]
  exact ⟨rfl, rfl⟩
/-- Two rows compared in such a region. -/
theorem quiet_cmp_row {P : Program} {C : World → Prop} {a : Act} {o : Oper} {K : Act → Prop} (op : BinOp) (ty : TypeId) (x y : Operand) (ho : o.op = .binOp op ty x y ty) (R S : Array Value) (hx : a.eval x = .agg R) (hy : a.eval y = .agg S) (v : Value)
    (hg : P.eqGuardType P.depth ty = false) (hr : ∀ w, (binOp op ty (.agg R) (.agg S)).run P w = .ok v w) (hk : K (a.put o.dst v)) : o.quiet P a C K := by
  refine ⟨_, fun w hw => ?_, hk⟩
  unfold Oper.quietAt execOp
  simp only [ho, hx, hy, Sem.run_bind, run_eqGuard_agg w op ty x y R S hg, hr w, Result.andThen_ok, Sem.run_pure]
  exact ⟨rfl, rfl⟩

/-! ### Two rows compared -/
theorem all_range_eqI : ∀ (xs ys : List Int), xs.length = ys.length → ((List.range xs.length).all fun i => xs.getD i 0 == ys.getD i 0) = (xs == ys)
  | [], [], _ => rfl
  | x :: xs, y :: ys, h => by
    have ih := all_range_eqI xs ys (by simpa using h)
    rw [List.length_cons, List.range_succ_eq_map, List.all_cons, List.all_map]
    simp only [List.getD_cons_zero, Function.comp_def, List.getD_cons_succ, ih]
    simp [List.cons_beq_cons]
  | [], _ :: _, h => by simp at h
  | _ :: _, [], h => by simp at h

section
variable {P : Program} (w : World)
theorem run_equalIn_ints (d : Nat) (t e : TypeId) (n : Nat) (ht : P.underlying t = some (.array n e)) (he : P.underlying e = some (.int .i64)) (hsz : ∀ w, (sizeOf e).run P w = .ok 1 w)
    (xs ys : List Int) (hx : xs.length = n) (hy : ys.length = n) :
    (Op.equalIn (d + 2) t (.agg (xs.map (Value.int .i64)).toArray) (.agg (ys.map (Value.int .i64)).toArray)).run P w = .ok (xs == ys) w := by
  rw [← all_range_eqI xs ys (hx.trans hy.symm), hx, List.range_eq_range', Op.equalIn]
  simp only [Sem.run_bind, run_underlying ht, Result.andThen_ok, hsz, Std.Legacy.Range.forIn_eq_forIn_range', Std.Legacy.Range.size, Nat.sub_zero, Nat.add_sub_cancel, Nat.div_one]
  have hl : ∀ i ∈ List.range' 0 n 1, i < n := fun i hi => by simpa using (List.mem_range'_1.1 hi).2
  generalize List.range' 0 n 1 = l at hl ⊢
  induction l with
  | nil => simp
  | cons i l ih =>
    have hi : i < n := hl i (by simp)
    have px : (part e (xs.map (Value.int .i64)).toArray (i * 1)).run P w = .ok (.int .i64 (xs.getD i 0)) w := by
      simp [part, isAgg, run_underlying he, List.getD, List.getElem?_eq_getElem (show i < xs.length by omega)]
    have py : (part e (ys.map (Value.int .i64)).toArray (i * 1)).run P w = .ok (.int .i64 (ys.getD i 0)) w := by
      simp [part, isAgg, run_underlying he, List.getD, List.getElem?_eq_getElem (show i < ys.length by omega)]
    have pe : (Op.equalIn (d + 1) e (.int .i64 (xs.getD i 0)) (.int .i64 (ys.getD i 0))).run P w = .ok (xs.getD i 0 == ys.getD i 0) w := run_equalIn_int w d e .i64 .i64 _ _ he
    simp only [List.forIn_cons, Sem.run_bind, px, py, pe, Result.andThen_ok, List.all_cons]
    cases hb : (xs.getD i 0 == ys.getD i 0)
    · simp
    · simp only [Bool.not_true, Bool.false_eq_true, if_false, Sem.run_pure, Result.andThen_ok, Bool.true_and]
      exact ih fun j hj => hl j (by simp [hj])

theorem run_neq_ints (t e : TypeId) (n : Nat) (ht : P.underlying t = some (.array n e)) (he : P.underlying e = some (.int .i64)) (hsz : ∀ w, (sizeOf e).run P w = .ok 1 w)
    (xs ys : List Int) (hx : xs.length = n) (hy : ys.length = n) :
    (binOp .neq t (.agg (xs.map (Value.int .i64)).toArray) (.agg (ys.map (Value.int .i64)).toArray)).run P w = .ok (.bool (xs != ys)) w := by
  rw [run_neq_struct, run_equalIn_ints w 9998 t e n ht he hsz xs ys hx hy]
  rfl
theorem run_eql_ints (t e : TypeId) (n : Nat) (ht : P.underlying t = some (.array n e)) (he : P.underlying e = some (.int .i64)) (hsz : ∀ w, (sizeOf e).run P w = .ok 1 w)
    (xs ys : List Int) (hx : xs.length = n) (hy : ys.length = n) :
    (binOp .eql t (.agg (xs.map (Value.int .i64)).toArray) (.agg (ys.map (Value.int .i64)).toArray)).run P w = .ok (.bool (xs == ys)) w := by
  rw [run_eql_struct, run_equalIn_ints w 9998 t e n ht he hsz xs ys hx hy]
  rfl
end
theorem sizeInt : ∀ w, (sizeOf 3).run Ybmm.prog w = .ok 1 w := by
  intro w
  obtain ⟨i, hi, _, hs, _⟩ := info_parts infoInt
  simp [sizeOf, typeInfo, hi, hs]
theorem sizeRow : (Ybmm.prog.info? 69).map (·.size) = some 26 := by kernel_rfl
end Go.Proofs.Ymbrbm
