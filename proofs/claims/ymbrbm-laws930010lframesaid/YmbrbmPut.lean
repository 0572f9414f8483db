/-
  A word put into a sorted list: the plain law. Own text.
-/
import Derived.Test.YmbrbmOrder
namespace Go.Proofs.Ymbrbm
open Go.RowKit

def putS (l : List Str) (w : Str) : List Str := l.filter (fun x => bl x w) ++ w :: l.filter (fun x => bl w x)
theorem putS_mem {l : List Str} {w x : Str} : x ∈ putS l w ↔ x ∈ l ∨ x = w := by
  unfold putS
  rw [List.mem_append, List.mem_cons, List.mem_filter, List.mem_filter]
  constructor
  · rintro (h | h | h)
    · exact .inl h.1
    · exact .inr h
    · exact .inl h.1
  · rintro (h | h)
    · rcases bl_tri x w with h1 | h1 | h1
      · exact .inl ⟨h, h1⟩
      · exact .inr (.inl h1)
      · exact .inr (.inr ⟨h, h1⟩)
    · exact .inr (.inl h)
theorem putS_sorted {l : List Str} (h : Sorted l) (w : Str) : Sorted (putS l w) := by
  unfold putS Sorted
  rw [List.pairwise_append, List.pairwise_cons]
  refine ⟨h.filter _, ⟨fun x hx => (List.mem_filter.1 hx).2, h.filter _⟩, fun a ha b hb => ?_⟩
  have h1 := (List.mem_filter.1 ha).2
  rcases List.mem_cons.1 hb with e | hb
  · subst e; exact h1
  · exact bl_trans h1 (List.mem_filter.1 hb).2
theorem putS_len (l : List Str) (w : Str) : (putS l w).length ≤ 2 * l.length + 1 := by
  unfold putS
  rw [List.length_append, List.length_cons]
  have h1 := List.length_filter_le (fun x => bl x w) l
  have h2 := List.length_filter_le (fun x => bl w x) l
  omega
/-- In the midst: l is what was looked at, d tells whether w was put. -/
def putD (l : List Str) (w : Str) (d : Bool) : List Str := if d then putS l w else l
/-- .. and what stands of l. -/
structure PutD (l : List Str) (w : Str) (d : Bool) : Prop where
  no : d = false → ∀ x ∈ l, bl x w = true
  yes : d = true → ∃ y ∈ l, bl y w = false
theorem filter_all {l : List Str} {f : Str → Bool} (h : ∀ x ∈ l, f x = true) : l.filter f = l := List.filter_eq_self.2 h
theorem filter_none {l : List Str} {f : Str → Bool} (h : ∀ x ∈ l, f x = false) : l.filter f = [] := List.filter_eq_nil_iff.2 (fun x hx => by rw [h x hx]; simp)
section
variable {l : List Str} {w x : Str}
/-- x is smaller: it is kept ahead of w. -/
theorem PutD.less (h : PutD l w false) (hx : bl x w = true) : PutD (l ++ [x]) w false := by
  refine ⟨fun _ y hy => ?_, fun h => by cases h⟩
  rcases List.mem_append.1 hy with h1 | h1
  · exact h.no rfl y h1
  · rw [List.mem_singleton.1 h1]; exact hx
/-- w is put ahead of x. -/
theorem PutD.put (h : PutD l w false) (hx : bl w x = true) : PutD (l ++ [x]) w true ∧ putS (l ++ [x]) w = l ++ [w] ++ [x] := by
  refine ⟨⟨fun h => (by cases h), fun _ => ⟨x, by simp, bl_asymm hx⟩⟩, ?_⟩
  unfold putS
  rw [List.filter_append, List.filter_append, filter_all (h.no rfl), filter_none (l := l) (f := fun x => bl w x) (fun y hy => bl_asymm (h.no rfl y hy)), filter_none (l := [x]) (f := fun x => bl x w) (fun y hy => by rw [List.mem_singleton.1 hy]; exact bl_asymm hx), filter_all (l := [x]) (f := fun x => bl w x) (fun y hy => by rw [List.mem_singleton.1 hy]; exact hx)]
  simp
/-- x is w. -/
theorem PutD.same (h : PutD l w false) : PutD (l ++ [w]) w true ∧ putS (l ++ [w]) w = l ++ [w] := by
  refine ⟨⟨fun h => (by cases h), fun _ => ⟨w, by simp, bl_irr w⟩⟩, ?_⟩
  unfold putS
  rw [List.filter_append, List.filter_append, filter_all (h.no rfl), filter_none (l := l) (f := fun x => bl w x) (fun y hy => bl_asymm (h.no rfl y hy)), filter_none (l := [w]) (f := fun x => bl x w) (fun y hy => by rw [List.mem_singleton.1 hy]; exact bl_irr w), filter_none (l := [w]) (f := fun x => bl w x) (fun y hy => by rw [List.mem_singleton.1 hy]; exact bl_irr w)]
  simp
/-- w was put already: x is larger. -/
theorem PutD.more (h : PutD l w true) (hs : ∀ y ∈ l, bl y x = true) : PutD (l ++ [x]) w true ∧ putS (l ++ [x]) w = putS l w ++ [x] ∧ x ≠ w := by
  obtain ⟨y, hy, hyw⟩ := h.yes rfl
  have hwx : bl w x = true := by
    rcases bl_tri w y with h1 | h1 | h1
    · exact bl_trans h1 (hs y hy)
    · subst h1; exact hs w hy
    · rw [hyw] at h1; cases h1
  refine ⟨⟨fun h => (by cases h), fun _ => ⟨y, by simp [hy], hyw⟩⟩, ?_, fun e => by subst e; rw [bl_irr] at hwx; cases hwx⟩
  unfold putS
  rw [List.filter_append, List.filter_append, filter_none (l := [x]) (f := fun x => bl x w) (fun z hz => by rw [List.mem_singleton.1 hz]; exact bl_asymm hwx), filter_all (l := [x]) (f := fun x => bl w x) (fun z hz => by rw [List.mem_singleton.1 hz]; exact hwx)]
  simp
/-- Never put: at the end. -/
theorem PutD.last (h : PutD l w false) : putS l w = l ++ [w] := by
  unfold putS
  rw [filter_all (h.no rfl), filter_none (l := l) (f := fun x => bl w x) (fun y hy => bl_asymm (h.no rfl y hy))]
theorem putD_start (w : Str) : PutD [] w false := ⟨fun _ x hx => (by cases hx), fun h => (by cases h)⟩
end
theorem sorted_take {l : List Str} (h : Sorted l) {k : Nat} (hk : k < l.length) : ∀ y ∈ l.take k, bl y (l.getD k []) = true := by
  intro y hy
  have e : l = l.take (k + 1) ++ l.drop (k + 1) := (List.take_append_drop _ _).symm
  rw [take_snoc l k [] hk] at e
  have h2 : Sorted (l.take k ++ [l.getD k []] ++ l.drop (k + 1)) := by rw [← e]; exact h
  unfold Sorted at h2
  rw [List.pairwise_append, List.pairwise_append] at h2
  exact h2.1.2.2 y hy _ (by simp)

/-- The list without its k-th, as the loop builds it. -/
theorem erase_snoc_ne (l : List Str) (x : Str) (k : Nat) (h : k ≠ l.length) : (l ++ [x]).eraseIdx k = l.eraseIdx k ++ [x] := by
  rcases Nat.lt_or_gt_of_ne h with h1 | h1
  · rw [List.eraseIdx_append_of_lt_length h1]
  · rw [List.eraseIdx_of_length_le (by rw [List.length_append, List.length_singleton]; omega), List.eraseIdx_of_length_le (by omega)]
theorem erase_snoc_eq (l : List Str) (x : Str) : (l ++ [x]).eraseIdx l.length = l := by
  rw [List.eraseIdx_append_of_length_le (Nat.le_refl _), Nat.sub_self]
  simp
theorem erase_nodup : ∀ {l : List Str}, l.Nodup → ∀ {k : Nat}, k < l.length → l.erase (l.getD k []) = l.eraseIdx k := by
  intro l
  induction l with
  | nil => intro _ k hk; exact absurd hk (by simp)
  | cons x l ih =>
    intro h k hk
    rw [List.nodup_cons] at h
    cases k with
    | zero => show (x :: l).erase x = l; simp
    | succ k =>
      have hk2 : k < l.length := by simpa using hk
      show (x :: l).erase (l.getD k []) = x :: l.eraseIdx k
      have hne : x ≠ l.getD k [] := fun e => h.1 (by rw [e]; exact mem_getD hk2)
      rw [List.erase_cons_tail (by simpa using hne), ih h.2 hk2]
end Go.Proofs.Ymbrbm
