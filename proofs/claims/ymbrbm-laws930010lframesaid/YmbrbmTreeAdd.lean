/-
  One node more: the plain laws. Own text.
-/
import Derived.Test.YmbrbmTree
import Derived.Test.YmbrbmGrow
import Derived.Test.YmbrbmNew
namespace Go.Proofs.Ymbrbm
open Go.RowKit

/-- A new node n, the child of node i by letter l. -/
def TT.add (T : TT) (i l : Nat) : TT := ⟨(T.nx ++ List.replicate 26 0).set (i * 26 + l) T.wd.length, T.wd ++ [false], T.bl ++ [0]⟩
theorem TT.add_eq (T : TT) (i l : Nat) (h : i * 26 + l < T.nx.length) : (⟨T.nx.set (i * 26 + l) T.wd.length, T.wd, T.bl⟩ : TT).grow = T.add i l := by
  unfold TT.grow TT.add
  rw [List.set_append_left _ _ h]
theorem TT.grow_add (T : TT) (i l : Nat) : (⟨T.grow.nx.set (i * 26 + l) T.wd.length, T.grow.wd, T.grow.bl⟩ : TT) = T.add i l := rfl

theorem nxt_add (T : TT) (i l i' l' : Nat) (hnx : T.nx.length = T.wd.length * 26) (hi : i < T.wd.length) (hl : l < 26) (hi' : i' < T.wd.length + 1) (hl' : l' < 26) :
    (T.add i l).nxt i' l' = if i' = i ∧ l' = l then (T.wd.length : Int) else if i' < T.wd.length then T.nxt i' l' else 0 := by
  show ((T.nx ++ List.replicate 26 0).set (i * 26 + l) (T.wd.length : Int)).getD (i' * 26 + l') 0 = _
  rw [List.getD_eq_getElem?_getD]
  by_cases h1 : i' = i ∧ l' = l
  · obtain ⟨rfl, rfl⟩ := h1
    rw [if_pos ⟨rfl, rfl⟩, List.getElem?_set_self (by rw [List.length_append, List.length_replicate]; omega)]
    rfl
  · rw [if_neg h1, List.getElem?_set_ne (by omega)]
    by_cases h2 : i' < T.wd.length
    · rw [if_pos h2, List.getElem?_append_left (by omega)]
      unfold TT.nxt
      rw [List.getD_eq_getElem?_getD]
    · rw [if_neg h2, List.getElem?_append_right (by omega), List.getElem?_replicate, if_pos (by omega)]
      rfl

theorem Tree.free {T : TT} {P : List Str} (tr : Tree T P) {i l : Nat} (hi : i < P.length) (hl : l < 26) (h0 : T.nxt i l = 0) : P.getD i [] ++ [ltr l] ∉ P := by
  rw [tr.link i l hi hl] at h0
  cases e : ix P (P.getD i [] ++ [ltr l]) with
  | none => exact ix_none.1 e
  | some m => rw [e] at h0; have := tr.paths.nonroot e; simp at h0; omega

theorem getD_snoc_left {P : List Str} {x : Str} {i : Nat} (hi : i < P.length) : (P ++ [x]).getD i [] = P.getD i [] := by
  rw [List.getD_eq_getElem?_getD, List.getElem?_append_left hi, ← List.getD_eq_getElem?_getD]
theorem getD_snoc_right {P : List Str} {x : Str} : (P ++ [x]).getD P.length [] = x := by
  rw [List.getD_eq_getElem?_getD, List.getElem?_append_right (Nat.le_refl _), Nat.sub_self]; rfl

theorem Paths.add {P : List Str} (h : Paths P) {i l : Nat} (hi : i < P.length) (hl : l < 26) (hx : P.getD i [] ++ [ltr l] ∉ P) : Paths (P ++ [P.getD i [] ++ [ltr l]]) := by
  refine ⟨?_, fun _ => ?_, fun j h0 hj => ?_⟩
  · rw [List.nodup_append]
    refine ⟨h.nodup, by simp, fun a ha b hb => ?_⟩
    rw [List.mem_singleton] at hb
    subst hb
    intro e
    subst e
    exact hx ha
  · rw [getD_snoc_left (by omega)]; exact h.root (by omega)
  · rw [List.length_append, List.length_singleton] at hj
    by_cases hjn : j < P.length
    · obtain ⟨j', l', h1, h2, h3⟩ := h.par j h0 hjn
      exact ⟨j', l', h1, h2, by rw [getD_snoc_left hjn, getD_snoc_left (by omega)]; exact h3⟩
    · obtain rfl : j = P.length := by omega
      exact ⟨i, l, hi, hl, by rw [getD_snoc_right, getD_snoc_left hi]⟩

theorem Tree.add {T : TT} {P : List Str} (tr : Tree T P) (hnx : T.nx.length = T.wd.length * 26) {i l : Nat} (hi : i < P.length) (hl : l < 26) (h0 : T.nxt i l = 0) : Tree (T.add i l) (P ++ [P.getD i [] ++ [ltr l]]) := by
  have hx := tr.free hi hl h0
  have hlen := tr.len
  refine ⟨tr.paths.add hi hl hx, by simp [TT.add, hlen], fun i' l' hi' hl' => ?_⟩
  rw [List.length_append, List.length_singleton] at hi'
  rw [nxt_add T i l i' l' hnx (by omega) hl (by omega) hl', ix_snoc]
  by_cases hin : i' < P.length
  · rw [getD_snoc_left hin]
    by_cases h1 : i' = i ∧ l' = l
    · obtain ⟨rfl, rfl⟩ := h1
      rw [if_pos ⟨rfl, rfl⟩, ix_none.2 hx, Option.none_or, if_pos (by simp), Option.getD_some, hlen]
    · rw [if_neg h1, if_pos (by omega), tr.link i' l' hin hl', if_neg, Option.or_none]
      intro e
      rw [beq_iff_eq] at e
      obtain ⟨e1, e2⟩ := List.append_inj' e rfl
      have e3 := ltr_inj hl hl' (by simpa using e2)
      have e4 := ix_of tr.paths.nodup hin
      rw [← e1, ix_of tr.paths.nodup hi] at e4
      exact h1 ⟨(Option.some.inj e4).symm, e3.symm⟩
  · obtain rfl : i' = P.length := by omega
    rw [getD_snoc_right, if_neg (by omega), if_neg (by omega)]
    have e1 : ix P (P.getD i [] ++ [ltr l] ++ [ltr l']) = none := by
      rw [ix_none]
      intro hm
      have := tr.paths.take_mem hm (P.getD i [] ++ [ltr l]).length
      rw [List.take_left] at this
      exact hx this
    have e2 : (P.getD i [] ++ [ltr l] == P.getD i [] ++ [ltr l] ++ [ltr l']) = false := by
      rw [beq_eq_false_iff_ne]
      intro e
      have := congrArg List.length e
      simp only [List.length_append, List.length_singleton] at this
      omega
    rw [e1, e2]
    rfl

/-- The first node. -/
theorem tree_root : Tree TT.none.grow [[]] := by
  refine ⟨⟨by simp, fun _ => rfl, fun i h0 hi => ?_⟩, rfl, fun i l hi hl => ?_⟩
  · simp at hi; omega
  · have : i = 0 := by simpa using hi
    subst this
    have e : ix [[]] (List.getD [[]] 0 [] ++ [ltr l]) = none := by
      rw [ix_none]; simp
    rw [e]
    show ([] ++ List.replicate 26 (0 : Int)).getD (0 * 26 + l) 0 = _
    rw [List.nil_append, List.getD_eq_getElem?_getD, List.getElem?_replicate, if_pos (by omega)]
    rfl
theorem tree_none : Tree TT.none [] :=
  ⟨⟨List.nodup_nil, fun h => absurd h (by simp), fun i _ hi => absurd hi (by simp)⟩, rfl, fun i l hi _ => absurd hi (by simp)⟩
end Go.Proofs.Ymbrbm
