/-
  The list for q is q itself, if it is a word, followed by the lists for q+"a", .., q+"z": the plain law. Own text.
-/
import Derived.Test.YmbrbmWithP
namespace Go.Proofs.Ymbrbm
open Go.RowKit

def withL (S : List Str) (q : Str) : List Str := S.filter (fun x => q.isPrefixOf x)
def spl (S : List Str) (q : Str) (l : Nat) : List Str := (if q ∈ S then [q] else []) ++ (List.range l).flatMap (fun i => withL S (q ++ [ltr i]))
theorem spl_succ (S : List Str) (q : Str) (l : Nat) : spl S q (l + 1) = spl S q l ++ withL S (q ++ [ltr l]) := by
  unfold spl
  rw [List.range_succ, List.flatMap_append, ← List.append_assoc]
  simp
theorem spl_zero (S : List Str) (q : Str) : spl S q 0 = if q ∈ S then [q] else [] := by unfold spl; simp
theorem spl_pre (S : List Str) (q : Str) {l : Nat} (h : l ≤ 26) : spl S q l <+: spl S q 26 := by
  unfold spl
  rw [show 26 = l + (26 - l) by omega, List.range_add, List.flatMap_append, ← List.append_assoc]
  exact List.prefix_append _ _
theorem withL_mem {S : List Str} {q x : Str} : x ∈ withL S q ↔ x ∈ S ∧ q <+: x := by
  unfold withL
  rw [List.mem_filter, pre_iff]
theorem Good.split {T : TT} {P S : List Str} (G : Good T P S) (so : Sorted S) (q : Str) : withL S q = spl S q 26 := by
  have hm : ∀ l, l < 26 → ∀ x, x ∈ withL S (q ++ [ltr l]) → ∃ y, x = q ++ (ltr l :: y) := by
    intro l _ x hx
    obtain ⟨_, y, rfl⟩ := withL_mem.1 hx
    exact ⟨y, by simp⟩
  refine (so.filter _).ext ?_ (fun x => ?_)
  · show List.Pairwise _ ((if q ∈ S then [q] else []) ++ (List.range 26).flatMap (fun i => withL S (q ++ [ltr i])))
    rw [List.pairwise_append]
    refine ⟨?_, ?_, ?_⟩
    · split
      · exact List.pairwise_singleton _ _
      · exact List.Pairwise.nil
    · rw [List.pairwise_flatMap]
      refine ⟨fun l hl => so.filter _, List.Pairwise.imp_of_mem ?_ (List.pairwise_lt_range (n := 26))⟩
      intro a b ha hb hab x hx y hy
      rw [List.mem_range] at ha hb
      obtain ⟨x', rfl⟩ := hm a ha x hx
      obtain ⟨y', rfl⟩ := hm b hb y hy
      rw [bl_app, bl_cons]
      have : ltr a < ltr b := by rw [UInt8.lt_iff_toNat_lt, ltr_toNat ha, ltr_toNat hb]; omega
      simp [this]
    · intro x hx y hy
      have : x = q := by
        by_cases hw : q ∈ S
        · rw [if_pos hw, List.mem_singleton] at hx; exact hx
        · rw [if_neg hw] at hx; cases hx
      subst this
      obtain ⟨l, hl, h⟩ := List.mem_flatMap.1 hy
      rw [List.mem_range] at hl
      obtain ⟨y', rfl⟩ := hm l hl y h
      exact bl_prefix x (ltr l) y'
  · show x ∈ withL S q ↔ x ∈ (if q ∈ S then [q] else []) ++ (List.range 26).flatMap (fun i => withL S (q ++ [ltr i]))
    rw [withL_mem, List.mem_append, List.mem_flatMap]
    constructor
    · rintro ⟨h, y, rfl⟩
      cases y with
      | nil =>
        left
        rw [List.append_nil] at h ⊢
        rw [if_pos h, List.mem_singleton]
      | cons c y =>
        right
        have hin : q ++ [c] ∈ P := by
          have := G.tree.paths.take_mem (G.sub _ h) (q.length + 1)
          rw [show q ++ c :: y = (q ++ [c]) ++ y by simp] at this
          rwa [List.take_left' (by simp)] at this
        obtain ⟨l, hl, rfl⟩ := G.tree.paths.letter hin
        exact ⟨l, List.mem_range.2 hl, withL_mem.2 ⟨h, y, by simp⟩⟩
    · rintro (h | ⟨l, hl, h⟩)
      · by_cases hw : q ∈ S
        · rw [if_pos hw, List.mem_singleton] at h
          subst h
          exact ⟨hw, List.prefix_refl _⟩
        · rw [if_neg hw] at h; cases h
      · obtain ⟨h1, y, rfl⟩ := withL_mem.1 h
        exact ⟨h1, ltr l :: y, by simp⟩
end Go.Proofs.Ymbrbm
