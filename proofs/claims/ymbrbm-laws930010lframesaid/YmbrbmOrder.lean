/-
  The order of strings; strictly sorted lists; what collect lists. Own text.
-/
import Derived.Test.YmbrbmWords
namespace Go.Proofs.Ymbrbm
open Go.RowKit

/-- The model's order of strings. -/
abbrev bl (a b : Str) : Bool := Op.bytesLess a b
theorem bl_nil (a : Str) : bl a [] = false := by cases a <;> rfl
theorem bl_cons (a b : UInt8) (x y : Str) : bl (a :: x) (b :: y) = (decide (a < b) || (a == b && bl x y)) := rfl
theorem bl_irr (a : Str) : bl a a = false := by
  induction a with
  | nil => rfl
  | cons c a ih => rw [bl_cons, ih]; simp
theorem bl_app (s x y : Str) : bl (s ++ x) (s ++ y) = bl x y := by
  induction s with
  | nil => rfl
  | cons c s ih => rw [List.cons_append, List.cons_append, bl_cons, ih]; simp
theorem bl_trans : ∀ {a b c : Str}, bl a b = true → bl b c = true → bl a c = true := by
  intro a
  induction a with
  | nil =>
    intro b c h1 h2
    cases c with
    | nil => rw [bl_nil] at h2; cases h2
    | cons => rfl
  | cons x a ih =>
    intro b c h1 h2
    cases b with
    | nil => rw [bl_nil] at h1; cases h1
    | cons y b =>
      cases c with
      | nil => rw [bl_nil] at h2; cases h2
      | cons z c =>
        rw [bl_cons] at h1 h2 ⊢
        simp only [Bool.or_eq_true, decide_eq_true_eq, Bool.and_eq_true, beq_iff_eq] at h1 h2 ⊢
        rcases h1 with h1 | ⟨rfl, h1⟩
        · rcases h2 with h2 | ⟨rfl, h2⟩
          · left; rw [UInt8.lt_iff_toNat_lt] at *; omega
          · exact .inl h1
        · rcases h2 with h2 | ⟨rfl, h2⟩
          · exact .inl h2
          · exact .inr ⟨rfl, ih h1 h2⟩
theorem bl_tri : ∀ (a b : Str), bl a b = true ∨ a = b ∨ bl b a = true := by
  intro a
  induction a with
  | nil => intro b; cases b with
    | nil => exact .inr (.inl rfl)
    | cons => exact .inl rfl
  | cons x a ih =>
    intro b
    cases b with
    | nil => exact .inr (.inr rfl)
    | cons y b =>
      rw [bl_cons, bl_cons]
      simp only [Bool.or_eq_true, decide_eq_true_eq, Bool.and_eq_true, beq_iff_eq]
      by_cases h : x = y
      · subst h
        rcases ih b with h | rfl | h
        · exact .inl (.inr ⟨rfl, h⟩)
        · exact .inr (.inl rfl)
        · exact .inr (.inr (.inr ⟨rfl, h⟩))
      · have : x.toNat ≠ y.toNat := fun e => h (UInt8.toNat_inj.1 e)
        rcases Nat.lt_or_gt_of_ne this with h2 | h2
        · exact .inl (.inl (UInt8.lt_iff_toNat_lt.2 h2))
        · exact .inr (.inr (.inl (UInt8.lt_iff_toNat_lt.2 h2)))
theorem bl_asymm {a b : Str} (h : bl a b = true) : bl b a = false := by
  cases h2 : bl b a with
  | false => rfl
  | true => have := bl_trans h h2; rw [bl_irr] at this; cases this
/-- A proper prefix comes first. -/
theorem bl_prefix (s : Str) (c : UInt8) (y : Str) : bl s (s ++ c :: y) = true := by
  have := bl_app s [] (c :: y)
  rw [List.append_nil] at this
  rw [this]; rfl

def Sorted (l : List Str) : Prop := l.Pairwise (fun a b => bl a b = true)
theorem Sorted.nodup {l : List Str} (h : Sorted l) : l.Nodup :=
  List.Pairwise.imp (fun {a b} hab => fun e => by subst e; rw [bl_irr] at hab; cases hab) h
theorem Sorted.ext : ∀ {l m : List Str}, Sorted l → Sorted m → (∀ x, x ∈ l ↔ x ∈ m) → l = m := by
  intro l
  induction l with
  | nil =>
    intro m _ _ h
    cases m with
    | nil => rfl
    | cons b m => exact absurd ((h b).2 (by simp)) (by simp)
  | cons a l ih =>
    intro m hl hm h
    cases m with
    | nil => exact absurd ((h a).1 (by simp)) (by simp)
    | cons b m =>
      rw [Sorted, List.pairwise_cons] at hl hm
      have hab : a = b := by
        rcases List.mem_cons.1 ((h a).1 (by simp)) with e | e
        · exact e
        · rcases List.mem_cons.1 ((h b).2 (by simp)) with e2 | e2
          · exact e2.symm
          · have h1 := hm.1 a e
            have h2 := hl.1 b e2
            rw [bl_asymm h1] at h2
            cases h2
      subst hab
      congr 1
      refine ih hl.2 hm.2 (fun x => ?_)
      constructor
      · intro hx
        rcases List.mem_cons.1 ((h x).1 (List.mem_cons_of_mem _ hx)) with e | e
        · subst e; have := hl.1 x hx; rw [bl_irr] at this; cases this
        · exact e
      · intro hx
        rcases List.mem_cons.1 ((h x).2 (List.mem_cons_of_mem _ hx)) with e | e
        · subst e; have := hm.1 x hx; rw [bl_irr] at this; cases this
        · exact e
theorem Sorted.filter {l : List Str} (h : Sorted l) (p : Str → Bool) : Sorted (l.filter p) := List.Pairwise.filter p h

/-- The Trie does not hang on the order of the words. -/
theorem cnt_perm {S S' : List Str} (h : S.Perm S') (p : Str) : cnt S p = cnt S' p := h.countP_eq _
theorem Good.perm {T : TT} {P S S' : List Str} (G : Good T P S) (h : S.Perm S') : Good T P S' :=
  ⟨G.tree, h.nodup_iff.1 G.nodup, fun s hs => G.sub s (h.mem_iff.2 hs), fun i hi => by rw [G.wd i hi]; congr 1; rw [h.mem_iff], fun i hi => by rw [G.bl i hi, cnt_perm h]⟩
theorem Good.same {T : TT} {P S S' : List Str} (G : Good T P S) (nd : S'.Nodup) (h : ∀ x, x ∈ S ↔ x ∈ S') : Good T P S' :=
  G.perm ((List.perm_ext_iff_of_nodup G.nodup nd).2 h)

section
variable {T : TT} {P S : List Str}
/-- A child's index is larger. -/
theorem Paths.up (h : Paths P) {n m l : Nat} (hn : n < P.length) (hm : ix P (P.getD n [] ++ [ltr l]) = some m) : n < m := by
  obtain ⟨h1, h2⟩ := ix_some hm
  obtain ⟨j, l', hj, _, e⟩ := h.par m (h.nonroot hm) h1
  rw [e] at h2
  have := h.inj (by omega) hn (List.append_inj' h2 rfl).1
  omega
theorem Good.wgt (G : Good T P S) {n l : Nat} (hn : n < P.length) (hl : l < 26) : T.wgt n l = (cnt S (P.getD n [] ++ [ltr l]) : Int) := by
  unfold TT.wgt
  rw [G.tree.link n l hn hl]
  cases e : ix P (P.getD n [] ++ [ltr l]) with
  | none => rw [if_pos (by simp), cnt_zero G.tree.paths G.sub (ix_none.1 e)]; rfl
  | some m =>
    have h0 := G.tree.paths.nonroot e
    obtain ⟨h1, h2⟩ := ix_some e
    rw [if_neg (by simp; omega), Option.getD_some, Int.toNat_natCast, G.bl m h1, h2]
theorem Good.child (G : Good T P S) {n l : Nat} (hn : n < P.length) (hl : l < 26) (hw : T.wgt n l > 0) : ∃ m : Nat, T.nxt n l = (m : Int) ∧ n < m ∧ m < P.length ∧ P.getD m [] = P.getD n [] ++ [ltr l] := by
  rw [G.wgt hn hl] at hw
  cases e : ix P (P.getD n [] ++ [ltr l]) with
  | none => rw [cnt_zero G.tree.paths G.sub (ix_none.1 e)] at hw; simp at hw
  | some m =>
    obtain ⟨h1, h2⟩ := ix_some e
    exact ⟨m, by rw [G.tree.link n l hn hl, e]; rfl, G.tree.paths.up hn e, h1, h2⟩
theorem Good.deep (G : Good T P S) : ∀ f n, n < P.length → P.length - n ≤ f → T.deep f n := by
  intro f
  induction f with
  | zero => intro n hn hf; omega
  | succ f ih =>
    intro n hn hf
    refine ⟨by rw [G.tree.len]; exact hn, G.tree.ok n hn, fun l hl hw => ?_⟩
    obtain ⟨m, e, h1, h2, _⟩ := G.child hn hl hw
    rw [e, Int.toNat_natCast]
    exact ih m h2 (by omega)
theorem Good.mem_coll (G : Good T P S) : ∀ f n, n < P.length → P.length - n ≤ f → ∀ s x, x ∈ T.coll f n s ↔ ∃ y, x = s ++ y ∧ P.getD n [] ++ y ∈ S := by
  intro f
  induction f with
  | zero => intro n hn hf; omega
  | succ f ih =>
    intro n hn hf s x
    show x ∈ (if T.wd.getD n false = true then [s] else []) ++ (List.range 26).flatMap (fun l => if T.wgt n l > 0 then T.coll f (T.nxt n l).toNat (s ++ [ltr l]) else []) ↔ _
    rw [List.mem_append, List.mem_flatMap, G.wd n hn]
    constructor
    · rintro (h | ⟨l, hl, h⟩)
      · by_cases hs : P.getD n [] ∈ S
        · rw [if_pos (by simpa using hs), List.mem_singleton] at h
          exact ⟨[], by rw [h, List.append_nil], by rw [List.append_nil]; exact hs⟩
        · rw [if_neg (by simpa using hs)] at h; cases h
      · rw [List.mem_range] at hl
        by_cases hw : T.wgt n l > 0
        · rw [if_pos hw] at h
          obtain ⟨m, e, h1, h2, h3⟩ := G.child hn hl hw
          rw [e, Int.toNat_natCast, ih m h2 (by omega)] at h
          obtain ⟨y, rfl, hy⟩ := h
          refine ⟨ltr l :: y, by simp, ?_⟩
          rw [h3, List.append_assoc] at hy
          exact hy
        · rw [if_neg hw] at h; cases h
    · rintro ⟨y, rfl, hy⟩
      cases y with
      | nil =>
        rw [List.append_nil] at hy
        left
        rw [if_pos (by simpa using hy), List.append_nil, List.mem_singleton]
      | cons c y =>
        right
        have hin : P.getD n [] ++ [c] ∈ P := by
          have := G.tree.paths.take_mem (G.sub _ hy) ((P.getD n []).length + 1)
          rw [show P.getD n [] ++ c :: y = (P.getD n [] ++ [c]) ++ y by simp] at this
          rwa [List.take_left' (by simp)] at this
        obtain ⟨l, hl, rfl⟩ := G.tree.paths.letter hin
        have hw : T.wgt n l > 0 := by
          rw [G.wgt hn hl]
          have := cnt_pos S _ (P.getD n [] ++ [ltr l]) hy (pre_iff.2 ⟨y, by simp⟩)
          omega
        refine ⟨l, List.mem_range.2 hl, ?_⟩
        rw [if_pos hw]
        obtain ⟨m, e, h1, h2, h3⟩ := G.child hn hl hw
        rw [e, Int.toNat_natCast, ih m h2 (by omega)]
        exact ⟨y, by simp, by rw [h3, List.append_assoc]; exact hy⟩
theorem Good.sorted_coll (G : Good T P S) : ∀ f n, n < P.length → P.length - n ≤ f → ∀ s, Sorted (T.coll f n s) := by
  intro f
  induction f with
  | zero => intro n hn hf; omega
  | succ f ih =>
    intro n hn hf s
    show List.Pairwise _ ((if T.wd.getD n false = true then [s] else []) ++ (List.range 26).flatMap (fun l => if T.wgt n l > 0 then T.coll f (T.nxt n l).toNat (s ++ [ltr l]) else []))
    have hmem : ∀ l, l < 26 → ∀ x, x ∈ (if T.wgt n l > 0 then T.coll f (T.nxt n l).toNat (s ++ [ltr l]) else []) → ∃ y, x = s ++ (ltr l :: y) := by
      intro l hl x hx
      by_cases hw : T.wgt n l > 0
      · rw [if_pos hw] at hx
        obtain ⟨m, e, h1, h2, h3⟩ := G.child hn hl hw
        rw [e, Int.toNat_natCast, G.mem_coll f m h2 (by omega)] at hx
        obtain ⟨y, rfl, _⟩ := hx
        exact ⟨y, by simp⟩
      · rw [if_neg hw] at hx; cases hx
    rw [List.pairwise_append]
    refine ⟨?_, ?_, ?_⟩
    · split
      · exact List.pairwise_singleton _ _
      · exact List.Pairwise.nil
    · rw [List.pairwise_flatMap]
      refine ⟨fun l hl => ?_, ?_⟩
      · rw [List.mem_range] at hl
        by_cases hw : T.wgt n l > 0
        · rw [if_pos hw]
          obtain ⟨m, e, h1, h2, h3⟩ := G.child hn hl hw
          rw [e, Int.toNat_natCast]
          exact ih m h2 (by omega) _
        · rw [if_neg hw]; exact List.Pairwise.nil
      · refine List.Pairwise.imp_of_mem ?_ (List.pairwise_lt_range (n := 26))
        intro a b ha hb hab x hx y hy
        rw [List.mem_range] at ha hb
        obtain ⟨x', rfl⟩ := hmem a ha x hx
        obtain ⟨y', rfl⟩ := hmem b hb y hy
        rw [bl_app, bl_cons]
        have : ltr a < ltr b := by rw [UInt8.lt_iff_toNat_lt, ltr_toNat ha, ltr_toNat hb]; omega
        simp [this]
    · intro x hx y hy
      have : x = s := by
        by_cases hw : T.wd.getD n false = true
        · rw [if_pos hw, List.mem_singleton] at hx; exact hx
        · rw [if_neg hw] at hx; cases hx
      subst this
      obtain ⟨l, hl, h⟩ := List.mem_flatMap.1 hy
      rw [List.mem_range] at hl
      obtain ⟨y', rfl⟩ := hmem l hl y h
      exact bl_prefix x (ltr l) y'
end
end Go.Proofs.Ymbrbm
