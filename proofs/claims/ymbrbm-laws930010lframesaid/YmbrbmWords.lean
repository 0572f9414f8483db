/-
  A Trie that holds a set of words: the plain laws of insertion and removal. Own text.
-/
import Derived.Test.YmbrbmTreeAdd
namespace Go.Proofs.Ymbrbm
open Go.RowKit

/-- How many words of S start with p. -/
def cnt (S : List Str) (p : Str) : Nat := S.countP (fun s => p.isPrefixOf s)
theorem pre_iff {a b : Str} : a.isPrefixOf b = true ↔ a <+: b := List.isPrefixOf_iff_prefix
theorem pre_eq_false {a b : Str} : a.isPrefixOf b = false ↔ ¬ a <+: b := by rw [← pre_iff, Bool.not_eq_true]
theorem cnt_snoc (S : List Str) (w p : Str) : cnt (S ++ [w]) p = cnt S p + if p.isPrefixOf w then 1 else 0 := by
  unfold cnt
  rw [List.countP_append]
  congr 1
  by_cases h : p.isPrefixOf w = true
  · rw [List.countP_cons_of_pos h, if_pos h]; rfl
  · rw [List.countP_cons_of_neg h, if_neg h]; rfl
theorem cnt_le (S : List Str) (p : Str) : cnt S p ≤ S.length := List.countP_le_length
theorem cnt_erase (S : List Str) (w p : Str) (h : w ∈ S) : cnt (S.erase w) p = cnt S p - if p.isPrefixOf w then 1 else 0 := by
  have e : cnt S p = cnt (w :: S.erase w) p := (List.perm_cons_erase h).countP_eq _
  rw [e]
  have e2 : cnt (w :: S.erase w) p = cnt (S.erase w) p + if p.isPrefixOf w then 1 else 0 := by
    unfold cnt
    by_cases h2 : p.isPrefixOf w = true
    · rw [List.countP_cons_of_pos h2, if_pos h2]
    · rw [List.countP_cons_of_neg h2, if_neg h2]; rfl
  rw [e2, Nat.add_sub_cancel]
theorem cnt_pos (S : List Str) (w p : Str) (h : w ∈ S) (hp : p.isPrefixOf w = true) : 1 ≤ cnt S p := List.countP_pos_iff.2 ⟨w, h, hp⟩

/-- T is the Trie of the paths P and the words S. -/
structure Good (T : TT) (P S : List Str) : Prop where
  tree : Tree T P
  nodup : S.Nodup
  sub : ∀ s, s ∈ S → s ∈ P
  wd : ∀ i, i < P.length → T.wd.getD i false = decide (P.getD i [] ∈ S)
  bl : ∀ i, i < P.length → T.bl.getD i 0 = (cnt S (P.getD i []) : Int)
theorem good_none : Good TT.none [] [] := ⟨tree_none, List.nodup_nil, fun s h => absurd h (by simp), fun i h => absurd h (by simp), fun i h => absurd h (by simp)⟩

theorem cnt_zero {P S : List Str} (h : Paths P) (hs : ∀ s, s ∈ S → s ∈ P) {x : Str} (hx : x ∉ P) : cnt S x = 0 := by
  unfold cnt
  rw [List.countP_eq_zero]
  intro s hm hp
  have := pre_iff.1 hp
  obtain ⟨r, rfl⟩ := this
  have := h.take_mem (hs _ hm) x.length
  rw [List.take_left] at this
  exact hx this

/-- A path added if it is not there. -/
def addP (P : List Str) (s : Str) : List Str := if s ∈ P then P else P ++ [s]
/-- The first k letters' prefixes of w added, one by one. -/
def insTo (P : List Str) (w : Str) : Nat → List Str
  | 0 => addP P []
  | k + 1 => addP (insTo P w k) (w.take (k + 1))
def insP (P : List Str) (w : Str) : List Str := insTo P w w.length

/-- In the midst of an insertion (d = 1) or a removal (d = -1): the counts along the first k letters have turned. -/
structure Mdl (d : Int) (T : TT) (P S : List Str) (w : Str) (k : Nat) : Prop where
  tree : Tree T P
  sub : ∀ s, s ∈ S → s ∈ P
  wd : ∀ i, i < P.length → T.wd.getD i false = decide (P.getD i [] ∈ S)
  bl : ∀ i, i < P.length → T.bl.getD i 0 = (cnt S (P.getD i []) : Int) + if (P.getD i []).isPrefixOf (w.take k) then d else 0

theorem getD_set_self {α : Type} (l : List α) (n : Nat) (a d : α) (h : n < l.length) : (l.set n a).getD n d = a := by
  rw [List.getD_eq_getElem?_getD, List.getElem?_set_self h]; rfl
theorem getD_set_ne {α : Type} (l : List α) (n i : Nat) (a d : α) (h : n ≠ i) : (l.set n a).getD i d = l.getD i d := by
  rw [List.getD_eq_getElem?_getD, List.getElem?_set_ne h, ← List.getD_eq_getElem?_getD]
theorem getD_snoc {α : Type} (l : List α) (x d : α) (i : Nat) : (l ++ [x]).getD i d = if i < l.length then l.getD i d else if i = l.length then x else d := by
  rw [List.getD_eq_getElem?_getD]
  by_cases h : i < l.length
  · rw [if_pos h, List.getElem?_append_left h, ← List.getD_eq_getElem?_getD]
  · rw [if_neg h, List.getElem?_append_right (by omega)]
    by_cases h2 : i = l.length
    · rw [if_pos h2, h2, Nat.sub_self]; rfl
    · rw [if_neg h2, List.getElem?_eq_none (by simp; omega)]; rfl

/-- A tree does not hang on marks and counts. -/
theorem Tree.marks {T : TT} {P : List Str} (tr : Tree T P) (wd : List Bool) (bl : List Int) (h : wd.length = T.wd.length) : Tree ⟨T.nx, wd, bl⟩ P :=
  ⟨tr.paths, h.trans tr.len, tr.link⟩
theorem Paths.inj {P : List Str} (h : Paths P) {i j : Nat} (hi : i < P.length) (hj : j < P.length) (e : P.getD i [] = P.getD j []) : i = j := by
  have h1 := ix_of h.nodup hi
  rw [e, ix_of h.nodup hj] at h1
  exact (Option.some.inj h1).symm

section
variable {d : Int} {T : TT} {P S : List Str} {w : Str} {k n l : Nat}
/-- One letter more along the path: the count at its node turned. -/
theorem Mdl.inc (M : Mdl d T P S w k) (hbl : T.bl.length = P.length) (hn : n < P.length) (hp : P.getD n [] = w.take (k + 1)) (hk : k < w.length) : Mdl d ⟨T.nx, T.wd, T.bl.set n (T.bl.getD n 0 + d)⟩ P S w (k + 1) := by
  refine ⟨M.tree.marks _ _ rfl, M.sub, M.wd, fun i hi => ?_⟩
  show (T.bl.set n (T.bl.getD n 0 + d)).getD i 0 = _
  by_cases e : i = n
  · subst e
    rw [getD_set_self _ _ _ _ (by omega), M.bl i hn, hp]
    have h1 : (w.take (k + 1)).isPrefixOf (w.take k) = false := by
      rw [pre_eq_false]
      intro h
      have := h.length_le
      rw [List.length_take, List.length_take] at this
      omega
    have h2 : (w.take (k + 1)).isPrefixOf (w.take (k + 1)) = true := pre_iff.2 (List.prefix_refl _)
    rw [h1, h2]
    simp
  · rw [getD_set_ne _ _ _ _ _ (by omega), M.bl i hi]
    congr 1
    have h3 : (P.getD i []).isPrefixOf (w.take (k + 1)) = (P.getD i []).isPrefixOf (w.take k) := by
      rw [Bool.eq_iff_iff, pre_iff, pre_iff, List.prefix_take_iff, List.prefix_take_iff]
      constructor
      · rintro ⟨h4, h5⟩
        refine ⟨h4, ?_⟩
        by_cases h6 : (P.getD i []).length = k + 1
        · exfalso
          apply e
          refine M.tree.paths.inj hi hn ?_
          rw [hp, List.prefix_iff_eq_take.1 h4, h6]
        · omega
      · rintro ⟨h4, h5⟩
        exact ⟨h4, by omega⟩
    rw [h3]
/-- The root's count turned. -/
theorem Mdl.start (G : Good T P S) (hbl : T.bl.length = P.length) (h0 : 0 < P.length) : Mdl d ⟨T.nx, T.wd, T.bl.set 0 (T.bl.getD 0 0 + d)⟩ P S w 0 := by
  refine ⟨G.tree.marks _ _ rfl, G.sub, G.wd, fun i hi => ?_⟩
  show (T.bl.set 0 (T.bl.getD 0 0 + d)).getD i 0 = _
  rw [List.take_zero]
  by_cases e : i = 0
  · subst e
    rw [getD_set_self _ _ _ _ (by omega), G.bl 0 hi, G.tree.paths.root h0]
    rfl
  · rw [getD_set_ne _ _ _ _ _ (by omega), G.bl i hi]
    have : (P.getD i []).isPrefixOf ([] : Str) = false := by
      rw [pre_eq_false, List.prefix_nil]
      intro e2
      exact e (G.tree.paths.inj hi h0 (by rw [e2, G.tree.paths.root h0]))
    rw [this]
    simp
/-- A node added along the path. -/
theorem Mdl.add (M : Mdl d T P S w k) (hnx : T.nx.length = T.wd.length * 26) (hbl : T.bl.length = P.length) (hn : n < P.length) (hl : l < 26) (hp : P.getD n [] ++ [ltr l] = w.take (k + 1)) (hk : k < w.length) (h0 : T.nxt n l = 0) :
    Mdl d (T.add n l) (P ++ [w.take (k + 1)]) S w k := by
  have hx := M.tree.free hn hl h0
  have tr := M.tree.add hnx hn hl h0
  have hlen := M.tree.len
  rw [hp] at hx tr
  refine ⟨tr, fun s hs => List.mem_append_left _ (M.sub s hs), fun i hi => ?_, fun i hi => ?_⟩
  · rw [List.length_append, List.length_singleton] at hi
    show (T.wd ++ [false]).getD i false = _
    rw [getD_snoc, getD_snoc]
    by_cases h1 : i < P.length
    · rw [if_pos (by omega), if_pos h1]; exact M.wd i h1
    · rw [if_neg (by omega), if_pos (by omega), if_neg h1, if_pos (by omega)]
      exact (decide_eq_false (fun h => hx (M.sub _ h))).symm
  · rw [List.length_append, List.length_singleton] at hi
    show (T.bl ++ [0]).getD i 0 = _
    rw [getD_snoc, getD_snoc]
    by_cases h1 : i < P.length
    · rw [if_pos (by omega), if_pos h1]; exact M.bl i h1
    · rw [if_neg (by omega), if_pos (by omega), if_neg h1, if_pos (by omega), cnt_zero M.tree.paths M.sub hx]
      have h2 : (w.take (k + 1)).isPrefixOf (w.take k) = false := by
        rw [pre_eq_false]
        intro h
        have := h.length_le
        rw [List.length_take, List.length_take] at this
        omega
      rw [h2]
      simp
/-- The word's own mark set: the insertion is done. -/
theorem Mdl.ins (M : Mdl 1 T P S w w.length) (nd : S.Nodup) (hn : ix P w = some n) (hw : w ∉ S) : Good ⟨T.nx, T.wd.set n true, T.bl⟩ P (S ++ [w]) := by
  obtain ⟨h1, h2⟩ := ix_some hn
  have hlen := M.tree.len
  refine ⟨M.tree.marks _ _ (by simp), ?_, ?_, fun i hi => ?_, fun i hi => ?_⟩
  · rw [List.nodup_append]
    refine ⟨nd, by simp, fun a ha b hb => ?_⟩
    rw [List.mem_singleton] at hb
    subst hb
    intro e
    subst e
    exact hw ha
  · intro s hs
    rw [List.mem_append, List.mem_singleton] at hs
    rcases hs with hs | rfl
    · exact M.sub s hs
    · rw [← h2]; exact mem_getD h1
  · show (T.wd.set n true).getD i false = _
    by_cases e : i = n
    · subst e
      rw [getD_set_self _ _ _ _ (by omega), h2]
      simp
    · rw [getD_set_ne _ _ _ _ _ (by omega), M.wd i hi]
      congr 1
      rw [List.mem_append, List.mem_singleton, eq_iff_iff]
      constructor
      · exact .inl
      · rintro (h | h)
        · exact h
        · exact absurd (M.tree.paths.inj hi h1 (h.trans h2.symm)) e
  · show T.bl.getD i 0 = _
    rw [M.bl i hi, List.take_length, cnt_snoc]
    by_cases h : (P.getD i []).isPrefixOf w = true
    · rw [if_pos h, if_pos h]; omega
    · rw [if_neg h, if_neg h]; omega
/-- The word's own mark cleared: the removal is done. -/
theorem Mdl.rem (M : Mdl (-1) T P S w w.length) (nd : S.Nodup) (hn : ix P w = some n) (hw : w ∈ S) : Good ⟨T.nx, T.wd.set n false, T.bl⟩ P (S.erase w) := by
  obtain ⟨h1, h2⟩ := ix_some hn
  have hlen := M.tree.len
  refine ⟨M.tree.marks _ _ (by simp), nd.erase w, fun s hs => M.sub s (List.mem_of_mem_erase hs), fun i hi => ?_, fun i hi => ?_⟩
  · show (T.wd.set n false).getD i false = _
    by_cases e : i = n
    · subst e
      rw [getD_set_self _ _ _ _ (by omega), h2]
      exact (decide_eq_false (fun h => (nd.mem_erase_iff.1 h).1 rfl)).symm
    · rw [getD_set_ne _ _ _ _ _ (by omega), M.wd i hi]
      congr 1
      rw [nd.mem_erase_iff, eq_iff_iff]
      constructor
      · intro h
        exact ⟨fun h3 => e (M.tree.paths.inj hi h1 (h3.trans h2.symm)), h⟩
      · exact fun h => h.2
  · show T.bl.getD i 0 = _
    rw [M.bl i hi, List.take_length, cnt_erase S w _ hw]
    by_cases h : (P.getD i []).isPrefixOf w = true
    · have := cnt_pos S w _ hw h
      rw [if_pos h, if_pos h]; omega
    · rw [if_neg h, if_neg h]; omega
end

/-- A word: letters alone. -/
def valid (w : Str) : Bool := w.all (fun c => 97 ≤ c.toNat && c.toNat ≤ 122)
theorem valid_get {w : Str} (h : valid w = true) {k : Nat} (hk : k < w.length) : ∃ l, l < 26 ∧ w[k] = ltr l := by
  have := List.all_eq_true.1 h w[k] (List.getElem_mem hk)
  simp only [Bool.and_eq_true, decide_eq_true_eq] at this
  exact ltr_of this.1 this.2
end Go.Proofs.Ymbrbm
