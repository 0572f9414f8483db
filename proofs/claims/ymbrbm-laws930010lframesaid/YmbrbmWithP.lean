/-
  WithPrefix over a Trie that holds a set of words. Own text.
-/
import Derived.Test.YmbrbmOrder
import Derived.Test.YmbrbmSets
namespace Go.Proofs.Ymbrbm
open Go.RowKit

theorem Paths.lenM {P : List Str} (h : Paths P) {s : Str} (hs : s ∈ P) : s.length ≤ P.length := by
  obtain ⟨i, hi, rfl⟩ := getD_of_mem hs
  have : ∀ i, i < P.length → (P.getD i []).length ≤ i := by
    intro i
    induction i using Nat.strongRecOn with
    | ind i ih =>
      intro hi
      by_cases h0 : i = 0
      · subst h0; rw [h.root hi]; simp
      · obtain ⟨j, l, hj, _, e⟩ := h.par i (by omega) hi
        rw [e, List.length_append, List.length_singleton]
        have := ih j hj (by omega)
        omega
  have := this i hi
  omega
/-- The words of S that start with q, in order. -/
structure Lists (R S : List Str) (q : Str) : Prop where
  sorted : Sorted R
  mem : ∀ x, x ∈ R ↔ x ∈ S ∧ q.isPrefixOf x = true
theorem Lists.perm {R S : List Str} {q : Str} (h : Lists R S q) (nd : S.Nodup) : R.Perm (S.filter (fun x => q.isPrefixOf x)) :=
  (List.perm_ext_iff_of_nodup h.sorted.nodup (nd.sublist List.filter_sublist)).2 (fun x => by rw [h.mem, List.mem_filter])
theorem Lists.len {R S : List Str} {q : Str} (h : Lists R S q) (nd : S.Nodup) : R.length = cnt S q := by
  rw [(h.perm nd).length_eq, cnt, List.countP_eq_length_filter]
theorem Lists.eq {R S : List Str} {q : Str} (h : Lists R S q) (hs : Sorted S) : R = S.filter (fun x => q.isPrefixOf x) :=
  h.sorted.ext (hs.filter _) (fun x => by rw [h.mem, List.mem_filter])
theorem Good.lists {T : TT} {P S : List Str} (G : Good T P S) {n f : Nat} (hn : n < P.length) (hf : P.length - n ≤ f) : Lists (T.coll f n (P.getD n [])) S (P.getD n []) := by
  refine ⟨G.sorted_coll f n hn hf _, fun x => ?_⟩
  rw [G.mem_coll f n hn hf, pre_iff]
  constructor
  · rintro ⟨y, rfl, h⟩; exact ⟨h, ⟨y, rfl⟩⟩
  · rintro ⟨h, ⟨y, rfl⟩⟩; exact ⟨y, rfl, h⟩

set_option maxRecDepth 100000 in
set_option maxHeartbeats 400000 in
theorem withp_calls (B p : Nat) (h : Hd) (T : TT) (P S : List Str) (q : Str) (w : World) (t : TrieAt w B p h T) (G : Good T P S) (hq : q.length ≤ maxLen) (hP : P.length ≤ 400000) (hS : S.length ≤ 1000000) (hB : B ≤ w.heap.size) :
    Calls Ybmm.prog 24 #[.pointer (some ⟨p, 0, none⟩), Sv q] w fun e w' => ∃ g k R, e = .returned (.slice (some ⟨g, 0, none⟩) (List.length R) k) ∧ w'.ownsRow B 9 1 (.slice (some ⟨g, 0, none⟩) R.length k) R.length (R.map Sv) ∧ w.heap.size ≤ g ∧ Lists R S q ∧ Below w.heap.size w w' := by
  have fn := find_T B p h T P q w t G.tree hq
  cases hm : ix P q with
  | none =>
    rw [hm] at fn
    have hno : Lists [] S q := by
      refine ⟨List.Pairwise.nil, fun x => ?_⟩
      constructor
      · intro h; cases h
      · rintro ⟨h1, h2⟩
        have h3 := cnt_zero G.tree.paths G.sub (ix_none.1 hm)
        have h4 := cnt_pos S x q h1 h2
        omega
    have HNO := hide2 hno
    have FN := hide2 fn
    clear fn G t hno hm
    go_enter Ybmm.func24, Ybmm.ntmps24
    go_wp2_with (go_at_call 19; refine FN.out.mono ?_; rintro e w' ⟨rfl, he⟩; obtain rfl := he.symm)
    go_ret
    exact ⟨w.heap.size, 0, [], rfl, own_empty w B hB, Nat.le_refl _, HNO.out, (Below.refl _ w).alloc (Nat.le_refl _) _⟩
  | some n =>
    rw [hm] at fn
    obtain ⟨h1, h2⟩ := ix_some hm
    have hl := G.lists (f := P.length) h1 (by omega)
    rw [h2] at hl
    have hlen := hl.len G.nodup
    have hcn := cnt_le S q
    have hqm : q.length ≤ P.length := G.tree.paths.lenM (by rw [← h2]; exact mem_getD h1)
    have cc := fun W tW oW hW => collect_calls B p h T P.length n q (.slice (some ⟨w.heap.size, 0, none⟩) 0 0) 0 [] W (G.deep _ n h1 (by omega)) tW oW (by omega) (by omega) hW
    have CC := hide2 cc
    have HL := hide2 hl
    have FN := hide2 fn
    have T0 := hide2 t
    clear cc hl fn t G hm h2 hlen
    go_enter Ybmm.func24, Ybmm.ntmps24
    go_wp2_with (first | (go_at_call 19; refine FN.out.mono ?_; rintro e w' ⟨rfl, he⟩; obtain rfl := he.symm) | (go_at_call 45; refine (CC.out _ (T0.out.alloc _) (own_empty w B hB) (by simp; omega)).mono ?_; rintro e w' ⟨v', rfl, own, st, hsm⟩))
    go_ret
    obtain ⟨a, c, rfl⟩ := ownsRow_slice own
    cases a with
    | none => have := hsm rfl; simp [Value.ownBlock] at this
    | some ad =>
      have hown := own
      rcases own.2 with ⟨e, _⟩ | ⟨g, cap, cur, e, _⟩
      · cases e
      · obtain ⟨rfl, rfl⟩ : ad = ⟨g, 0, none⟩ ∧ c = cap := by simpa using e
        rw [Nat.zero_add, List.nil_append] at hown
        refine ⟨g, c, T.coll P.length n q, by rw [Nat.zero_add]; rfl, hown, ?_, HL.out, ?_⟩
        · rcases st.f g rfl with e | e
          · simp [Value.ownBlock] at e; omega
          · simp at e; omega
        · refine ((Below.refl _ w).alloc (Nat.le_refl _) _).trans (st.toBelow (fun k hk => ?_) (by simp))
          simp [Value.ownBlock] at hk; omega
end Go.Proofs.Ymbrbm
