/-
  A Trie is determined by its paths and its words; copies of its three rows, 'append([]T{}, t.row...)'. Own text.
-/
import Derived.Test.YmbrbmHBase
import Derived.Test.YmbrbmRemove
import Derived.Laws.AppendOwnNone
namespace Go.Proofs.Ymbrbm
open Go.RowKit

theorem Paths.valid {P : List Str} (h : Paths P) : ∀ i, i < P.length → Go.Proofs.Ymbrbm.valid (P.getD i []) = true := by
  intro i
  induction i using Nat.strongRecOn with
  | ind i ih =>
    intro hi
    by_cases h0 : i = 0
    · subst h0
      rw [h.root hi]
      rfl
    · obtain ⟨j, l, hj, hl, e⟩ := h.par i (by omega) hi
      rw [e]
      exact valid_app _ l (ih j hj (by omega)) hl
theorem Good.valid {T : TT} {P S : List Str} (G : Good T P S) {x : Str} (hx : x ∈ S) : Go.Proofs.Ymbrbm.valid x = true := by
  obtain ⟨i, hi, e⟩ := List.getElem_of_mem (G.sub x hx)
  have := G.tree.paths.valid i hi
  simp only [List.getD, List.getElem?_eq_getElem hi, Option.getD_some, e] at this
  exact this
theorem insPs_same {T : TT} {P S : List Str} (G : Good T P S) {q : Str} (hq : q ∈ P) : insPs P q = P := by
  unfold insPs
  split
  · exact insTo_same G.tree.paths hq _
  · rfl
/-- The same paths and the same words: the same Trie. -/
theorem Good.det {T T' : TT} {P S S' : List Str} (G : Good T P S) (G' : Good T' P S') (hm : ∀ x, x ∈ S ↔ x ∈ S') (hN : T.nx.length = T.wd.length * 26) (hN' : T'.nx.length = T'.wd.length * 26) (hB : T.bl.length = T.wd.length) (hB' : T'.bl.length = T'.wd.length) : T = T' := by
  have l1 := G.tree.len
  have l2 := G'.tree.len
  have hcnt : ∀ p, cnt S p = cnt S' p := fun p => ((List.perm_ext_iff_of_nodup G.nodup G'.nodup).2 hm).countP_eq _
  obtain ⟨nx, wd, bl⟩ := T
  obtain ⟨nx', wd', bl'⟩ := T'
  dsimp only at *
  congr 1
  · apply List.ext_getElem (by rw [hN, hN', l1, l2])
    intro j h1 h2
    have e1 := G.tree.link (j / 26) (j % 26) (by omega) (by omega)
    have e2 := G'.tree.link (j / 26) (j % 26) (by omega) (by omega)
    have e3 := e1.trans e2.symm
    unfold TT.nxt at e3
    dsimp only at e3
    rw [show j / 26 * 26 + j % 26 = j by omega] at e3
    simpa [List.getD, List.getElem?_eq_getElem h1, List.getElem?_eq_getElem h2] using e3
  · apply List.ext_getElem (by rw [l1, l2])
    intro j h1 h2
    have e1 := G.wd j (by omega)
    have e2 := G'.wd j (by omega)
    have e3 : decide (P.getD j [] ∈ S) = decide (P.getD j [] ∈ S') := by simp only [hm]
    have e4 := (e1.trans e3).trans e2.symm
    simpa [List.getD, List.getElem?_eq_getElem h1, List.getElem?_eq_getElem h2] using e4
  · apply List.ext_getElem (by rw [hB, hB', l1, l2])
    intro j h1 h2
    have e1 := G.bl j (by omega)
    have e2 := G'.bl j (by omega)
    rw [hcnt] at e1
    have e4 := e1.trans e2.symm
    simpa [List.getD, List.getElem?_eq_getElem h1, List.getElem?_eq_getElem h2] using e4

/-- 'append([]T{}, v...)': behind the new empty block. -/
theorem wpList_copy {w0 : World} {ops : Array Oper} {rest : List Oper} {o : Oper} {a : Act} {Q : Exit → Act → World → Prop} (s x : Operand) (t e : TypeId) (size bytes : Nat) (z : Value)
    (hgd : o.guard = none) (ho : o.op = .call { callee := .builtin .append, args := #[s, x], argTypes := #[t, t] })
    (ht : Ybmm.prog.underlying t = some (.slice e)) (hinfo : (Ybmm.prog.info? e).map (fun i => (i.zero, i.size, i.bytes)) = some (some z, size, bytes)) (hzs : z.cells.size = size) (hsz : 0 < size) (hby : bytes ≤ 208)
    (B n : Nat) (v : Value) (xs : List Value) (own : w0.ownsRow B e size v n xs) (h1 : ∀ u ∈ xs, u.oneCell' = true) (hx : a.eval x = v) (H : Nat) (hH : w0.heap.size = H) (hs : a.eval s = .slice (some ⟨H, 0, none⟩) 0 0) (hn : n ≤ 1000000)
    (h : ∀ v' w1, w1.ownsRow H e size v' n xs → Below H w0 w1 → wpList Ybmm.prog ops Q rest (a.put o.dst v') w1) :
    wpList Ybmm.prog ops Q (o :: rest) a (w0.alloc (.cells #[] e)) := by
  obtain ⟨i, hi, hz, hsi, hbi⟩ := info_parts hinfo
  subst hH
  have own0 : (w0.alloc (.cells #[] e)).ownsRow w0.heap.size e size (.slice (some ⟨w0.heap.size, 0, none⟩) 0 0) 0 [] := World.ownsRow_made w0 #[] 0 (Nat.le_refl _) (by unfold maxLen; omega) (by simp)
  have bel0 : Below w0.heap.size w0 (w0.alloc (.cells #[] e)) := (Below.refl _ w0).alloc (Nat.le_refl _) _
  rcases own.2 with ⟨rfl, rfl⟩ | ⟨g, cap, cur, rfl, hbg, hg, hnc, hcm, hcs, htake⟩
  · have hxs : xs = [] := List.eq_nil_of_length_eq_zero (by simpa using own.1)
    subst hxs
    exact wpList_append_own_none hgd s x t ho w0.heap.size e i size ht hi _ 0 [] hs own0 hx (h _ _ own0 bel0)
  · refine wpList_append_own _ hgd s x t ho w0.heap.size e i z size bytes ht hi hz hsi hbi hzs hsz _ 0 [] hs own0 ⟨g, 0, none⟩ n cap xs hx own.1 ?_ h1 (by unfold maxLen; omega) ?_ (by simp) ?_
    · exact (own.alloc _).cells (g := g) rfl
    · rw [Nat.zero_add]
      have : n * bytes ≤ 1000000 * 208 := Nat.mul_le_mul hn hby
      omega
    · intro v' w1 own1 gr _
      rw [Nat.zero_add, List.nil_append] at own1
      exact h v' w1 own1 (bel0.grown gr (by simp) (fun k hk => by simp [Value.ownBlock] at hk; omega))

/-- Copies of a Trie's three rows, apart from the Trie that now lies at h. -/
structure Cop (w : World) (C p : Nat) (h : Hd) (uN uW uB : Value) (T : TT) : Prop where
  oN : w.ownsRow C 69 26 uN T.wd.length (T.nx.map (.int .i64))
  oW : w.ownsRow C 4 1 uW T.wd.length (T.wd.map .bool)
  oB : w.ownsRow C 3 1 uB T.wd.length (T.bl.map (.int .i64))
  ap : ∀ k ∈ foot p h, uN.ownBlock ≠ some k ∧ uW.ownBlock ≠ some k ∧ uB.ownBlock ≠ some k
theorem own_apart {w w' : World} {p : Nat} {h h' : Hd} {C e sz n : Nat} {v : Value} {xs : List Value} (own : w.ownsRow C e sz v n xs) (hne : ∀ k ∈ foot p h, v.ownBlock ≠ some k) (s : Stp p h w h' w') : w'.ownsRow C e sz v n xs ∧ ∀ k ∈ foot p h', v.ownBlock ≠ some k := by
  refine ⟨ownsRow_of_block own (fun k hk => s.t.block k (own.lt k hk).2 (fun hf => hne k hf hk)), fun k hk hv => ?_⟩
  rcases s.f k hk with hf | hf
  · exact hne k hf hv
  · have := (own.lt k hv).2
    omega
theorem Cop.stp {w w' : World} {C p : Nat} {h h' : Hd} {uN uW uB : Value} {T : TT} (c : Cop w C p h uN uW uB T) (s : Stp p h w h' w') : Cop w' C p h' uN uW uB T := by
  obtain ⟨a1, a2⟩ := own_apart c.oN (fun k hk => (c.ap k hk).1) s
  obtain ⟨b1, b2⟩ := own_apart c.oW (fun k hk => (c.ap k hk).2.1) s
  obtain ⟨c1, c2⟩ := own_apart c.oB (fun k hk => (c.ap k hk).2.2) s
  exact ⟨a1, b1, c1, fun k hk => ⟨a2 k hk, b2 k hk, c2 k hk⟩⟩
theorem Cop.below {w w' : World} {C p : Nat} {h : Hd} {uN uW uB : Value} {T : TT} (c : Cop w C p h uN uW uB T) (b : Below w.heap.size w w') : Cop w' C p h uN uW uB T :=
  ⟨own_below c.oN b, own_below c.oW b, own_below c.oB b, c.ap⟩
theorem ints_one' (L : List Int) : ∀ u ∈ L.map (Value.int .i64), u.oneCell' = true := fun u hu => by obtain ⟨z, _, rfl⟩ := List.mem_map.1 hu; rfl
theorem bools_one' (L : List Bool) : ∀ u ∈ L.map Value.bool, u.oneCell' = true := fun u hu => by obtain ⟨z, _, rfl⟩ := List.mem_map.1 hu; rfl
end Go.Proofs.Ymbrbm
