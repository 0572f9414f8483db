/-
  Memory of a Trie: the struct's block, three owned rows; what a call may touch. Own text.
-/
import Derived.Test.YmbrbmProg
import Derived.WalkKit
import Derived.WalkSpells
import Derived.WalkLawsBesides
import Derived.Deep.AppendLies
import Derived.Deep.MidRow
namespace Go.Proofs.Ymbrbm
open Go.RowKit

theorem infoRow : (Ybmm.prog.info? 69).map (fun i => (i.zero, i.size, i.bytes)) = some (some (.agg (Array.replicate 26 (.int .i64 0))), 26, 208) := by kernel_rfl
theorem infoBool : (Ybmm.prog.info? 4).map (fun i => (i.zero, i.size, i.bytes)) = some (some (.bool false), 1, 1) := by kernel_rfl
theorem infoInt : (Ybmm.prog.info? 3).map (fun i => (i.zero, i.size, i.bytes)) = some (some (.int .i64 0), 1, 8) := by kernel_rfl

/-- Only the blocks of F may have turned; the rest of what was there is as it was. -/
structure Touch (F : List Nat) (w w' : World) : Prop where
  os : w'.os = w.os
  tape : w'.tape = w.tape
  output : w'.output = w.output
  size : w.heap.size ≤ w'.heap.size
  block : ∀ k, k < w.heap.size → k ∉ F → w'.heap[k]? = w.heap[k]?

theorem Touch.refl (F : List Nat) (w : World) : Touch F w w := ⟨rfl, rfl, rfl, Nat.le_refl _, fun _ _ _ => rfl⟩
theorem Touch.of_below {F : List Nat} {w w' : World} (h : Below w.heap.size w w') : Touch F w w' := ⟨h.os, h.tape, h.output, h.size, fun k hk _ => h.block k hk⟩
theorem Touch.mono {F G : List Nat} {w w' : World} (h : Touch F w w') (hs : ∀ k, k < w.heap.size → k ∈ F → k ∈ G) : Touch G w w' :=
  ⟨h.os, h.tape, h.output, h.size, fun k hk hn => h.block k hk (fun hf => hn (hs k hk hf))⟩
theorem Touch.trans {F G : List Nat} {a b c : World} (h : Touch F a b) (k : Touch G b c) (hs : ∀ x, x < a.heap.size → x ∈ G → x ∈ F) : Touch F a c :=
  ⟨k.os.trans h.os, k.tape.trans h.tape, k.output.trans h.output, Nat.le_trans h.size k.size, fun i hi hn => (k.block i (Nat.lt_of_lt_of_le hi h.size) (fun hg => hn (hs i hi hg))).trans (h.block i hi hn)⟩
theorem Touch.below {F : List Nat} {B : Nat} {w w' : World} (h : Touch F w w') (hF : ∀ k ∈ F, B ≤ k) (hB : B ≤ w.heap.size) : Below B w w' :=
  ⟨h.os, h.tape, h.output, h.size, fun k hk => h.block k (by omega) (fun hf => by have := hF k hf; omega)⟩
theorem Touch.drew {F : List Nat} {a w : World} (h : Touch F a w) : Touch F a w.drew := ⟨h.os, h.tape, h.output, h.size, h.block⟩
theorem Touch.alloc {F : List Nat} {a w : World} (h : Touch F a w) (o : Obj) : Touch F a (w.alloc o) :=
  ⟨h.os, h.tape, h.output, by have := h.size; simp; omega, fun k hk hn => by rw [Below.heap_alloc _ _ _ (Nat.lt_of_lt_of_le hk h.size)]; exact h.block k hk hn⟩
theorem Touch.setCell {F : List Nat} {a w : World} (h : Touch F a w) {p : Addr} (hp : p.block < a.heap.size → p.block ∈ F) (u : Value) : Touch F a (w.setCell p u) :=
  ⟨h.os, h.tape, h.output, by have := h.size; simpa [World.setCell] using this, fun k hk hn => by
    rw [Below.heap_setCell w p u k (fun e => by subst e; exact hn (hp hk))]; exact h.block k hk hn⟩
theorem Touch.grown {F : List Nat} {a w w' : World} {row : Option Nat} (h : Touch F a w) (hg : w.grownBy w' row) (hr : ∀ k, row = some k → k < a.heap.size → k ∈ F) : Touch F a w' :=
  ⟨hg.os.trans h.os, hg.tape.trans h.tape, hg.output.trans h.output, Nat.le_trans h.size hg.size, fun k hk hn =>
    (hg.block k (Nat.lt_of_lt_of_le hk h.size) (fun e => hn (hr k e.symm hk))).trans (h.block k hk hn)⟩
theorem Touch.cell {F : List Nat} {w w' : World} (h : Touch F w w') {p : Addr} (hl : p.block < w.heap.size) (hp : p.block ∉ F) : w'.cell? p = w.cell? p := World.cell?_of_block (w := w) (h.block p.block hl hp)

theorem heap_setCell_same {w : World} {b : Nat} {cs : Array Value} {t : TypeId} {fr : Nat × Nat} (h : w.heap[b]? = some (.cells cs t fr)) (o : Nat) (v : Value) :
    (w.setCell ⟨b, o, none⟩ v).heap[b]? = some (.cells (cs.setIfInBounds o v) t fr) := by
  simp only [World.setCell, Array.getElem?_modify]
  simp [h]

theorem lt_of_heap {w : World} {b : Nat} {o : Obj} (h : w.heap[b]? = some o) : b < w.heap.size := (Array.getElem?_eq_some_iff.1 h).1

theorem ownsRow_of_block {w w' : World} {B : Nat} {e : TypeId} {size : Nat} {v : Value} {n : Nat} {xs : List Value} (h : w.ownsRow B e size v n xs)
    (hb : ∀ k, v.ownBlock = some k → w'.heap[k]? = w.heap[k]?) : w'.ownsRow B e size v n xs := by
  refine ⟨h.1, ?_⟩
  rcases h.2 with hn | ⟨g, cap, cur, rfl, hbg, hgg, rest⟩
  · exact .inl hn
  · exact .inr ⟨g, cap, cur, rfl, hbg, by rw [hb g rfl]; exact hgg, rest⟩
theorem ownsRow_type {w : World} {B : Nat} {e : TypeId} {size : Nat} {v : Value} {n : Nat} {xs : List Value} (h : w.ownsRow B e size v n xs) {k : Nat} (hk : v.ownBlock = some k) :
    B ≤ k ∧ ∃ cs, w.heap[k]? = some (.cells cs e (0, 0)) := by
  rcases h.2 with ⟨rfl, _⟩ | ⟨g, cap, cur, rfl, hbg, hgg, rest⟩
  · simp [Value.ownBlock] at hk
  · simp [Value.ownBlock] at hk; subst hk; exact ⟨hbg, cur, hgg⟩
theorem ownsRow_slice {w : World} {B : Nat} {e : TypeId} {size : Nat} {v : Value} {n : Nat} {xs : List Value} (h : w.ownsRow B e size v n xs) : ∃ a c, v = .slice a n c := by
  rcases h.2 with ⟨rfl, rfl⟩ | ⟨g, cap, cur, rfl, _⟩
  · exact ⟨_, _, rfl⟩
  · exact ⟨_, _, rfl⟩

/-- The Trie as plain data: the links row by row (26 a node), the marks, the counts. -/
structure TT where
  nx : List Int
  wd : List Bool
  bl : List Int

/-- The three slice values of the struct. -/
structure Hd where
  N : Value
  W : Value
  B : Value

/-- The struct at block p: its three slices and the cells that they own. -/
structure TA (w : World) (B p : Nat) (h : Hd) (nN nW nB : Nat) (xN xW xB : List Value) : Prop where
  base : B ≤ p
  st : w.heap[p]? = some (.cells #[h.N, h.W, h.B] 29 (0, 0))
  rN : w.ownsRow B 69 26 h.N nN xN
  rW : w.ownsRow B 4 1 h.W nW xW
  rB : w.ownsRow B 3 1 h.B nB xB
/-- The Trie at block p. -/
abbrev TrieAt (w : World) (B p : Nat) (h : Hd) (T : TT) : Prop := TA w B p h T.wd.length T.wd.length T.wd.length (T.nx.map (.int .i64)) (T.wd.map .bool) (T.bl.map (.int .i64))

/-- The blocks that the Trie lies in. -/
def foot (p : Nat) (h : Hd) : List Nat := p :: (h.N.ownBlock.toList ++ h.W.ownBlock.toList ++ h.B.ownBlock.toList)

theorem mem_foot {k p : Nat} {h : Hd} : k ∈ foot p h ↔ k = p ∨ h.N.ownBlock = some k ∨ h.W.ownBlock = some k ∨ h.B.ownBlock = some k := by
  simp [foot, Option.mem_toList]

section
variable {w w' : World} {B p : Nat} {h h' : Hd} {T : TT} {nN nW nB : Nat} {xN xW xB : List Value}
theorem nxlen (t : TrieAt w B p h T) : T.nx.length = T.wd.length * 26 := by have := t.rN.1; simpa using this
theorem bllen (t : TrieAt w B p h T) : T.bl.length = T.wd.length := by have := t.rB.1; simpa using this
theorem TA.plt (t : TA w B p h nN nW nB xN xW xB) : p < w.heap.size := lt_of_heap t.st

theorem TA.foot_lt (t : TA w B p h nN nW nB xN xW xB) : ∀ k ∈ foot p h, B ≤ k ∧ k < w.heap.size := by
  intro k hk
  rcases mem_foot.1 hk with rfl | hk | hk | hk
  · exact ⟨t.base, lt_of_heap t.st⟩
  · exact t.rN.lt k hk
  · exact t.rW.lt k hk
  · exact t.rB.lt k hk

/-- A block of another element type is none of the Trie's. -/
theorem TA.not_foot (t : TA w B p h nN nW nB xN xW xB) {k : Nat} {cs : Array Value} {ty : TypeId} {fr : Nat × Nat}
    (hk : w.heap[k]? = some (.cells cs ty fr)) (h1 : ty ≠ 29) (h2 : ty ≠ 69) (h3 : ty ≠ 4) (h4 : ty ≠ 3) : k ∉ foot p h := by
  intro hm
  rcases mem_foot.1 hm with rfl | hm | hm | hm
  · rw [t.st] at hk; simp at hk; exact h1 hk.2.1.symm
  · obtain ⟨_, cs', hc⟩ := ownsRow_type t.rN hm; rw [hc] at hk; simp at hk; exact h2 hk.2.1.symm
  · obtain ⟨_, cs', hc⟩ := ownsRow_type t.rW hm; rw [hc] at hk; simp at hk; exact h3 hk.2.1.symm
  · obtain ⟨_, cs', hc⟩ := ownsRow_type t.rB hm; rw [hc] at hk; simp at hk; exact h4 hk.2.1.symm

theorem TA.kept (t : TA w B p h nN nW nB xN xW xB) (hk : ∀ k ∈ foot p h, w'.heap[k]? = w.heap[k]?) : TA w' B p h nN nW nB xN xW xB :=
  ⟨t.base, by rw [hk p (mem_foot.2 (.inl rfl))]; exact t.st, ownsRow_of_block t.rN (fun k e => hk k (mem_foot.2 (.inr (.inl e)))), ownsRow_of_block t.rW (fun k e => hk k (mem_foot.2 (.inr (.inr (.inl e))))), ownsRow_of_block t.rB (fun k e => hk k (mem_foot.2 (.inr (.inr (.inr e)))))⟩

theorem TA.below (t : TA w B p h nN nW nB xN xW xB) (hb : Below w.heap.size w w') : TA w' B p h nN nW nB xN xW xB :=
  t.kept (fun k hk => hb.block k (t.foot_lt k hk).2)
theorem TA.touch (t : TA w B p h nN nW nB xN xW xB) {F : List Nat} (hb : Touch F w w') (hF : ∀ k ∈ foot p h, k ∉ F) : TA w' B p h nN nW nB xN xW xB :=
  t.kept (fun k hk => hb.block k (t.foot_lt k hk).2 (hF k hk))

/-- The three blocks of the rows are none of one another, nor the struct's. -/
theorem TA.apart (t : TA w B p h nN nW nB xN xW xB) :
    h.N.ownBlock ≠ some p ∧ h.W.ownBlock ≠ some p ∧ h.B.ownBlock ≠ some p ∧ (∀ k, h.N.ownBlock = some k → h.W.ownBlock ≠ some k ∧ h.B.ownBlock ≠ some k) ∧ (∀ k, h.W.ownBlock = some k → h.B.ownBlock ≠ some k) := by
  refine ⟨fun e => ?_, fun e => ?_, fun e => ?_, fun k e => ⟨fun e' => ?_, fun e' => ?_⟩, fun k e e' => ?_⟩
  · obtain ⟨_, cs, hc⟩ := ownsRow_type t.rN e; rw [t.st] at hc; simp at hc
  · obtain ⟨_, cs, hc⟩ := ownsRow_type t.rW e; rw [t.st] at hc; simp at hc
  · obtain ⟨_, cs, hc⟩ := ownsRow_type t.rB e; rw [t.st] at hc; simp at hc
  · obtain ⟨_, cs, hc⟩ := ownsRow_type t.rN e; obtain ⟨_, cs', hc'⟩ := ownsRow_type t.rW e'; rw [hc] at hc'; simp at hc'
  · obtain ⟨_, cs, hc⟩ := ownsRow_type t.rN e; obtain ⟨_, cs', hc'⟩ := ownsRow_type t.rB e'; rw [hc] at hc'; simp at hc'
  · obtain ⟨_, cs, hc⟩ := ownsRow_type t.rW e; obtain ⟨_, cs', hc'⟩ := ownsRow_type t.rB e'; rw [hc] at hc'; simp at hc'
end

/-- What a method that writes the Trie does to memory: its own blocks alone have turned; it lies in those or in new ones. -/
structure Stp (p : Nat) (h : Hd) (w : World) (h' : Hd) (w' : World) : Prop where
  t : Touch (foot p h) w w'
  f : ∀ k ∈ foot p h', k ∈ foot p h ∨ w.heap.size ≤ k
theorem Stp.refl (p : Nat) (h : Hd) (w : World) : Stp p h w h w := ⟨Touch.refl _ _, fun _ hk => .inl hk⟩
theorem Stp.trans {p : Nat} {a b c : Hd} {u v w : World} (x : Stp p a u b v) (y : Stp p b v c w) : Stp p a u c w :=
  ⟨x.t.trans y.t (fun k hk hb => by rcases x.f k hb with h | h; exact h; omega), fun k hk => by
    rcases y.f k hk with h | h
    · exact x.f k h
    · exact .inr (Nat.le_trans x.t.size h)⟩


/-- What lies elsewhere stays owned behind an append to another row (a new block ahead of it) and a store into the struct. -/
theorem own_over {w w1 : World} {o : Obj} {row : Option Nat} {B : Nat} {e : TypeId} {size : Nat} {v : Value} {n : Nat} {xs : List Value} (hr : w.ownsRow B e size v n xs) (gr : (w.alloc o).grownBy w1 row)
    (hne : ∀ k, v.ownBlock = some k → row ≠ some k) (p : Nat) (hp : v.ownBlock ≠ some p) (off : Nat) (u : Value) : (w1.setCell ⟨p, off, none⟩ u).ownsRow B e size v n xs := by
  refine ownsRow_of_block hr (fun k hk => ?_)
  have hl := (hr.lt k hk).2
  rw [Below.heap_setCell _ _ _ _ (fun e => hp (by rw [hk]; exact congrArg some e)), gr.block k (by simp; omega) (fun e => hne k hk e.symm), Below.heap_alloc _ _ _ hl]
theorem own_self {w1 : World} {B : Nat} {e : TypeId} {size : Nat} {v : Value} {n : Nat} {xs : List Value} (hr : w1.ownsRow B e size v n xs) (p : Nat) (hp : v.ownBlock ≠ some p) (off : Nat) (u : Value) : (w1.setCell ⟨p, off, none⟩ u).ownsRow B e size v n xs :=
  ownsRow_of_block hr (fun k hk => Below.heap_setCell _ _ _ _ (fun e => hp (by rw [hk]; exact congrArg some e)))
theorem st_over {w w1 : World} {o : Obj} {row : Option Nat} {p : Nat} {cs : Array Value} {t : TypeId} (st : w.heap[p]? = some (.cells cs t (0, 0))) (gr : (w.alloc o).grownBy w1 row) (hne : row ≠ some p) : w1.heap[p]? = some (.cells cs t (0, 0)) := by
  rw [gr.block p (by have := lt_of_heap st; simp; omega) (Ne.symm hne), Below.heap_alloc _ _ _ (lt_of_heap st)]; exact st
theorem cell_st {w : World} {p : Nat} {cs : Array Value} {t : TypeId} (st : w.heap[p]? = some (.cells cs t (0, 0))) (i : Nat) (v : Value) (hv : cs[i]? = some v) : w.cell? ⟨p, i, none⟩ = some v := by simp [World.cell?, st, hv]
theorem frozen_st {w : World} {p : Nat} {cs : Array Value} {t : TypeId} (st : w.heap[p]? = some (.cells cs t (0, 0))) (i : Nat) : w.frozen? ⟨p, i, none⟩ = false := by simp [World.frozen?, st]

/-- Behind the append (the one new block ahead of it): the struct as it was. -/
structure Mid (p : Nat) (h : Hd) (w1 : World) : Prop where
  c0 : w1.cell? ⟨p, 0, none⟩ = some h.N
  c1 : w1.cell? ⟨p, 1, none⟩ = some h.W
  c2 : w1.cell? ⟨p, 2, none⟩ = some h.B
  f0 : w1.frozen? ⟨p, 0, none⟩ = false
  f1 : w1.frozen? ⟨p, 1, none⟩ = false
  f2 : w1.frozen? ⟨p, 2, none⟩ = false
theorem mid_of {w1 : World} {p : Nat} {h : Hd} (st : w1.heap[p]? = some (.cells #[h.N, h.W, h.B] 29 (0, 0))) : Mid p h w1 :=
  ⟨cell_st st 0 _ rfl, cell_st st 1 _ rfl, cell_st st 2 _ rfl, frozen_st st 0, frozen_st st 1, frozen_st st 2⟩
section
variable {w w1 : World} {B p : Nat} {h : Hd} {nN nW nB : Nat} {xN xW xB : List Value} {o : Obj} {g n' c : Nat} {xs : List Value}
theorem TA.mid (t : TA w B p h nN nW nB xN xW xB) : Mid p h w := mid_of t.st
theorem TA.midN (t : TA w B p h nN nW nB xN xW xB) (gr : (w.alloc o).grownBy w1 h.N.ownBlock) : Mid p h w1 := mid_of (st_over t.st gr t.apart.1)
theorem TA.midW (t : TA w B p h nN nW nB xN xW xB) (gr : (w.alloc o).grownBy w1 h.W.ownBlock) : Mid p h w1 := mid_of (st_over t.st gr t.apart.2.1)
theorem TA.midB (t : TA w B p h nN nW nB xN xW xB) (gr : (w.alloc o).grownBy w1 h.B.ownBlock) : Mid p h w1 := mid_of (st_over t.st gr t.apart.2.2.1)

theorem TA.stepN (t : TA w B p h nN nW nB xN xW xB) (gr : (w.alloc o).grownBy w1 h.N.ownBlock) (own : w1.ownsRow B 69 26 (.slice (some ⟨g, 0, none⟩) n' c) n' xs) (hat : h.N.ownBlock = some g ∨ g = w.heap.size + 1) :
    TA (w1.setCell ⟨p, 0, none⟩ (.slice (some ⟨g, 0, none⟩) n' c)) B p ⟨.slice (some ⟨g, 0, none⟩) n' c, h.W, h.B⟩ n' nW nB xs xW xB ∧ Stp p h w ⟨.slice (some ⟨g, 0, none⟩) n' c, h.W, h.B⟩ (w1.setCell ⟨p, 0, none⟩ (.slice (some ⟨g, 0, none⟩) n' c)) := by
  obtain ⟨a1, a2, a3, a4, a5⟩ := t.apart
  have hpl := t.plt
  have hgp : (Value.slice (some ⟨g, 0, none⟩) n' c).ownBlock ≠ some p := by
    intro e; simp [Value.ownBlock] at e; subst e
    rcases hat with e | e
    · exact a1 e
    · omega
  refine ⟨⟨t.base, by rw [heap_setCell_same (st_over t.st gr a1)]; simp, own_self own p hgp _ _, own_over t.rW gr (fun k hk e => (a4 k e).1 hk) p a2 _ _, own_over t.rB gr (fun k hk e => (a4 k e).2 hk) p a3 _ _⟩, ⟨?_, ?_⟩⟩
  · exact Touch.setCell (p := ⟨p, 0, none⟩) (((Touch.refl (foot p h) w).alloc o).grown gr (fun k e _ => mem_foot.2 (.inr (.inl e)))) (fun _ => mem_foot.2 (.inl rfl)) _
  · intro k hk
    rcases mem_foot.1 hk with rfl | hk | hk | hk
    · exact .inl (mem_foot.2 (.inl rfl))
    · simp [Value.ownBlock] at hk; subst hk
      rcases hat with e | e
      · exact .inl (mem_foot.2 (.inr (.inl e)))
      · right; omega
    · exact .inl (mem_foot.2 (.inr (.inr (.inl hk))))
    · exact .inl (mem_foot.2 (.inr (.inr (.inr hk))))
theorem TA.stepW (t : TA w B p h nN nW nB xN xW xB) (gr : (w.alloc o).grownBy w1 h.W.ownBlock) (own : w1.ownsRow B 4 1 (.slice (some ⟨g, 0, none⟩) n' c) n' xs) (hat : h.W.ownBlock = some g ∨ g = w.heap.size + 1) :
    TA (w1.setCell ⟨p, 1, none⟩ (.slice (some ⟨g, 0, none⟩) n' c)) B p ⟨h.N, .slice (some ⟨g, 0, none⟩) n' c, h.B⟩ nN n' nB xN xs xB ∧ Stp p h w ⟨h.N, .slice (some ⟨g, 0, none⟩) n' c, h.B⟩ (w1.setCell ⟨p, 1, none⟩ (.slice (some ⟨g, 0, none⟩) n' c)) := by
  obtain ⟨a1, a2, a3, a4, a5⟩ := t.apart
  have hpl := t.plt
  have hgp : (Value.slice (some ⟨g, 0, none⟩) n' c).ownBlock ≠ some p := by
    intro e; simp [Value.ownBlock] at e; subst e
    rcases hat with e | e
    · exact a2 e
    · omega
  refine ⟨⟨t.base, by rw [heap_setCell_same (st_over t.st gr a2)]; simp, own_over t.rN gr (fun k hk e => (a4 k hk).1 e) p a1 _ _, own_self own p hgp _ _, own_over t.rB gr (fun k hk e => a5 k e hk) p a3 _ _⟩, ⟨?_, ?_⟩⟩
  · exact Touch.setCell (p := ⟨p, 1, none⟩) (((Touch.refl (foot p h) w).alloc o).grown gr (fun k e _ => mem_foot.2 (.inr (.inr (.inl e))))) (fun _ => mem_foot.2 (.inl rfl)) _
  · intro k hk
    rcases mem_foot.1 hk with rfl | hk | hk | hk
    · exact .inl (mem_foot.2 (.inl rfl))
    · exact .inl (mem_foot.2 (.inr (.inl hk)))
    · simp [Value.ownBlock] at hk; subst hk
      rcases hat with e | e
      · exact .inl (mem_foot.2 (.inr (.inr (.inl e))))
      · right; omega
    · exact .inl (mem_foot.2 (.inr (.inr (.inr hk))))
theorem TA.stepB (t : TA w B p h nN nW nB xN xW xB) (gr : (w.alloc o).grownBy w1 h.B.ownBlock) (own : w1.ownsRow B 3 1 (.slice (some ⟨g, 0, none⟩) n' c) n' xs) (hat : h.B.ownBlock = some g ∨ g = w.heap.size + 1) :
    TA (w1.setCell ⟨p, 2, none⟩ (.slice (some ⟨g, 0, none⟩) n' c)) B p ⟨h.N, h.W, .slice (some ⟨g, 0, none⟩) n' c⟩ nN nW n' xN xW xs ∧ Stp p h w ⟨h.N, h.W, .slice (some ⟨g, 0, none⟩) n' c⟩ (w1.setCell ⟨p, 2, none⟩ (.slice (some ⟨g, 0, none⟩) n' c)) := by
  obtain ⟨a1, a2, a3, a4, a5⟩ := t.apart
  have hpl := t.plt
  have hgp : (Value.slice (some ⟨g, 0, none⟩) n' c).ownBlock ≠ some p := by
    intro e; simp [Value.ownBlock] at e; subst e
    rcases hat with e | e
    · exact a3 e
    · omega
  refine ⟨⟨t.base, by rw [heap_setCell_same (st_over t.st gr a3)]; simp, own_over t.rN gr (fun k hk e => (a4 k hk).2 e) p a1 _ _, own_over t.rW gr (fun k hk e => a5 k hk e) p a2 _ _, own_self own p hgp _ _⟩, ⟨?_, ?_⟩⟩
  · exact Touch.setCell (p := ⟨p, 2, none⟩) (((Touch.refl (foot p h) w).alloc o).grown gr (fun k e _ => mem_foot.2 (.inr (.inr (.inr e))))) (fun _ => mem_foot.2 (.inl rfl)) _
  · intro k hk
    rcases mem_foot.1 hk with rfl | hk | hk | hk
    · exact .inl (mem_foot.2 (.inl rfl))
    · exact .inl (mem_foot.2 (.inr (.inl hk)))
    · exact .inl (mem_foot.2 (.inr (.inr (.inl hk))))
    · simp [Value.ownBlock] at hk; subst hk
      rcases hat with e | e
      · exact .inl (mem_foot.2 (.inr (.inr (.inr e))))
      · right; omega
end

def zrow : List Value := List.replicate 26 (.int .i64 0)
theorem zrow_news (w : World) (H : Nat) (hH : w.heap.size = H) : ∀ j u, zrow[j]? = some u → (w.alloc (.cells #[.int .i64 0, .int .i64 0, .int .i64 0, .int .i64 0, .int .i64 0, .int .i64 0, .int .i64 0, .int .i64 0, .int .i64 0, .int .i64 0, .int .i64 0, .int .i64 0, .int .i64 0, .int .i64 0, .int .i64 0, .int .i64 0, .int .i64 0, .int .i64 0, .int .i64 0, .int .i64 0, .int .i64 0, .int .i64 0, .int .i64 0, .int .i64 0, .int .i64 0, .int .i64 0] 69)).cell? ((⟨H, 0, none⟩ : Addr).add j) = some u := by
  subst hH; exact fun j u h => World.news_of_block (heap_alloc_new w _) j u h
theorem news1 (W : World) (v : Value) (t : TypeId) (H : Nat) (h : W.heap.size = H) : ∀ j u, [v][j]? = some u → (W.alloc (.cells #[v] t)).cell? ((⟨H, 0, none⟩ : Addr).add j) = some u := by
  subst h; exact cell_one_new _ _ _
theorem one1 {v : Value} (h : v.oneCell' = true) : ∀ u ∈ [v], u.oneCell' = true := fun u hu => by rw [List.mem_singleton.1 hu]; exact h
theorem zrow_one : ∀ u ∈ zrow, u.oneCell' = true := fun u h => by rw [List.eq_of_mem_replicate h]; rfl
end Go.Proofs.Ymbrbm
