/-
  More on a Trie's memory: reads and stores of single cells of the three rows. Own text.
-/
import Derived.Test.YmbrbmMem
namespace Go.Proofs.Ymbrbm
open Go.RowKit

theorem TA.drew {w : World} {B p : Nat} {h : Hd} {nN nW nB : Nat} {xN xW xB : List Value} (t : TA w B p h nN nW nB xN xW xB) : TA w.drew B p h nN nW nB xN xW xB := ⟨t.base, t.st, t.rN, t.rW, t.rB⟩
theorem TA.drewN {w : World} {B p : Nat} {h : Hd} {nN nW nB : Nat} {xN xW xB : List Value} (t : TA w B p h nN nW nB xN xW xB) (m : Nat) : TA (w.drewN m) B p h nN nW nB xN xW xB := ⟨t.base, t.st, t.rN, t.rW, t.rB⟩
theorem TA.alloc {w : World} {B p : Nat} {h : Hd} {nN nW nB : Nat} {xN xW xB : List Value} (t : TA w B p h nN nW nB xN xW xB) (o : Obj) : TA (w.alloc o) B p h nN nW nB xN xW xB :=
  t.kept (fun k hk => Below.heap_alloc _ _ _ (t.foot_lt k hk).2)
theorem Below.drewN {B : Nat} {a w : World} (h : Below B a w) (m : Nat) : Below B a (w.drewN m) := ⟨h.os, h.tape, h.output, h.size, h.block⟩

theorem own_range {w : World} {B g n c sz : Nat} {e : TypeId} {xs : List Value} (h : w.ownsRow B e sz (.slice (some ⟨g, 0, none⟩) n c) n xs) (o : Nat) (M : List Value) (hM : ∀ i v, M[i]? = some v → xs[o + i]? = some v) : w.rangeAt g o M := by
  intro i v hv
  have := h.cells (g := g) rfl (o + i) v (hM i v hv)
  rwa [Addr.add_mid, Nat.zero_add] at this
theorem own_cell {w : World} {B g n c sz : Nat} {e : TypeId} {xs : List Value} (h : w.ownsRow B e sz (.slice (some ⟨g, 0, none⟩) n c) n xs) (i : Nat) (v : Value) (hv : xs[i]? = some v) : w.cell? ⟨g, i, none⟩ = some v := by
  have := h.cells (g := g) rfl i v hv
  rwa [Addr.add_mid, Nat.zero_add] at this
/-- A row that lies in another block than the one stored into. -/
theorem own_store {w : World} {B e sz n : Nat} {v : Value} {xs : List Value} (h : w.ownsRow B e sz v n xs) (g : Nat) (hg : v.ownBlock ≠ some g) (j : Nat) (u : Value) : (w.setCell ⟨g, j, none⟩ u).ownsRow B e sz v n xs :=
  ownsRow_of_block h (fun k hk => Below.heap_setCell _ _ _ _ (fun e => hg (by rw [hk]; exact congrArg some e)))

section
variable {w : World} {B p g n c : Nat} {vN vW vB : Value} {nN nW nB : Nat} {xN xW xB : List Value}
theorem TA.setN (t : TA w B p ⟨.slice (some ⟨g, 0, none⟩) n c, vW, vB⟩ n nW nB xN xW xB) (j : Nat) (u : Value) :
    TA (w.setCell ⟨g, j, none⟩ u) B p ⟨.slice (some ⟨g, 0, none⟩) n c, vW, vB⟩ n nW nB (xN.set j u) xW xB ∧ Stp p ⟨.slice (some ⟨g, 0, none⟩) n c, vW, vB⟩ w ⟨.slice (some ⟨g, 0, none⟩) n c, vW, vB⟩ (w.setCell ⟨g, j, none⟩ u) := by
  obtain ⟨a1, a2, a3, a4, a5⟩ := t.apart
  have hgp : p ≠ g := fun e => a1 (by subst e; rfl)
  refine ⟨⟨t.base, by rw [Below.heap_setCell _ _ _ _ hgp]; exact t.st, (t.rN.stored j u).1, own_store t.rW g (a4 g rfl).1 j u, own_store t.rB g (a4 g rfl).2 j u⟩, ⟨?_, fun k hk => .inl hk⟩⟩
  exact Touch.setCell (p := ⟨g, j, none⟩) (Touch.refl _ _) (fun _ => mem_foot.2 (.inr (.inl rfl))) _
theorem TA.setW (t : TA w B p ⟨vN, .slice (some ⟨g, 0, none⟩) n c, vB⟩ nN n nB xN xW xB) (j : Nat) (u : Value) :
    TA (w.setCell ⟨g, j, none⟩ u) B p ⟨vN, .slice (some ⟨g, 0, none⟩) n c, vB⟩ nN n nB xN (xW.set j u) xB ∧ Stp p ⟨vN, .slice (some ⟨g, 0, none⟩) n c, vB⟩ w ⟨vN, .slice (some ⟨g, 0, none⟩) n c, vB⟩ (w.setCell ⟨g, j, none⟩ u) := by
  obtain ⟨a1, a2, a3, a4, a5⟩ := t.apart
  have hgp : p ≠ g := fun e => a2 (by subst e; rfl)
  refine ⟨⟨t.base, by rw [Below.heap_setCell _ _ _ _ hgp]; exact t.st, own_store t.rN g (fun e => (a4 g e).1 rfl) j u, (t.rW.stored j u).1, own_store t.rB g (a5 g rfl) j u⟩, ⟨?_, fun k hk => .inl hk⟩⟩
  exact Touch.setCell (p := ⟨g, j, none⟩) (Touch.refl _ _) (fun _ => mem_foot.2 (.inr (.inr (.inl rfl)))) _
theorem TA.setB (t : TA w B p ⟨vN, vW, .slice (some ⟨g, 0, none⟩) n c⟩ nN nW n xN xW xB) (j : Nat) (u : Value) :
    TA (w.setCell ⟨g, j, none⟩ u) B p ⟨vN, vW, .slice (some ⟨g, 0, none⟩) n c⟩ nN nW n xN xW (xB.set j u) ∧ Stp p ⟨vN, vW, .slice (some ⟨g, 0, none⟩) n c⟩ w ⟨vN, vW, .slice (some ⟨g, 0, none⟩) n c⟩ (w.setCell ⟨g, j, none⟩ u) := by
  obtain ⟨a1, a2, a3, a4, a5⟩ := t.apart
  have hgp : p ≠ g := fun e => a3 (by subst e; rfl)
  refine ⟨⟨t.base, by rw [Below.heap_setCell _ _ _ _ hgp]; exact t.st, own_store t.rN g (fun e => (a4 g e).2 rfl) j u, own_store t.rW g (fun e => a5 g e rfl) j u, (t.rB.stored j u).1⟩, ⟨?_, fun k hk => .inl hk⟩⟩
  exact Touch.setCell (p := ⟨g, j, none⟩) (Touch.refl _ _) (fun _ => mem_foot.2 (.inr (.inr (.inr rfl)))) _
end

set_option maxRecDepth 100000 in
set_option maxHeartbeats 400000 in
theorem weight_zero (p gN nN cN : Nat) (k l : Int) (w : World) (h0 : 0 ≤ k) (hk : k < nN) (l0 : 0 ≤ l) (hl : l < 26)
    (c0 : w.cell? ⟨p, 0, none⟩ = some (.slice (some ⟨gN, 0, none⟩) nN cN)) (hc : w.cell? ⟨gN, k.toNat * 26 + l.toNat, none⟩ = some (.int .i64 0)) :
    Calls Ybmm.prog 46 #[.pointer (some ⟨p, 0, none⟩), .int .i64 k, .int .i64 l] w fun e w' => e = .returned (.int .i64 0) ∧ w' = w := by
  obtain ⟨k, rfl⟩ := Int.eq_ofNat_of_zero_le h0
  obtain ⟨l, rfl⟩ := Int.eq_ofNat_of_zero_le l0
  simp only [Int.toNat_natCast] at hc
  go_enter Ybmm.func46, Ybmm.ntmps46
  go_wp2
  go_ret
  exact ⟨rfl, rfl⟩

set_option maxRecDepth 100000 in
set_option maxHeartbeats 400000 in
theorem weight_some (p gN nN cN gB nB cB m : Nat) (k l v : Int) (w : World) (h0 : 0 ≤ k) (hk : k < nN) (l0 : 0 ≤ l) (hl : l < 26) (hm0 : 0 < m) (hm : m < nB)
    (c0 : w.cell? ⟨p, 0, none⟩ = some (.slice (some ⟨gN, 0, none⟩) nN cN)) (c2 : w.cell? ⟨p, 2, none⟩ = some (.slice (some ⟨gB, 0, none⟩) nB cB))
    (hc : w.cell? ⟨gN, k.toNat * 26 + l.toNat, none⟩ = some (.int .i64 m)) (hb : w.cell? ⟨gB, m, none⟩ = some (.int .i64 v)) :
    Calls Ybmm.prog 46 #[.pointer (some ⟨p, 0, none⟩), .int .i64 k, .int .i64 l] w fun e w' => e = .returned (.int .i64 v) ∧ w' = w := by
  obtain ⟨k, rfl⟩ := Int.eq_ofNat_of_zero_le h0
  obtain ⟨l, rfl⟩ := Int.eq_ofNat_of_zero_le l0
  simp only [Int.toNat_natCast] at hc
  have hz : ((m : Int) == 0) = false := beq_eq_false_iff_ne.2 (by omega)
  go_enter Ybmm.func46, Ybmm.ntmps46
  go_wp2
  go_ret
  exact ⟨rfl, rfl⟩
end Go.Proofs.Ymbrbm
