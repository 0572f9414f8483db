/-
  Stores into a Trie, as plain data. Own text.
-/
import Derived.Test.YmbrbmCollect
namespace Go.Proofs.Ymbrbm
open Go.RowKit
section
variable {w : World} {B p gN cN gW cW gB cB n : Nat} {T : TT}
theorem trie_setN (t : TrieAt w B p ⟨.slice (some ⟨gN, 0, none⟩) T.wd.length cN, .slice (some ⟨gW, 0, none⟩) T.wd.length cW, .slice (some ⟨gB, 0, none⟩) T.wd.length cB⟩ T) (j : Nat) (m : Int) :
    TrieAt (w.setCell ⟨gN, j, none⟩ (.int .i64 m)) B p ⟨.slice (some ⟨gN, 0, none⟩) T.wd.length cN, .slice (some ⟨gW, 0, none⟩) T.wd.length cW, .slice (some ⟨gB, 0, none⟩) T.wd.length cB⟩ ⟨T.nx.set j m, T.wd, T.bl⟩ ∧
    Stp p ⟨.slice (some ⟨gN, 0, none⟩) T.wd.length cN, .slice (some ⟨gW, 0, none⟩) T.wd.length cW, .slice (some ⟨gB, 0, none⟩) T.wd.length cB⟩ w ⟨.slice (some ⟨gN, 0, none⟩) T.wd.length cN, .slice (some ⟨gW, 0, none⟩) T.wd.length cW, .slice (some ⟨gB, 0, none⟩) T.wd.length cB⟩ (w.setCell ⟨gN, j, none⟩ (.int .i64 m)) := by
  obtain ⟨h1, h2⟩ := t.setN j (.int .i64 m)
  refine ⟨?_, h2⟩
  rw [← List.map_set] at h1
  exact h1
theorem trie_setW (t : TrieAt w B p ⟨.slice (some ⟨gN, 0, none⟩) T.wd.length cN, .slice (some ⟨gW, 0, none⟩) T.wd.length cW, .slice (some ⟨gB, 0, none⟩) T.wd.length cB⟩ T) (j : Nat) (b : Bool) :
    TrieAt (w.setCell ⟨gW, j, none⟩ (.bool b)) B p ⟨.slice (some ⟨gN, 0, none⟩) T.wd.length cN, .slice (some ⟨gW, 0, none⟩) T.wd.length cW, .slice (some ⟨gB, 0, none⟩) T.wd.length cB⟩ ⟨T.nx, T.wd.set j b, T.bl⟩ ∧
    Stp p ⟨.slice (some ⟨gN, 0, none⟩) T.wd.length cN, .slice (some ⟨gW, 0, none⟩) T.wd.length cW, .slice (some ⟨gB, 0, none⟩) T.wd.length cB⟩ w ⟨.slice (some ⟨gN, 0, none⟩) T.wd.length cN, .slice (some ⟨gW, 0, none⟩) T.wd.length cW, .slice (some ⟨gB, 0, none⟩) T.wd.length cB⟩ (w.setCell ⟨gW, j, none⟩ (.bool b)) := by
  obtain ⟨h1, h2⟩ := t.setW j (.bool b)
  refine ⟨?_, h2⟩
  rw [← List.map_set] at h1
  simpa [TrieAt] using h1
theorem trie_setB (t : TrieAt w B p ⟨.slice (some ⟨gN, 0, none⟩) T.wd.length cN, .slice (some ⟨gW, 0, none⟩) T.wd.length cW, .slice (some ⟨gB, 0, none⟩) T.wd.length cB⟩ T) (j : Nat) (m : Int) :
    TrieAt (w.setCell ⟨gB, j, none⟩ (.int .i64 m)) B p ⟨.slice (some ⟨gN, 0, none⟩) T.wd.length cN, .slice (some ⟨gW, 0, none⟩) T.wd.length cW, .slice (some ⟨gB, 0, none⟩) T.wd.length cB⟩ ⟨T.nx, T.wd, T.bl.set j m⟩ ∧
    Stp p ⟨.slice (some ⟨gN, 0, none⟩) T.wd.length cN, .slice (some ⟨gW, 0, none⟩) T.wd.length cW, .slice (some ⟨gB, 0, none⟩) T.wd.length cB⟩ w ⟨.slice (some ⟨gN, 0, none⟩) T.wd.length cN, .slice (some ⟨gW, 0, none⟩) T.wd.length cW, .slice (some ⟨gB, 0, none⟩) T.wd.length cB⟩ (w.setCell ⟨gB, j, none⟩ (.int .i64 m)) := by
  obtain ⟨h1, h2⟩ := t.setB j (.int .i64 m)
  refine ⟨?_, h2⟩
  rw [← List.map_set] at h1
  exact h1
/-- The handles, at a length that is known otherwise. -/
def hd (gN cN gW cW gB cB n : Nat) : Hd := ⟨.slice (some ⟨gN, 0, none⟩) n cN, .slice (some ⟨gW, 0, none⟩) n cW, .slice (some ⟨gB, 0, none⟩) n cB⟩
theorem hd_setN (hn : T.wd.length = n) (t : TrieAt w B p (hd gN cN gW cW gB cB n) T) (j : Nat) (m : Int) :
    TrieAt (w.setCell ⟨gN, j, none⟩ (.int .i64 m)) B p (hd gN cN gW cW gB cB n) ⟨T.nx.set j m, T.wd, T.bl⟩ ∧ Stp p (hd gN cN gW cW gB cB n) w (hd gN cN gW cW gB cB n) (w.setCell ⟨gN, j, none⟩ (.int .i64 m)) := by
  subst hn; exact trie_setN t j m
theorem hd_setW (hn : T.wd.length = n) (t : TrieAt w B p (hd gN cN gW cW gB cB n) T) (j : Nat) (b : Bool) :
    TrieAt (w.setCell ⟨gW, j, none⟩ (.bool b)) B p (hd gN cN gW cW gB cB n) ⟨T.nx, T.wd.set j b, T.bl⟩ ∧ Stp p (hd gN cN gW cW gB cB n) w (hd gN cN gW cW gB cB n) (w.setCell ⟨gW, j, none⟩ (.bool b)) := by
  subst hn; exact trie_setW t j b
theorem hd_setB (hn : T.wd.length = n) (t : TrieAt w B p (hd gN cN gW cW gB cB n) T) (j : Nat) (m : Int) :
    TrieAt (w.setCell ⟨gB, j, none⟩ (.int .i64 m)) B p (hd gN cN gW cW gB cB n) ⟨T.nx, T.wd, T.bl.set j m⟩ ∧ Stp p (hd gN cN gW cW gB cB n) w (hd gN cN gW cW gB cB n) (w.setCell ⟨gB, j, none⟩ (.int .i64 m)) := by
  subst hn; exact trie_setB t j m
/-- All that a walk wants to know of a Trie's memory: the struct's cells, the rows' cells, none frozen. -/
structure View (w : World) (p gN cN gW cW gB cB n : Nat) (T : TT) : Prop where
  c0 : w.cell? ⟨p, 0, none⟩ = some (.slice (some ⟨gN, 0, none⟩) n cN)
  c1 : w.cell? ⟨p, 1, none⟩ = some (.slice (some ⟨gW, 0, none⟩) n cW)
  c2 : w.cell? ⟨p, 2, none⟩ = some (.slice (some ⟨gB, 0, none⟩) n cB)
  N : ∀ i l, i < n → l < 26 → w.cell? ⟨gN, i * 26 + l, none⟩ = some (.int .i64 (T.nxt i l))
  W : ∀ i, i < n → w.cell? ⟨gW, i, none⟩ = some (.bool (T.wd.getD i false))
  B : ∀ i, i < n → w.cell? ⟨gB, i, none⟩ = some (.int .i64 (T.bl.getD i 0))
  fN : ∀ i, w.frozen? ⟨gN, i, none⟩ = false
  fW : ∀ i, w.frozen? ⟨gW, i, none⟩ = false
  fB : ∀ i, w.frozen? ⟨gB, i, none⟩ = false
theorem hd_view (hn : T.wd.length = n) (t : TrieAt w B p (hd gN cN gW cW gB cB n) T) : View w p gN cN gW cW gB cB n T := by
  subst hn
  exact ⟨t.mid.c0, t.mid.c1, t.mid.c2, fun i l hi hl => cellN t rfl i l hi hl, fun i hi => cellW t rfl i hi, fun i hi => cellB t rfl i hi, fun i => t.rN.frozenAt i, fun i => t.rW.frozenAt i, fun i => t.rB.frozenAt i⟩
theorem to_hd {h : Hd} (t : TrieAt w B p h T) (h0 : 0 < T.wd.length) : ∃ gN cN gW cW gB cB, h = hd gN cN gW cW gB cB T.wd.length := handles t h0
end
end Go.Proofs.Ymbrbm
