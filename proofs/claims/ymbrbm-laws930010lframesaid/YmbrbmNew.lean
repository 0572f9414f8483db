/-
  A new, empty Trie. Own text.
-/
import Derived.Test.YmbrbmMem2
namespace Go.Proofs.Ymbrbm
open Go.RowKit
def TT.none : TT := ⟨[], [], []⟩
theorem trie_new (W : World) (B : Nat) (hB : B ≤ W.heap.size) : TrieAt (W.alloc (.cells #[.slice none 0 0, .slice none 0 0, .slice none 0 0] 29)) B W.heap.size ⟨.slice none 0 0, .slice none 0 0, .slice none 0 0⟩ TT.none :=
  ⟨hB, heap_alloc_new _ _, World.ownsRow_nil _ _ _ _, World.ownsRow_nil _ _ _ _, World.ownsRow_nil _ _ _ _⟩
end Go.Proofs.Ymbrbm
