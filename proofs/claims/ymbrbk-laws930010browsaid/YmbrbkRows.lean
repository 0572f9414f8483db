/-
  No cell of these rows narrows 'for every input' (looked for: loops, veiled, ifaces, maps, wideKeys, modest, calm, conditions, laid).
  DERIVED. THE GIVEN ROWS OF THIS SEAT. 12 by the template 'for every input the law returns true; each argument reads behind the call as it read before'; 0 by the template 'total and deterministic' (their statements: YmbrbkTotals.lean).
  GIVEN WITH THE SEED: the statements are not yours to turn. If you find one false, say at which input.
  Laid BY PROGRAM, IN A SANDBOX (cutbox-rows.mjs): the forced cells as the released guide's own fill.sh prints them over the translation b2e44a8cb25fe834… (all of the seat's roots in one cut). By AI agents, Wed Nov 11 2026. No macro, syntax, notation, axiom, sorry.
-/
import Derived.Test.YmbrbkChecked
import GoSem.Claim
import GoSem.ClaimJoined
import GoSem.ClaimMapViews
import Derived.JoinedTies
import Derived.KernelRfl
namespace Go.Proofs.Ymbrbk
/- THE CELL 'sum', in the pinned program and in every row, IS THE sha256 OF THE DUMP (.gsa) THAT YmbrbkProg.lean LOADS. Nothing in Lean hashes anything: it is a label: what it is worth is what the hold of that sum in a sandbox is worth. -/
noncomputable def Ybkm.pinned : Pinned := { name := "ymbrbk", sum := "b2e44a8cb25fe83479515a3828365dd5ea2ee0107d8d30790d4c4fb0b501e2b6", checked := Ybkm.checked }
namespace Rows
def none {H : Type} : Left H := { results := [], args := [] }

/-- 'trie.LawS930010AAppends': WHATEVER THE INPUT: true; the input reads as it did. -/
def lawS930010AAppendsSpec : ChangeSpec := { name := "lawS930010AAppends", fn := fun _ => fun
  | [d1, d2] => { results := [.lit (.bool true)], args := [d1, d2] }
  | _ => none }
def lawS930010AAppendsRow : OpenClaim := { program := "ymbrbk", sum := "b2e44a8cb25fe83479515a3828365dd5ea2ee0107d8d30790d4c4fb0b501e2b6", func := "example.com/own/trie.LawS930010AAppends", spec := "lawS930010AAppends", apart := false }
def LawS930010AAppendsSaid : Prop := lawS930010AAppendsRow.holds Ybkm.pinned (OpenSpec.ofChange lawS930010AAppendsSpec)

/-- ITS FALSE NEIGHBOUR: 'it returns false'. Refute it at one input. -/
def lawS930010AAppendsWrong : ChangeSpec := { name := "lawS930010AAppends", fn := fun _ => fun
  | [d1, d2] => { results := [.lit (.bool false)], args := [d1, d2] }
  | _ => none }
def LawS930010AAppendsWrongFalsely : Prop := lawS930010AAppendsRow.holds Ybkm.pinned (OpenSpec.ofChange lawS930010AAppendsWrong)

/-- 'trie.LawS930010AApart': WHATEVER THE INPUT: true; the input reads as it did. -/
def lawS930010AApartSpec : ChangeSpec := { name := "lawS930010AApart", fn := fun _ => fun
  | [d] => { results := [.lit (.bool true)], args := [d] }
  | _ => none }
def lawS930010AApartRow : OpenClaim := { program := "ymbrbk", sum := "b2e44a8cb25fe83479515a3828365dd5ea2ee0107d8d30790d4c4fb0b501e2b6", func := "example.com/own/trie.LawS930010AApart", spec := "lawS930010AApart", apart := false }
def LawS930010AApartSaid : Prop := lawS930010AApartRow.holds Ybkm.pinned (OpenSpec.ofChange lawS930010AApartSpec)

/-- ITS FALSE NEIGHBOUR: 'it returns false'. Refute it at one input. -/
def lawS930010AApartWrong : ChangeSpec := { name := "lawS930010AApart", fn := fun _ => fun
  | [d] => { results := [.lit (.bool false)], args := [d] }
  | _ => none }
def LawS930010AApartWrongFalsely : Prop := lawS930010AApartRow.holds Ybkm.pinned (OpenSpec.ofChange lawS930010AApartWrong)

/-- 'trie.LawS930010APath': WHATEVER THE INPUT: true; the input reads as it did. -/
def lawS930010APathSpec : ChangeSpec := { name := "lawS930010APath", fn := fun _ => fun
  | [d1, d2, d3] => { results := [.lit (.bool true)], args := [d1, d2, d3] }
  | _ => none }
def lawS930010APathRow : OpenClaim := { program := "ymbrbk", sum := "b2e44a8cb25fe83479515a3828365dd5ea2ee0107d8d30790d4c4fb0b501e2b6", func := "example.com/own/trie.LawS930010APath", spec := "lawS930010APath", apart := false }
def LawS930010APathSaid : Prop := lawS930010APathRow.holds Ybkm.pinned (OpenSpec.ofChange lawS930010APathSpec)

/-- ITS FALSE NEIGHBOUR: 'it returns false'. Refute it at one input. -/
def lawS930010APathWrong : ChangeSpec := { name := "lawS930010APath", fn := fun _ => fun
  | [d1, d2, d3] => { results := [.lit (.bool false)], args := [d1, d2, d3] }
  | _ => none }
def LawS930010APathWrongFalsely : Prop := lawS930010APathRow.holds Ybkm.pinned (OpenSpec.ofChange lawS930010APathWrong)

/-- 'trie.LawS930010BCount': WHATEVER THE INPUT: true; the input reads as it did. -/
def lawS930010BCountSpec : ChangeSpec := { name := "lawS930010BCount", fn := fun _ => fun
  | [d1, d2, d3] => { results := [.lit (.bool true)], args := [d1, d2, d3] }
  | _ => none }
def lawS930010BCountRow : OpenClaim := { program := "ymbrbk", sum := "b2e44a8cb25fe83479515a3828365dd5ea2ee0107d8d30790d4c4fb0b501e2b6", func := "example.com/own/trie.LawS930010BCount", spec := "lawS930010BCount", apart := false }
def LawS930010BCountSaid : Prop := lawS930010BCountRow.holds Ybkm.pinned (OpenSpec.ofChange lawS930010BCountSpec)

/-- ITS FALSE NEIGHBOUR: 'it returns false'. Refute it at one input. -/
def lawS930010BCountWrong : ChangeSpec := { name := "lawS930010BCount", fn := fun _ => fun
  | [d1, d2, d3] => { results := [.lit (.bool false)], args := [d1, d2, d3] }
  | _ => none }
def LawS930010BCountWrongFalsely : Prop := lawS930010BCountRow.holds Ybkm.pinned (OpenSpec.ofChange lawS930010BCountWrong)

/-- 'trie.LawS930010BSum': WHATEVER THE INPUT: true; the input reads as it did. -/
def lawS930010BSumSpec : ChangeSpec := { name := "lawS930010BSum", fn := fun _ => fun
  | [d1, d2, d3] => { results := [.lit (.bool true)], args := [d1, d2, d3] }
  | _ => none }
def lawS930010BSumRow : OpenClaim := { program := "ymbrbk", sum := "b2e44a8cb25fe83479515a3828365dd5ea2ee0107d8d30790d4c4fb0b501e2b6", func := "example.com/own/trie.LawS930010BSum", spec := "lawS930010BSum", apart := false }
def LawS930010BSumSaid : Prop := lawS930010BSumRow.holds Ybkm.pinned (OpenSpec.ofChange lawS930010BSumSpec)

/-- ITS FALSE NEIGHBOUR: 'it returns false'. Refute it at one input. -/
def lawS930010BSumWrong : ChangeSpec := { name := "lawS930010BSum", fn := fun _ => fun
  | [d1, d2, d3] => { results := [.lit (.bool false)], args := [d1, d2, d3] }
  | _ => none }
def LawS930010BSumWrongFalsely : Prop := lawS930010BSumRow.holds Ybkm.pinned (OpenSpec.ofChange lawS930010BSumWrong)

/-- 'trie.LawS930010BRow': WHATEVER THE INPUT: true; the input reads as it did. -/
def lawS930010BRowSpec : ChangeSpec := { name := "lawS930010BRow", fn := fun _ => fun
  | [d1, d2, d3] => { results := [.lit (.bool true)], args := [d1, d2, d3] }
  | _ => none }
def lawS930010BRowRow : OpenClaim := { program := "ymbrbk", sum := "b2e44a8cb25fe83479515a3828365dd5ea2ee0107d8d30790d4c4fb0b501e2b6", func := "example.com/own/trie.LawS930010BRow", spec := "lawS930010BRow", apart := false }
def LawS930010BRowSaid : Prop := lawS930010BRowRow.holds Ybkm.pinned (OpenSpec.ofChange lawS930010BRowSpec)

/-- ITS FALSE NEIGHBOUR: 'it returns false'. Refute it at one input. -/
def lawS930010BRowWrong : ChangeSpec := { name := "lawS930010BRow", fn := fun _ => fun
  | [d1, d2, d3] => { results := [.lit (.bool false)], args := [d1, d2, d3] }
  | _ => none }
def LawS930010BRowWrongFalsely : Prop := lawS930010BRowRow.holds Ybkm.pinned (OpenSpec.ofChange lawS930010BRowWrong)

/-- 'trie.LawS930010CModel': WHATEVER THE INPUT: true; the input reads as it did. -/
def lawS930010CModelSpec : ChangeSpec := { name := "lawS930010CModel", fn := fun _ => fun
  | [d1, d2, d3, d4] => { results := [.lit (.bool true)], args := [d1, d2, d3, d4] }
  | _ => none }
def lawS930010CModelRow : OpenClaim := { program := "ymbrbk", sum := "b2e44a8cb25fe83479515a3828365dd5ea2ee0107d8d30790d4c4fb0b501e2b6", func := "example.com/own/trie.LawS930010CModel", spec := "lawS930010CModel", apart := false }
def LawS930010CModelSaid : Prop := lawS930010CModelRow.holds Ybkm.pinned (OpenSpec.ofChange lawS930010CModelSpec)

/-- ITS FALSE NEIGHBOUR: 'it returns false'. Refute it at one input. -/
def lawS930010CModelWrong : ChangeSpec := { name := "lawS930010CModel", fn := fun _ => fun
  | [d1, d2, d3, d4] => { results := [.lit (.bool false)], args := [d1, d2, d3, d4] }
  | _ => none }
def LawS930010CModelWrongFalsely : Prop := lawS930010CModelRow.holds Ybkm.pinned (OpenSpec.ofChange lawS930010CModelWrong)

/-- 'trie.LawS930010CSplit': WHATEVER THE INPUT: true; the input reads as it did. -/
def lawS930010CSplitSpec : ChangeSpec := { name := "lawS930010CSplit", fn := fun _ => fun
  | [d1, d2, d3, d4, d5] => { results := [.lit (.bool true)], args := [d1, d2, d3, d4, d5] }
  | _ => none }
def lawS930010CSplitRow : OpenClaim := { program := "ymbrbk", sum := "b2e44a8cb25fe83479515a3828365dd5ea2ee0107d8d30790d4c4fb0b501e2b6", func := "example.com/own/trie.LawS930010CSplit", spec := "lawS930010CSplit", apart := false }
def LawS930010CSplitSaid : Prop := lawS930010CSplitRow.holds Ybkm.pinned (OpenSpec.ofChange lawS930010CSplitSpec)

/-- ITS FALSE NEIGHBOUR: 'it returns false'. Refute it at one input. -/
def lawS930010CSplitWrong : ChangeSpec := { name := "lawS930010CSplit", fn := fun _ => fun
  | [d1, d2, d3, d4, d5] => { results := [.lit (.bool false)], args := [d1, d2, d3, d4, d5] }
  | _ => none }
def LawS930010CSplitWrongFalsely : Prop := lawS930010CSplitRow.holds Ybkm.pinned (OpenSpec.ofChange lawS930010CSplitWrong)

/-- 'trie.LawS930010CSingle': WHATEVER THE INPUT: true; the input reads as it did. -/
def lawS930010CSingleSpec : ChangeSpec := { name := "lawS930010CSingle", fn := fun _ => fun
  | [d1, d2, d3] => { results := [.lit (.bool true)], args := [d1, d2, d3] }
  | _ => none }
def lawS930010CSingleRow : OpenClaim := { program := "ymbrbk", sum := "b2e44a8cb25fe83479515a3828365dd5ea2ee0107d8d30790d4c4fb0b501e2b6", func := "example.com/own/trie.LawS930010CSingle", spec := "lawS930010CSingle", apart := false }
def LawS930010CSingleSaid : Prop := lawS930010CSingleRow.holds Ybkm.pinned (OpenSpec.ofChange lawS930010CSingleSpec)

/-- ITS FALSE NEIGHBOUR: 'it returns false'. Refute it at one input. -/
def lawS930010CSingleWrong : ChangeSpec := { name := "lawS930010CSingle", fn := fun _ => fun
  | [d1, d2, d3] => { results := [.lit (.bool false)], args := [d1, d2, d3] }
  | _ => none }
def LawS930010CSingleWrongFalsely : Prop := lawS930010CSingleRow.holds Ybkm.pinned (OpenSpec.ofChange lawS930010CSingleWrong)

/-- 'trie.LawS930010DExact': WHATEVER THE INPUT: true; the input reads as it did. -/
def lawS930010DExactSpec : ChangeSpec := { name := "lawS930010DExact", fn := fun _ => fun
  | [d] => { results := [.lit (.bool true)], args := [d] }
  | _ => none }
def lawS930010DExactRow : OpenClaim := { program := "ymbrbk", sum := "b2e44a8cb25fe83479515a3828365dd5ea2ee0107d8d30790d4c4fb0b501e2b6", func := "example.com/own/trie.LawS930010DExact", spec := "lawS930010DExact", apart := false }
def LawS930010DExactSaid : Prop := lawS930010DExactRow.holds Ybkm.pinned (OpenSpec.ofChange lawS930010DExactSpec)

/-- ITS FALSE NEIGHBOUR: 'it returns false'. Refute it at one input. -/
def lawS930010DExactWrong : ChangeSpec := { name := "lawS930010DExact", fn := fun _ => fun
  | [d] => { results := [.lit (.bool false)], args := [d] }
  | _ => none }
def LawS930010DExactWrongFalsely : Prop := lawS930010DExactRow.holds Ybkm.pinned (OpenSpec.ofChange lawS930010DExactWrong)

/-- 'trie.LawS930010DForeign': WHATEVER THE INPUT: true; the input reads as it did. -/
def lawS930010DForeignSpec : ChangeSpec := { name := "lawS930010DForeign", fn := fun _ => fun
  | [d1, d2, d3] => { results := [.lit (.bool true)], args := [d1, d2, d3] }
  | _ => none }
def lawS930010DForeignRow : OpenClaim := { program := "ymbrbk", sum := "b2e44a8cb25fe83479515a3828365dd5ea2ee0107d8d30790d4c4fb0b501e2b6", func := "example.com/own/trie.LawS930010DForeign", spec := "lawS930010DForeign", apart := false }
def LawS930010DForeignSaid : Prop := lawS930010DForeignRow.holds Ybkm.pinned (OpenSpec.ofChange lawS930010DForeignSpec)

/-- ITS FALSE NEIGHBOUR: 'it returns false'. Refute it at one input. -/
def lawS930010DForeignWrong : ChangeSpec := { name := "lawS930010DForeign", fn := fun _ => fun
  | [d1, d2, d3] => { results := [.lit (.bool false)], args := [d1, d2, d3] }
  | _ => none }
def LawS930010DForeignWrongFalsely : Prop := lawS930010DForeignRow.holds Ybkm.pinned (OpenSpec.ofChange lawS930010DForeignWrong)

/-- 'trie.LawS930010DConcat': WHATEVER THE INPUT: true; the input reads as it did. -/
def lawS930010DConcatSpec : ChangeSpec := { name := "lawS930010DConcat", fn := fun _ => fun
  | [d1, d2] => { results := [.lit (.bool true)], args := [d1, d2] }
  | _ => none }
def lawS930010DConcatRow : OpenClaim := { program := "ymbrbk", sum := "b2e44a8cb25fe83479515a3828365dd5ea2ee0107d8d30790d4c4fb0b501e2b6", func := "example.com/own/trie.LawS930010DConcat", spec := "lawS930010DConcat", apart := false }
def LawS930010DConcatSaid : Prop := lawS930010DConcatRow.holds Ybkm.pinned (OpenSpec.ofChange lawS930010DConcatSpec)

/-- ITS FALSE NEIGHBOUR: 'it returns false'. Refute it at one input. -/
def lawS930010DConcatWrong : ChangeSpec := { name := "lawS930010DConcat", fn := fun _ => fun
  | [d1, d2] => { results := [.lit (.bool false)], args := [d1, d2] }
  | _ => none }
def LawS930010DConcatWrongFalsely : Prop := lawS930010DConcatRow.holds Ybkm.pinned (OpenSpec.ofChange lawS930010DConcatWrong)

end Rows
end Go.Proofs.Ymbrbk
