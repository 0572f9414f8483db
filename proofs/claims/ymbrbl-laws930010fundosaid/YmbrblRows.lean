/-
  No cell of these rows narrows 'for every input' (looked for: loops, veiled, ifaces, maps, wideKeys, modest, calm, conditions, laid).
  DERIVED. THE GIVEN ROWS OF THIS SEAT. 12 by the template 'for every input the law returns true; each argument reads behind the call as it read before'; 0 by the template 'total and deterministic' (their statements: YmbrblTotals.lean).
  GIVEN WITH THE SEED: the statements are not yours to turn. If you find one false, say at which input.
  Laid BY PROGRAM, IN A SANDBOX (cutbox-rows.mjs): the forced cells as the released guide's own fill.sh prints them over the translation c8a6eeebd8fe9671… (all of the seat's roots in one cut). By AI agents, Wed Nov 11 2026. No macro, syntax, notation, axiom, sorry.
-/
import Derived.Test.YmbrblChecked
import GoSem.Claim
import GoSem.ClaimJoined
import GoSem.ClaimMapViews
import Derived.JoinedTies
import Derived.KernelRfl
namespace Go.Proofs.Ymbrbl
/- THE CELL 'sum', in the pinned program and in every row, IS THE sha256 OF THE DUMP (.gsa) THAT YmbrblProg.lean LOADS. Nothing in Lean hashes anything: it is a label: what it is worth is what the hold of that sum in a sandbox is worth. -/
noncomputable def Yblm.pinned : Pinned := { name := "ymbrbl", sum := "c8a6eeebd8fe9671b901f09c0488c4cff8d048b8dd1162d1c95ea54be9525ac3", checked := Yblm.checked }
namespace Rows
def none {H : Type} : Left H := { results := [], args := [] }

/-- 'trie.LawS930010EExact': WHATEVER THE INPUT: true; the input reads as it did. -/
def lawS930010EExactSpec : ChangeSpec := { name := "lawS930010EExact", fn := fun _ => fun
  | [d1, d2, d3, d4] => { results := [.lit (.bool true)], args := [d1, d2, d3, d4] }
  | _ => none }
def lawS930010EExactRow : OpenClaim := { program := "ymbrbl", sum := "c8a6eeebd8fe9671b901f09c0488c4cff8d048b8dd1162d1c95ea54be9525ac3", func := "example.com/own/trie.LawS930010EExact", spec := "lawS930010EExact", apart := false }
def LawS930010EExactSaid : Prop := lawS930010EExactRow.holds Yblm.pinned (OpenSpec.ofChange lawS930010EExactSpec)

/-- ITS FALSE NEIGHBOUR: 'it returns false'. Refute it at one input. -/
def lawS930010EExactWrong : ChangeSpec := { name := "lawS930010EExact", fn := fun _ => fun
  | [d1, d2, d3, d4] => { results := [.lit (.bool false)], args := [d1, d2, d3, d4] }
  | _ => none }
def LawS930010EExactWrongFalsely : Prop := lawS930010EExactRow.holds Yblm.pinned (OpenSpec.ofChange lawS930010EExactWrong)

/-- 'trie.LawS930010EEdges': WHATEVER THE INPUT: true; the input reads as it did. -/
def lawS930010EEdgesSpec : ChangeSpec := { name := "lawS930010EEdges", fn := fun _ => fun
  | [d1, d2, d3, d4] => { results := [.lit (.bool true)], args := [d1, d2, d3, d4] }
  | _ => none }
def lawS930010EEdgesRow : OpenClaim := { program := "ymbrbl", sum := "c8a6eeebd8fe9671b901f09c0488c4cff8d048b8dd1162d1c95ea54be9525ac3", func := "example.com/own/trie.LawS930010EEdges", spec := "lawS930010EEdges", apart := false }
def LawS930010EEdgesSaid : Prop := lawS930010EEdgesRow.holds Yblm.pinned (OpenSpec.ofChange lawS930010EEdgesSpec)

/-- ITS FALSE NEIGHBOUR: 'it returns false'. Refute it at one input. -/
def lawS930010EEdgesWrong : ChangeSpec := { name := "lawS930010EEdges", fn := fun _ => fun
  | [d1, d2, d3, d4] => { results := [.lit (.bool false)], args := [d1, d2, d3, d4] }
  | _ => none }
def LawS930010EEdgesWrongFalsely : Prop := lawS930010EEdgesRow.holds Yblm.pinned (OpenSpec.ofChange lawS930010EEdgesWrong)

/-- 'trie.LawS930010FModel': WHATEVER THE INPUT: true; the input reads as it did. -/
def lawS930010FModelSpec : ChangeSpec := { name := "lawS930010FModel", fn := fun _ => fun
  | [d1, d2, d3, d4] => { results := [.lit (.bool true)], args := [d1, d2, d3, d4] }
  | _ => none }
def lawS930010FModelRow : OpenClaim := { program := "ymbrbl", sum := "c8a6eeebd8fe9671b901f09c0488c4cff8d048b8dd1162d1c95ea54be9525ac3", func := "example.com/own/trie.LawS930010FModel", spec := "lawS930010FModel", apart := false }
def LawS930010FModelSaid : Prop := lawS930010FModelRow.holds Yblm.pinned (OpenSpec.ofChange lawS930010FModelSpec)

/-- ITS FALSE NEIGHBOUR: 'it returns false'. Refute it at one input. -/
def lawS930010FModelWrong : ChangeSpec := { name := "lawS930010FModel", fn := fun _ => fun
  | [d1, d2, d3, d4] => { results := [.lit (.bool false)], args := [d1, d2, d3, d4] }
  | _ => none }
def LawS930010FModelWrongFalsely : Prop := lawS930010FModelRow.holds Yblm.pinned (OpenSpec.ofChange lawS930010FModelWrong)

/-- 'trie.LawS930010FPath': WHATEVER THE INPUT: true; the input reads as it did. -/
def lawS930010FPathSpec : ChangeSpec := { name := "lawS930010FPath", fn := fun _ => fun
  | [d1, d2, d3] => { results := [.lit (.bool true)], args := [d1, d2, d3] }
  | _ => none }
def lawS930010FPathRow : OpenClaim := { program := "ymbrbl", sum := "c8a6eeebd8fe9671b901f09c0488c4cff8d048b8dd1162d1c95ea54be9525ac3", func := "example.com/own/trie.LawS930010FPath", spec := "lawS930010FPath", apart := false }
def LawS930010FPathSaid : Prop := lawS930010FPathRow.holds Yblm.pinned (OpenSpec.ofChange lawS930010FPathSpec)

/-- ITS FALSE NEIGHBOUR: 'it returns false'. Refute it at one input. -/
def lawS930010FPathWrong : ChangeSpec := { name := "lawS930010FPath", fn := fun _ => fun
  | [d1, d2, d3] => { results := [.lit (.bool false)], args := [d1, d2, d3] }
  | _ => none }
def LawS930010FPathWrongFalsely : Prop := lawS930010FPathRow.holds Yblm.pinned (OpenSpec.ofChange lawS930010FPathWrong)

/-- 'trie.LawS930010FUndo': WHATEVER THE INPUT: true; the input reads as it did. -/
def lawS930010FUndoSpec : ChangeSpec := { name := "lawS930010FUndo", fn := fun _ => fun
  | [d1, d2, d3] => { results := [.lit (.bool true)], args := [d1, d2, d3] }
  | _ => none }
def lawS930010FUndoRow : OpenClaim := { program := "ymbrbl", sum := "c8a6eeebd8fe9671b901f09c0488c4cff8d048b8dd1162d1c95ea54be9525ac3", func := "example.com/own/trie.LawS930010FUndo", spec := "lawS930010FUndo", apart := false }
def LawS930010FUndoSaid : Prop := lawS930010FUndoRow.holds Yblm.pinned (OpenSpec.ofChange lawS930010FUndoSpec)

/-- ITS FALSE NEIGHBOUR: 'it returns false'. Refute it at one input. -/
def lawS930010FUndoWrong : ChangeSpec := { name := "lawS930010FUndo", fn := fun _ => fun
  | [d1, d2, d3] => { results := [.lit (.bool false)], args := [d1, d2, d3] }
  | _ => none }
def LawS930010FUndoWrongFalsely : Prop := lawS930010FUndoRow.holds Yblm.pinned (OpenSpec.ofChange lawS930010FUndoWrong)

/-- 'trie.LawS930010GWords': WHATEVER THE INPUT: true; the input reads as it did. -/
def lawS930010GWordsSpec : ChangeSpec := { name := "lawS930010GWords", fn := fun _ => fun
  | [d1, d2, d3, d4, d5] => { results := [.lit (.bool true)], args := [d1, d2, d3, d4, d5] }
  | _ => none }
def lawS930010GWordsRow : OpenClaim := { program := "ymbrbl", sum := "c8a6eeebd8fe9671b901f09c0488c4cff8d048b8dd1162d1c95ea54be9525ac3", func := "example.com/own/trie.LawS930010GWords", spec := "lawS930010GWords", recurses := true, apart := false }
def LawS930010GWordsSaid : Prop := lawS930010GWordsRow.holds Yblm.pinned (OpenSpec.ofChange lawS930010GWordsSpec)

/-- ITS FALSE NEIGHBOUR: 'it returns false'. Refute it at one input. -/
def lawS930010GWordsWrong : ChangeSpec := { name := "lawS930010GWords", fn := fun _ => fun
  | [d1, d2, d3, d4, d5] => { results := [.lit (.bool false)], args := [d1, d2, d3, d4, d5] }
  | _ => none }
def LawS930010GWordsWrongFalsely : Prop := lawS930010GWordsRow.holds Yblm.pinned (OpenSpec.ofChange lawS930010GWordsWrong)

/-- 'trie.LawS930010GStep': WHATEVER THE INPUT: true; the input reads as it did. -/
def lawS930010GStepSpec : ChangeSpec := { name := "lawS930010GStep", fn := fun _ => fun
  | [d1, d2, d3, d4, d5, d6] => { results := [.lit (.bool true)], args := [d1, d2, d3, d4, d5, d6] }
  | _ => none }
def lawS930010GStepRow : OpenClaim := { program := "ymbrbl", sum := "c8a6eeebd8fe9671b901f09c0488c4cff8d048b8dd1162d1c95ea54be9525ac3", func := "example.com/own/trie.LawS930010GStep", spec := "lawS930010GStep", recurses := true, apart := false }
def LawS930010GStepSaid : Prop := lawS930010GStepRow.holds Yblm.pinned (OpenSpec.ofChange lawS930010GStepSpec)

/-- ITS FALSE NEIGHBOUR: 'it returns false'. Refute it at one input. -/
def lawS930010GStepWrong : ChangeSpec := { name := "lawS930010GStep", fn := fun _ => fun
  | [d1, d2, d3, d4, d5, d6] => { results := [.lit (.bool false)], args := [d1, d2, d3, d4, d5, d6] }
  | _ => none }
def LawS930010GStepWrongFalsely : Prop := lawS930010GStepRow.holds Yblm.pinned (OpenSpec.ofChange lawS930010GStepWrong)

/-- 'trie.LawS930010GSelect': WHATEVER THE INPUT: true; the input reads as it did. -/
def lawS930010GSelectSpec : ChangeSpec := { name := "lawS930010GSelect", fn := fun _ => fun
  | [d] => { results := [.lit (.bool true)], args := [d] }
  | _ => none }
def lawS930010GSelectRow : OpenClaim := { program := "ymbrbl", sum := "c8a6eeebd8fe9671b901f09c0488c4cff8d048b8dd1162d1c95ea54be9525ac3", func := "example.com/own/trie.LawS930010GSelect", spec := "lawS930010GSelect", recurses := true, apart := false }
def LawS930010GSelectSaid : Prop := lawS930010GSelectRow.holds Yblm.pinned (OpenSpec.ofChange lawS930010GSelectSpec)

/-- ITS FALSE NEIGHBOUR: 'it returns false'. Refute it at one input. -/
def lawS930010GSelectWrong : ChangeSpec := { name := "lawS930010GSelect", fn := fun _ => fun
  | [d] => { results := [.lit (.bool false)], args := [d] }
  | _ => none }
def LawS930010GSelectWrongFalsely : Prop := lawS930010GSelectRow.holds Yblm.pinned (OpenSpec.ofChange lawS930010GSelectWrong)

/-- 'trie.LawS930010HExact': WHATEVER THE INPUT: true; the input reads as it did. -/
def lawS930010HExactSpec : ChangeSpec := { name := "lawS930010HExact", fn := fun _ => fun
  | [d1, d2, d3] => { results := [.lit (.bool true)], args := [d1, d2, d3] }
  | _ => none }
def lawS930010HExactRow : OpenClaim := { program := "ymbrbl", sum := "c8a6eeebd8fe9671b901f09c0488c4cff8d048b8dd1162d1c95ea54be9525ac3", func := "example.com/own/trie.LawS930010HExact", spec := "lawS930010HExact", apart := false }
def LawS930010HExactSaid : Prop := lawS930010HExactRow.holds Yblm.pinned (OpenSpec.ofChange lawS930010HExactSpec)

/-- ITS FALSE NEIGHBOUR: 'it returns false'. Refute it at one input. -/
def lawS930010HExactWrong : ChangeSpec := { name := "lawS930010HExact", fn := fun _ => fun
  | [d1, d2, d3] => { results := [.lit (.bool false)], args := [d1, d2, d3] }
  | _ => none }
def LawS930010HExactWrongFalsely : Prop := lawS930010HExactRow.holds Yblm.pinned (OpenSpec.ofChange lawS930010HExactWrong)

/-- 'trie.LawS930010HRoundTrip': WHATEVER THE INPUT: true; the input reads as it did. -/
def lawS930010HRoundTripSpec : ChangeSpec := { name := "lawS930010HRoundTrip", fn := fun _ => fun
  | [d] => { results := [.lit (.bool true)], args := [d] }
  | _ => none }
def lawS930010HRoundTripRow : OpenClaim := { program := "ymbrbl", sum := "c8a6eeebd8fe9671b901f09c0488c4cff8d048b8dd1162d1c95ea54be9525ac3", func := "example.com/own/trie.LawS930010HRoundTrip", spec := "lawS930010HRoundTrip", apart := false }
def LawS930010HRoundTripSaid : Prop := lawS930010HRoundTripRow.holds Yblm.pinned (OpenSpec.ofChange lawS930010HRoundTripSpec)

/-- ITS FALSE NEIGHBOUR: 'it returns false'. Refute it at one input. -/
def lawS930010HRoundTripWrong : ChangeSpec := { name := "lawS930010HRoundTrip", fn := fun _ => fun
  | [d] => { results := [.lit (.bool false)], args := [d] }
  | _ => none }
def LawS930010HRoundTripWrongFalsely : Prop := lawS930010HRoundTripRow.holds Yblm.pinned (OpenSpec.ofChange lawS930010HRoundTripWrong)

/-- 'trie.LawS930010HListing': WHATEVER THE INPUT: true; the input reads as it did. -/
def lawS930010HListingSpec : ChangeSpec := { name := "lawS930010HListing", fn := fun _ => fun
  | [d] => { results := [.lit (.bool true)], args := [d] }
  | _ => none }
def lawS930010HListingRow : OpenClaim := { program := "ymbrbl", sum := "c8a6eeebd8fe9671b901f09c0488c4cff8d048b8dd1162d1c95ea54be9525ac3", func := "example.com/own/trie.LawS930010HListing", spec := "lawS930010HListing", recurses := true, apart := false }
def LawS930010HListingSaid : Prop := lawS930010HListingRow.holds Yblm.pinned (OpenSpec.ofChange lawS930010HListingSpec)

/-- ITS FALSE NEIGHBOUR: 'it returns false'. Refute it at one input. -/
def lawS930010HListingWrong : ChangeSpec := { name := "lawS930010HListing", fn := fun _ => fun
  | [d] => { results := [.lit (.bool false)], args := [d] }
  | _ => none }
def LawS930010HListingWrongFalsely : Prop := lawS930010HListingRow.holds Yblm.pinned (OpenSpec.ofChange lawS930010HListingWrong)

/-- 'trie.LawS930010IPaths': WHATEVER THE INPUT: true; the input reads as it did. -/
def lawS930010IPathsSpec : ChangeSpec := { name := "lawS930010IPaths", fn := fun _ => fun
  | [d1, d2, d3] => { results := [.lit (.bool true)], args := [d1, d2, d3] }
  | _ => none }
def lawS930010IPathsRow : OpenClaim := { program := "ymbrbl", sum := "c8a6eeebd8fe9671b901f09c0488c4cff8d048b8dd1162d1c95ea54be9525ac3", func := "example.com/own/trie.LawS930010IPaths", spec := "lawS930010IPaths", apart := false }
def LawS930010IPathsSaid : Prop := lawS930010IPathsRow.holds Yblm.pinned (OpenSpec.ofChange lawS930010IPathsSpec)

/-- ITS FALSE NEIGHBOUR: 'it returns false'. Refute it at one input. -/
def lawS930010IPathsWrong : ChangeSpec := { name := "lawS930010IPaths", fn := fun _ => fun
  | [d1, d2, d3] => { results := [.lit (.bool false)], args := [d1, d2, d3] }
  | _ => none }
def LawS930010IPathsWrongFalsely : Prop := lawS930010IPathsRow.holds Yblm.pinned (OpenSpec.ofChange lawS930010IPathsWrong)

end Rows
end Go.Proofs.Ymbrbl
