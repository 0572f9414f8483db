/-
  No cell of these rows narrows 'for every input' (looked for: loops, veiled, ifaces, maps, wideKeys, modest, calm, conditions, laid).
  DERIVED. THE GIVEN ROWS OF THIS SEAT. 11 by the template 'for every input the law returns true; each argument reads behind the call as it read before'; 0 by the template 'total and deterministic' (their statements: YmbrbmTotals.lean).
  GIVEN WITH THE SEED: the statements are not yours to turn. If you find one false, say at which input.
  Laid BY PROGRAM, IN A SANDBOX (cutbox-rows.mjs): the forced cells as the released guide's own fill.sh prints them over the translation 0cd0eaaf46ebc1ef… (all of the seat's roots in one cut). By AI agents, Wed Nov 11 2026. No macro, syntax, notation, axiom, sorry.
-/
import Derived.Test.YmbrbmChecked
import GoSem.Claim
import GoSem.ClaimJoined
import GoSem.ClaimMapViews
import Derived.JoinedTies
import Derived.KernelRfl
namespace Go.Proofs.Ymbrbm
/- THE CELL 'sum', in the pinned program and in every row, IS THE sha256 OF THE DUMP (.gsa) THAT YmbrbmProg.lean LOADS. Nothing in Lean hashes anything: it is a label: what it is worth is what the hold of that sum in a sandbox is worth. -/
noncomputable def Ybmm.pinned : Pinned := { name := "ymbrbm", sum := "0cd0eaaf46ebc1efccb385536263783f665adfaefd03b96190f05a0e5fa990ad", checked := Ybmm.checked }
namespace Rows
def none {H : Type} : Left H := { results := [], args := [] }

/-- 'trie.LawS930010IScript': WHATEVER THE INPUT: true; the input reads as it did. -/
def lawS930010IScriptSpec : ChangeSpec := { name := "lawS930010IScript", fn := fun _ => fun
  | [d1, d2, d3] => { results := [.lit (.bool true)], args := [d1, d2, d3] }
  | _ => none }
def lawS930010IScriptRow : OpenClaim := { program := "ymbrbm", sum := "0cd0eaaf46ebc1efccb385536263783f665adfaefd03b96190f05a0e5fa990ad", func := "example.com/own/trie.LawS930010IScript", spec := "lawS930010IScript", apart := false }
def LawS930010IScriptSaid : Prop := lawS930010IScriptRow.holds Ybmm.pinned (OpenSpec.ofChange lawS930010IScriptSpec)

/-- ITS FALSE NEIGHBOUR: 'it returns false'. Refute it at one input. -/
def lawS930010IScriptWrong : ChangeSpec := { name := "lawS930010IScript", fn := fun _ => fun
  | [d1, d2, d3] => { results := [.lit (.bool false)], args := [d1, d2, d3] }
  | _ => none }
def LawS930010IScriptWrongFalsely : Prop := lawS930010IScriptRow.holds Ybmm.pinned (OpenSpec.ofChange lawS930010IScriptWrong)

/-- 'trie.LawS930010IExtend': WHATEVER THE INPUT: true; the input reads as it did. -/
def lawS930010IExtendSpec : ChangeSpec := { name := "lawS930010IExtend", fn := fun _ => fun
  | [d1, d2, d3, d4] => { results := [.lit (.bool true)], args := [d1, d2, d3, d4] }
  | _ => none }
def lawS930010IExtendRow : OpenClaim := { program := "ymbrbm", sum := "0cd0eaaf46ebc1efccb385536263783f665adfaefd03b96190f05a0e5fa990ad", func := "example.com/own/trie.LawS930010IExtend", spec := "lawS930010IExtend", apart := false }
def LawS930010IExtendSaid : Prop := lawS930010IExtendRow.holds Ybmm.pinned (OpenSpec.ofChange lawS930010IExtendSpec)

/-- ITS FALSE NEIGHBOUR: 'it returns false'. Refute it at one input. -/
def lawS930010IExtendWrong : ChangeSpec := { name := "lawS930010IExtend", fn := fun _ => fun
  | [d1, d2, d3, d4] => { results := [.lit (.bool false)], args := [d1, d2, d3, d4] }
  | _ => none }
def LawS930010IExtendWrongFalsely : Prop := lawS930010IExtendRow.holds Ybmm.pinned (OpenSpec.ofChange lawS930010IExtendWrong)

/-- 'trie.LawS930010JModel': WHATEVER THE INPUT: true; the input reads as it did. -/
def lawS930010JModelSpec : ChangeSpec := { name := "lawS930010JModel", fn := fun _ => fun
  | [d1, d2, d3, d4] => { results := [.lit (.bool true)], args := [d1, d2, d3, d4] }
  | _ => none }
def lawS930010JModelRow : OpenClaim := { program := "ymbrbm", sum := "0cd0eaaf46ebc1efccb385536263783f665adfaefd03b96190f05a0e5fa990ad", func := "example.com/own/trie.LawS930010JModel", spec := "lawS930010JModel", recurses := true, apart := false }
def LawS930010JModelSaid : Prop := lawS930010JModelRow.holds Ybmm.pinned (OpenSpec.ofChange lawS930010JModelSpec)

/-- ITS FALSE NEIGHBOUR: 'it returns false'. Refute it at one input. -/
def lawS930010JModelWrong : ChangeSpec := { name := "lawS930010JModel", fn := fun _ => fun
  | [d1, d2, d3, d4] => { results := [.lit (.bool false)], args := [d1, d2, d3, d4] }
  | _ => none }
def LawS930010JModelWrongFalsely : Prop := lawS930010JModelRow.holds Ybmm.pinned (OpenSpec.ofChange lawS930010JModelWrong)

/-- 'trie.LawS930010JRanks': WHATEVER THE INPUT: true; the input reads as it did. -/
def lawS930010JRanksSpec : ChangeSpec := { name := "lawS930010JRanks", fn := fun _ => fun
  | [d1, d2, d3, d4] => { results := [.lit (.bool true)], args := [d1, d2, d3, d4] }
  | _ => none }
def lawS930010JRanksRow : OpenClaim := { program := "ymbrbm", sum := "0cd0eaaf46ebc1efccb385536263783f665adfaefd03b96190f05a0e5fa990ad", func := "example.com/own/trie.LawS930010JRanks", spec := "lawS930010JRanks", recurses := true, apart := false }
def LawS930010JRanksSaid : Prop := lawS930010JRanksRow.holds Ybmm.pinned (OpenSpec.ofChange lawS930010JRanksSpec)

/-- ITS FALSE NEIGHBOUR: 'it returns false'. Refute it at one input. -/
def lawS930010JRanksWrong : ChangeSpec := { name := "lawS930010JRanks", fn := fun _ => fun
  | [d1, d2, d3, d4] => { results := [.lit (.bool false)], args := [d1, d2, d3, d4] }
  | _ => none }
def LawS930010JRanksWrongFalsely : Prop := lawS930010JRanksRow.holds Ybmm.pinned (OpenSpec.ofChange lawS930010JRanksWrong)

/-- 'trie.LawS930010JSplit': WHATEVER THE INPUT: true; the input reads as it did. -/
def lawS930010JSplitSpec : ChangeSpec := { name := "lawS930010JSplit", fn := fun _ => fun
  | [d1, d2, d3, d4] => { results := [.lit (.bool true)], args := [d1, d2, d3, d4] }
  | _ => none }
def lawS930010JSplitRow : OpenClaim := { program := "ymbrbm", sum := "0cd0eaaf46ebc1efccb385536263783f665adfaefd03b96190f05a0e5fa990ad", func := "example.com/own/trie.LawS930010JSplit", spec := "lawS930010JSplit", recurses := true, apart := false }
def LawS930010JSplitSaid : Prop := lawS930010JSplitRow.holds Ybmm.pinned (OpenSpec.ofChange lawS930010JSplitSpec)

/-- ITS FALSE NEIGHBOUR: 'it returns false'. Refute it at one input. -/
def lawS930010JSplitWrong : ChangeSpec := { name := "lawS930010JSplit", fn := fun _ => fun
  | [d1, d2, d3, d4] => { results := [.lit (.bool false)], args := [d1, d2, d3, d4] }
  | _ => none }
def LawS930010JSplitWrongFalsely : Prop := lawS930010JSplitRow.holds Ybmm.pinned (OpenSpec.ofChange lawS930010JSplitWrong)

/-- 'trie.LawS930010KCount': WHATEVER THE INPUT: true; the input reads as it did. -/
def lawS930010KCountSpec : ChangeSpec := { name := "lawS930010KCount", fn := fun _ => fun
  | [d1, d2] => { results := [.lit (.bool true)], args := [d1, d2] }
  | _ => none }
def lawS930010KCountRow : OpenClaim := { program := "ymbrbm", sum := "0cd0eaaf46ebc1efccb385536263783f665adfaefd03b96190f05a0e5fa990ad", func := "example.com/own/trie.LawS930010KCount", spec := "lawS930010KCount", apart := false }
def LawS930010KCountSaid : Prop := lawS930010KCountRow.holds Ybmm.pinned (OpenSpec.ofChange lawS930010KCountSpec)

/-- ITS FALSE NEIGHBOUR: 'it returns false'. Refute it at one input. -/
def lawS930010KCountWrong : ChangeSpec := { name := "lawS930010KCount", fn := fun _ => fun
  | [d1, d2] => { results := [.lit (.bool false)], args := [d1, d2] }
  | _ => none }
def LawS930010KCountWrongFalsely : Prop := lawS930010KCountRow.holds Ybmm.pinned (OpenSpec.ofChange lawS930010KCountWrong)

/-- 'trie.LawS930010KSelect': WHATEVER THE INPUT: true; the input reads as it did. -/
def lawS930010KSelectSpec : ChangeSpec := { name := "lawS930010KSelect", fn := fun _ => fun
  | [d] => { results := [.lit (.bool true)], args := [d] }
  | _ => none }
def lawS930010KSelectRow : OpenClaim := { program := "ymbrbm", sum := "0cd0eaaf46ebc1efccb385536263783f665adfaefd03b96190f05a0e5fa990ad", func := "example.com/own/trie.LawS930010KSelect", spec := "lawS930010KSelect", apart := false }
def LawS930010KSelectSaid : Prop := lawS930010KSelectRow.holds Ybmm.pinned (OpenSpec.ofChange lawS930010KSelectSpec)

/-- ITS FALSE NEIGHBOUR: 'it returns false'. Refute it at one input. -/
def lawS930010KSelectWrong : ChangeSpec := { name := "lawS930010KSelect", fn := fun _ => fun
  | [d] => { results := [.lit (.bool false)], args := [d] }
  | _ => none }
def LawS930010KSelectWrongFalsely : Prop := lawS930010KSelectRow.holds Ybmm.pinned (OpenSpec.ofChange lawS930010KSelectWrong)

/-- 'trie.LawS930010KPrefix': WHATEVER THE INPUT: true; the input reads as it did. -/
def lawS930010KPrefixSpec : ChangeSpec := { name := "lawS930010KPrefix", fn := fun _ => fun
  | [d1, d2] => { results := [.lit (.bool true)], args := [d1, d2] }
  | _ => none }
def lawS930010KPrefixRow : OpenClaim := { program := "ymbrbm", sum := "0cd0eaaf46ebc1efccb385536263783f665adfaefd03b96190f05a0e5fa990ad", func := "example.com/own/trie.LawS930010KPrefix", spec := "lawS930010KPrefix", apart := false }
def LawS930010KPrefixSaid : Prop := lawS930010KPrefixRow.holds Ybmm.pinned (OpenSpec.ofChange lawS930010KPrefixSpec)

/-- ITS FALSE NEIGHBOUR: 'it returns false'. Refute it at one input. -/
def lawS930010KPrefixWrong : ChangeSpec := { name := "lawS930010KPrefix", fn := fun _ => fun
  | [d1, d2] => { results := [.lit (.bool false)], args := [d1, d2] }
  | _ => none }
def LawS930010KPrefixWrongFalsely : Prop := lawS930010KPrefixRow.holds Ybmm.pinned (OpenSpec.ofChange lawS930010KPrefixWrong)

/-- 'trie.LawS930010LModel': WHATEVER THE INPUT: true; the input reads as it did. -/
def lawS930010LModelSpec : ChangeSpec := { name := "lawS930010LModel", fn := fun _ => fun
  | [d1, d2, d3, d4, d5] => { results := [.lit (.bool true)], args := [d1, d2, d3, d4, d5] }
  | _ => none }
def lawS930010LModelRow : OpenClaim := { program := "ymbrbm", sum := "0cd0eaaf46ebc1efccb385536263783f665adfaefd03b96190f05a0e5fa990ad", func := "example.com/own/trie.LawS930010LModel", spec := "lawS930010LModel", apart := false }
def LawS930010LModelSaid : Prop := lawS930010LModelRow.holds Ybmm.pinned (OpenSpec.ofChange lawS930010LModelSpec)

/-- ITS FALSE NEIGHBOUR: 'it returns false'. Refute it at one input. -/
def lawS930010LModelWrong : ChangeSpec := { name := "lawS930010LModel", fn := fun _ => fun
  | [d1, d2, d3, d4, d5] => { results := [.lit (.bool false)], args := [d1, d2, d3, d4, d5] }
  | _ => none }
def LawS930010LModelWrongFalsely : Prop := lawS930010LModelRow.holds Ybmm.pinned (OpenSpec.ofChange lawS930010LModelWrong)

/-- 'trie.LawS930010LChange': WHATEVER THE INPUT: true; the input reads as it did. -/
def lawS930010LChangeSpec : ChangeSpec := { name := "lawS930010LChange", fn := fun _ => fun
  | [d1, d2, d3, d4, d5] => { results := [.lit (.bool true)], args := [d1, d2, d3, d4, d5] }
  | _ => none }
def lawS930010LChangeRow : OpenClaim := { program := "ymbrbm", sum := "0cd0eaaf46ebc1efccb385536263783f665adfaefd03b96190f05a0e5fa990ad", func := "example.com/own/trie.LawS930010LChange", spec := "lawS930010LChange", apart := false }
def LawS930010LChangeSaid : Prop := lawS930010LChangeRow.holds Ybmm.pinned (OpenSpec.ofChange lawS930010LChangeSpec)

/-- ITS FALSE NEIGHBOUR: 'it returns false'. Refute it at one input. -/
def lawS930010LChangeWrong : ChangeSpec := { name := "lawS930010LChange", fn := fun _ => fun
  | [d1, d2, d3, d4, d5] => { results := [.lit (.bool false)], args := [d1, d2, d3, d4, d5] }
  | _ => none }
def LawS930010LChangeWrongFalsely : Prop := lawS930010LChangeRow.holds Ybmm.pinned (OpenSpec.ofChange lawS930010LChangeWrong)

/-- 'trie.LawS930010LFrame': WHATEVER THE INPUT: true; the input reads as it did. -/
def lawS930010LFrameSpec : ChangeSpec := { name := "lawS930010LFrame", fn := fun _ => fun
  | [d1, d2, d3] => { results := [.lit (.bool true)], args := [d1, d2, d3] }
  | _ => none }
def lawS930010LFrameRow : OpenClaim := { program := "ymbrbm", sum := "0cd0eaaf46ebc1efccb385536263783f665adfaefd03b96190f05a0e5fa990ad", func := "example.com/own/trie.LawS930010LFrame", spec := "lawS930010LFrame", apart := false }
def LawS930010LFrameSaid : Prop := lawS930010LFrameRow.holds Ybmm.pinned (OpenSpec.ofChange lawS930010LFrameSpec)

/-- ITS FALSE NEIGHBOUR: 'it returns false'. Refute it at one input. -/
def lawS930010LFrameWrong : ChangeSpec := { name := "lawS930010LFrame", fn := fun _ => fun
  | [d1, d2, d3] => { results := [.lit (.bool false)], args := [d1, d2, d3] }
  | _ => none }
def LawS930010LFrameWrongFalsely : Prop := lawS930010LFrameRow.holds Ybmm.pinned (OpenSpec.ofChange lawS930010LFrameWrong)

end Rows
end Go.Proofs.Ymbrbm
