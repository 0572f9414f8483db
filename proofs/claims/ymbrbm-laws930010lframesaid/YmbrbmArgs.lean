/-
  Opening arguments: slices of whatever elements, arrays, structs: what the walks want. Over whatever program. Own text.
-/
import Derived.Test.YmbrbmRows
import Derived.WalkKit
import Derived.ProofKit
import Derived.OpenShut
import Derived.ShutString
import Derived.ChangeOld
import Derived.Below
import Derived.Deep.Slices
namespace Go.Proofs.Ymbrbm
open Go.ChangeShapes Go.WideShapes Go.ChangeAt Go.RowKit

section
variable {H : Type} {enc : TypeId × Value → H} {P : Program} {w : World} {base : Nat} {spare : Nat → Bool} {held : Bool}

/-- A slice that came in: nothing, or 'len' elements of K cells each from an address on. -/
theorem came_slice {t e : TypeId} {a : Option Addr} {len cap : Nat} {x : DataW H × List MemPlace} (K : Nat) (hK : P.cellsOf e = K) (hK0 : 0 < K) (ht : P.underlying t = some (.slice e))
    (h : ∃ fuel, DataW.trod enc P w base spare held fuel t (Value.slice a len cap).cells.toList = some x) :
    len ≤ maxLen ∧ (len = 0 ∨ ∃ b off, a = some ⟨b, off, none⟩ ∧ b < w.heap.size ∧ ∀ i, i < len → ∃ cs n d, cs.length = K ∧ (∀ j v, cs[j]? = some v → w.cell? ⟨b, off + i * K + j, none⟩ = some v) ∧ DataW.trod enc P w base spare held n e cs = some d) := by
  obtain ⟨fuel, h⟩ := h
  rcases Deep.open_slice ht h with ⟨hc, _⟩ | ⟨ad, l, c, m, n, D, Pl, hc, _, hl, hm, hmm, _, hx⟩
  · simp [Value.cells] at hc
    obtain ⟨rfl, rfl, rfl⟩ := hc
    exact ⟨by omega, .inl rfl⟩
  · simp [Value.cells] at hc
    obtain ⟨rfl, rfl, rfl⟩ := hc
    refine ⟨by omega, ?_⟩
    by_cases h0 : len = 0
    · exact .inl h0
    right
    subst hK
    have hmlen : len ≤ m := by rw [hmm]; split <;> omega
    obtain ⟨b, off, spot⟩ := ad
    have hsp : spot = none ∧ b < w.heap.size := by
      obtain ⟨cs', h1, _⟩ := hx 0 (by omega)
      obtain ⟨_, hlen, hcell⟩ := World.cells?_some h1
      have h2 := hcell 0 hK0
      rw [List.getElem?_eq_getElem (by omega)] at h2
      refine ⟨by simpa [Addr.add] using World.cell?_spot h2, ?_⟩
      have := World.block_lt_of_cell? w _ h2
      simpa [Addr.add] using this
    obtain ⟨rfl, hb⟩ := hsp
    refine ⟨b, off, rfl, hb, fun i hi => ?_⟩
    obtain ⟨cs', h1, h2⟩ := hx i (by omega)
    obtain ⟨_, hlen, hcell⟩ := World.cells?_some h1
    refine ⟨cs', n, _, hlen, fun j v hv => ?_, h2⟩
    have hj : j < cs'.length := (List.getElem?_eq_some_iff.1 hv).1
    have := hcell j (by omega)
    rw [hv, Deep.add_add] at this
    rw [← this]
    congr 1
    unfold Addr.add
    split <;> simp_all [Nat.add_assoc]

/-- A string element. -/
theorem came_string {e : TypeId} {cs : List Value} {n : Nat} {x : DataW H × List MemPlace} (he : P.underlying e = some .string) (h : DataW.trod enc P w base spare held n e cs = some x) : ∃ s : ByteArray, cs = [.string s] ∧ s.size ≤ maxLen := by
  obtain ⟨s, h1, _, h2⟩ := DataW.trod_string he h
  exact ⟨s, h1, h2⟩
theorem came_int {k : IntKind} {e : TypeId} {cs : List Value} {n : Nat} {x : DataW H × List MemPlace} (he : P.underlying e = some (.int k)) (h : DataW.trod enc P w base spare held n e cs = some x) : ∃ z : Int, cs = [.int k z] ∧ (Lit.int k z).wf = true := by
  obtain ⟨s, h1, _, h2⟩ := DataW.trod_int he h
  exact ⟨s, h1, h2⟩
theorem came_bool {e : TypeId} {cs : List Value} {n : Nat} {x : DataW H × List MemPlace} (he : P.underlying e = some .bool) (h : DataW.trod enc P w base spare held n e cs = some x) : ∃ b : Bool, cs = [.bool b] := by
  obtain ⟨s, h1, _⟩ := DataW.trod_bool he h
  exact ⟨s, h1⟩

/-- An array of one-cell elements, by index. -/
theorem came_array {α : Type} {t e : TypeId} {cs : List Value} {n N : Nat} {x : DataW H × List MemPlace} (f : α → Value) (ht : P.underlying t = some (.array N e)) (hc : P.cellsOf e = 1) (hct : P.cellsOf t = N)
    (hf : ∀ m c y, DataW.trod enc P w base spare held m e c = some y → ∃ z, c = [f z])
    (h : DataW.trod enc P w base spare held n t cs = some x) : ∃ zs : List α, zs.length = N ∧ cs = zs.map f := by
  obtain ⟨xs, m, _, _, hl, hxl, hx⟩ := DataW.trod_array ht h
  rw [hct] at hl
  simp only [hc, Nat.mul_one] at hx
  clear h ht hct
  subst hl
  have key : ∀ i, i < cs.length → ∃ z, (cs.drop i).take 1 = [f z] := fun i hi => by
    have h1 := hx i hi
    rw [List.getElem?_eq_getElem (by omega)] at h1
    exact hf _ _ _ h1
  clear hx hxl
  induction cs with
  | nil => exact ⟨[], rfl, rfl⟩
  | cons c cs ih =>
    obtain ⟨z, hz⟩ := key 0 (by simp)
    obtain ⟨zs, h1, h2⟩ := ih (fun i hi => by simpa using key (i + 1) (by simpa using hi))
    refine ⟨z :: zs, by simp [h1], ?_⟩
    simp at hz
    rw [hz, h2, List.map_cons]

/-- A field of a struct: its type, its offset. -/
theorem came_field {t : TypeId} {fs : Array Field} {cs : List Value} {n : Nat} {x : DataW H × List MemPlace} (ht : P.underlying t = some (.struct fs)) (h : DataW.trod enc P w base spare held n t cs = some x) (i ty off K : Nat)
    (hf : (fs[i]?).map (fun f => (f.type, f.offset)) = some (ty, off)) (hK : P.cellsOf ty = K) : ∃ m y, DataW.trod enc P w base spare held m ty ((cs.drop off).take K) = some y := by
  obtain ⟨xs, m, _, _, _, hl, hx⟩ := DataW.trod_struct ht h
  cases hq : fs[i]? with
  | none => simp [hq] at hf
  | some f =>
    simp only [hq, Option.map_some, Option.some.injEq, Prod.mk.injEq] at hf
    obtain ⟨rfl, rfl⟩ := hf
    subst hK
    have h1 := hx i f hq
    have hi : i < fs.size := (Array.getElem?_eq_some_iff.1 hq).1
    rw [List.getElem?_eq_getElem (by omega)] at h1
    exact ⟨m, _, h1⟩
end

theorem own : ownKnob Ybmm.prog.godebug = none := by kernel_rfl
theorem laidOut : laidOutB Ybmm.prog = true := by kernel_rfl
end Go.Proofs.Ymbrbm
