/-
  Arrays by value that came in. Own text.
-/
import Derived.Test.YmbrbmArgs
namespace Go.Proofs.Ymbrbm
open Go.ChangeShapes Go.WideShapes Go.ChangeAt Go.RowKit
theorem okWide_array {P : Program} {w : World} {r : Reach} {base : Nat} {t e : TypeId} {n : Nat} {v : Value} (ht : P.underlying t = some (.array n e)) (h : Value.okWide P w r base t v) : ∃ cs, v = .agg cs := by
  simp only [Value.okWide, ht] at h
  obtain ⟨cs, h1, _⟩ := h
  exact ⟨cs, h1⟩
section
variable {H : Type} {enc : TypeId × Value → H} {P : Program} {w : World} {base : Nat} {spare : Nat → Bool} {held : Bool}
theorem open_array {α : Type} {r : Reach} {b : Nat} {t e : TypeId} {N : Nat} {v : Value} {d : DataW H} {p : List MemPlace} (f : α → Value) (ht : P.underlying t = some (.array N e)) (hc : P.cellsOf e = 1) (hct : P.cellsOf t = N)
    (hf : ∀ m c y, DataW.trod enc P w base spare held m e c = some y → ∃ z, c = [f z]) (hv : Value.okWide P w r b t v) (h : DataW.Trod enc P w base spare held t v d p) :
    ∃ zs : List α, zs.length = N ∧ v = .agg (zs.map f).toArray := by
  obtain ⟨cs, rfl⟩ := okWide_array ht hv
  obtain ⟨n, hn⟩ := h
  obtain ⟨zs, h1, h2⟩ := came_array f ht hc hct hf hn
  refine ⟨zs, h1, ?_⟩
  simp only [Value.cells] at h2
  rw [← h2]
end
end Go.Proofs.Ymbrbm
