/-
  LawS930010HListing: the arguments opened; the row. Own text (the frame after the guide's shell).
-/
import Derived.Test.YmbrblHListing
import Derived.Test.YmbrblArgs2
namespace Go.Proofs.Ymbrbl.lawS930010HListing
open Go.ChangeShapes Go.WideShapes Go.ChangeAt Go.RowKit
open Go.ChangeMaps (open_string shut_string)

theorem jops_of {H : Type} {enc : TypeId × Value → H} {w : World} {a : Option Addr} {len cap : Nat} {x : DataW H × List MemPlace}
    (h : ∃ fuel, DataW.trod enc Yblm.prog w 0 (fun _ => true) true fuel 74 (Value.slice a len cap).cells.toList = some x) :
    ∃ b off S, (0 < len → a = some ⟨b, off, none⟩) ∧ OpsB w b off len S := by
  obtain ⟨_, h0 | ⟨b, off, ha, hb, hx⟩⟩ := came_slice 2 (by kernel_rfl) (by decide) Yblm.underlying74 h
  · subst h0
    exact ⟨0, 0, [], fun h => absurd h (by omega), ⟨fun h => absurd h (by omega), fun i h => absurd h (by omega), fun i h => absurd h (by omega), fun i h => absurd h (by omega), fun i h => absurd h (by omega)⟩⟩
  obtain ⟨f, hf⟩ := Deep.choose_lt (α := Nat × Str) (n := len) (p := fun i t => w.cell? ⟨b, off + i * 2, none⟩ = some (.int .u8 t.1) ∧ w.cell? ⟨b, off + i * 2 + 1, none⟩ = some (Sv t.2) ∧ t.1 ≤ 255 ∧ t.2.length ≤ maxLen) (fun i hi => by
    obtain ⟨cs, n, d, hl, hcell, ht⟩ := hx i hi
    have c5 : Yblm.prog.cellsOf 5 = 1 := by kernel_rfl
    have c9 : Yblm.prog.cellsOf 9 = 1 := by kernel_rfl
    obtain ⟨m0, y0, h0⟩ := came_field Yblm.underlying91 ht 0 5 0 1 rfl c5
    obtain ⟨m1, y1, h1⟩ := came_field Yblm.underlying91 ht 1 9 1 1 rfl c9
    obtain ⟨z0, e0, w0⟩ := came_int Yblm.underlying5 h0
    obtain ⟨z1, e1, hz1⟩ := came_string Yblm.underlying9 h1
    have b0 := bounds_u8 w0
    have g0 : cs[0]? = some (.int .u8 z0) := by have := congrArg (·[0]?) e0; simpa [List.getElem?_take, List.getElem?_drop] using this
    have g1 : cs[1]? = some (.string z1) := by have := congrArg (·[0]?) e1; simpa [List.getElem?_take, List.getElem?_drop] using this
    refine ⟨(z0.toNat, z1.data.toList), ?_, ?_, by simp; omega, by simpa using hz1⟩
    · have := hcell 0 _ g0; simpa [Int.toNat_of_nonneg b0.1] using this
    · have := hcell 1 _ g1; simpa using this)
  have hg : ∀ i, i < len → ((List.range len).map f).getD i (0, []) = f i := fun i hi => by simp [List.getD, hi]
  refine ⟨b, off, (List.range len).map f, fun _ => ha, ⟨fun _ => hb, fun i hi => ?_, fun i hi => ?_, fun i hi => ?_, fun i hi => ?_⟩⟩
  · rw [hg i hi]; exact (hf i hi).1
  · rw [hg i hi]; exact (hf i hi).2.1
  · rw [hg i hi]; exact (hf i hi).2.2.1
  · rw [hg i hi]; exact (hf i hi).2.2.2

set_option maxRecDepth 100000 in
theorem lifted (os : Os) (started : os.Started) (H : Type) (enc : TypeId × Value → H) :
    ReturnsInHanded {} Yblm.checked os 13 .any (Rows.lawS930010HListingSpec.pre6 enc Yblm.prog Yblm.f13 Rows.lawS930010HListingRow.domain false) (Rows.lawS930010HListingSpec.post enc Yblm.prog Yblm.f13 false true false false) := by
  refine returnsInHanded_of_change (C := Yblm.checked) own started (by kernel_rfl) Yblm.func13
    (ChangeSpec.witness6 (enc := enc) (C := Yblm.checked) false ⟨#[], #[.slice none 0 0], []⟩ 8 (by kernel_rfl) (by kernel_rfl) (by kernel_rfl) (by kernel_rfl)) ?_
  intro W base args ds gs before hval0 hW hcnd _
  have hval : ∀ (j : Nat) t v, Yblm.f13.params[j]? = some t → args[j]? = some v → Value.okWide Yblm.prog W .any base t v := hval0
  have hW' := hW
  obtain ⟨p, q, hA0, hV, rfl, hfz, hnd⟩ := hW
  have hA : DataW.TrodAll enc Yblm.prog W 0 (fun _ => true) true Yblm.f13.params.toList args.toList ds p := hA0
  rw [Yblm.params13] at hA hval
  obtain ⟨v0, vs0, d0, ds0, p0, q0, hargs, rfl, rfl, h0, r0⟩ := trodAll_cons hA
  obtain ⟨rfl, rfl, rfl⟩ := trodAll_nil r0
  obtain rfl : args = #[v0] := by cases args; simp_all
  obtain ⟨rfl, rfl⟩ := trodVars_none hV
  have o0 := hval 0 74 v0 rfl rfl
  have k0 := h0
  have lt0 : ∀ x ∈ p0, x.block < W.heap.size := by obtain ⟨m, hm⟩ := k0; exact DataW.trod_lt m _ _ _ hm
  clear hA0 hval0 hval
  obtain ⟨a0, len0, cap0, rfl⟩ := okWide_slice Yblm.underlying74 o0
  obtain ⟨b, off, S, ha, hS⟩ := jops_of h0
  have main : Calls Yblm.prog 13 #[.slice a0 len0 cap0] W fun e w' => e = .returned (.bool true) ∧ Below W.heap.size W w' := hlisting_walk a0 b off len0 cap0 S W ha hS
  refine main.mono fun e W' ⟨he, bel⟩ => ?_
  subst he
  exact ⟨_, rfl, _, _, _, [], _, [], hW', trodAll_mk1 (shut_bool Yblm.underlying4 _), (trodAll_cons_mk (Below.trod laidOut (by kernel_rfl) (of_decide_eq_true (by kernel_rfl)) k0 bel lt0) trodAll_mk0), rfl, bel.frame _, fun h => by cases h⟩

theorem over : Rows.lawS930010HListingRow.holds Yblm.pinned (OpenSpec.ofChange Rows.lawS930010HListingSpec) :=
  OpenClaim.holds_of_wide 13 Yblm.f13 rfl rfl rfl rfl rfl rfl rfl ⟨rfl, rfl, rfl, rfl, rfl⟩ rfl rfl rfl rfl rfl (by kernel_rfl) Yblm.func13 (by kernel_rfl)
    (of_decide_eq_true (by kernel_rfl)) (by unfold Func.isWrapper; first | (rw [if_pos (by decide +kernel)]; kernel_rfl) | (rw [if_neg (by decide +kernel)]; exact ⟨rfl, rfl⟩))
    (fun os started H enc _ => lifted os started H enc)

end Go.Proofs.Ymbrbl.lawS930010HListing
namespace Go.Proofs.Ymbrbl
/-- THE STATEMENT. -/
theorem lawS930010HListing_proved : Rows.LawS930010HListingSaid := lawS930010HListing.over
end Go.Proofs.Ymbrbl
