/-
  LawS930010BRow: the arguments opened; the row. Own text (the frame after the guide's shell).
-/
import Derived.Test.YmbrbkBRow
import Derived.Test.YmbrbkArgs2
namespace Go.Proofs.Ymbrbk.lawS930010BRow
open Go.ChangeShapes Go.WideShapes Go.ChangeAt Go.RowKit
open Go.ChangeMaps (open_string shut_string)

set_option maxRecDepth 100000 in
theorem lifted (os : Os) (started : os.Started) (H : Type) (enc : TypeId × Value → H) :
    ReturnsInHanded {} Ybkm.checked os 8 .any (Rows.lawS930010BRowSpec.pre6 enc Ybkm.prog Ybkm.f8 Rows.lawS930010BRowRow.domain false) (Rows.lawS930010BRowSpec.post enc Ybkm.prog Ybkm.f8 false true false false) := by
  refine returnsInHanded_of_change (C := Ybkm.checked) own started (by kernel_rfl) Ybkm.func8
    (ChangeSpec.witness6 (enc := enc) (C := Ybkm.checked) false ⟨#[], #[.agg (Array.replicate 26 (.bool false)), .agg (Array.replicate 26 (.int .i64 0)), .int .i64 0], []⟩ 8 (by kernel_rfl) (by kernel_rfl) (by kernel_rfl) (by kernel_rfl)) ?_
  intro W base args ds gs before hval0 hW hcnd _
  have hval : ∀ (j : Nat) t v, Ybkm.f8.params[j]? = some t → args[j]? = some v → Value.okWide Ybkm.prog W .any base t v := hval0
  have hW' := hW
  obtain ⟨p, q, hA0, hV, rfl, hfz, hnd⟩ := hW
  have hA : DataW.TrodAll enc Ybkm.prog W 0 (fun _ => true) true Ybkm.f8.params.toList args.toList ds p := hA0
  rw [Ybkm.params8] at hA hval
  obtain ⟨v0, vs0, d0, ds0, p0, q0, hargs, rfl, rfl, h0, r0⟩ := trodAll_cons hA
  obtain ⟨v1, vs1, d1, ds1, p1, q1, rfl, rfl, rfl, h1, r1⟩ := trodAll_cons r0
  obtain ⟨v2, vs2, d2, ds2, p2, q2, rfl, rfl, rfl, h2, r2⟩ := trodAll_cons r1
  obtain ⟨rfl, rfl, rfl⟩ := trodAll_nil r2
  obtain rfl : args = #[v0, v1, v2] := by cases args; simp_all
  obtain ⟨rfl, rfl⟩ := trodVars_none hV
  have o0 := hval 0 50 v0 rfl rfl
  have k0 := h0
  have lt0 : ∀ x ∈ p0, x.block < W.heap.size := by obtain ⟨m, hm⟩ := k0; exact DataW.trod_lt m _ _ _ hm
  have o1 := hval 1 27 v1 rfl rfl
  have k1 := h1
  have lt1 : ∀ x ∈ p1, x.block < W.heap.size := by obtain ⟨m, hm⟩ := k1; exact DataW.trod_lt m _ _ _ hm
  have o2 := hval 2 3 v2 rfl rfl
  have k2 := h2
  have lt2 : ∀ x ∈ p2, x.block < W.heap.size := by obtain ⟨m, hm⟩ := k2; exact DataW.trod_lt m _ _ _ hm
  clear hA0 hval0 hval
  obtain ⟨hs, e0, rfl⟩ := open_array Value.bool Ybkm.underlying50 (by kernel_rfl) (by kernel_rfl) (fun m c y hy => came_bool Ybkm.underlying4 hy) o0 h0
  obtain ⟨cs, e1, rfl⟩ := open_array (Value.int .i64) Ybkm.underlying27 (by kernel_rfl) (by kernel_rfl) (fun m c y hy => by obtain ⟨z, hz, _⟩ := came_int Ybkm.underlying3 hy; exact ⟨z, hz⟩) o1 h1
  obtain ⟨root, rfl⟩ := okWide_int Ybkm.underlying3 o2
  have main : Calls Ybkm.prog 8 #[.agg (hs.map .bool).toArray, .agg (cs.map (.int .i64)).toArray, .int .i64 root] W fun e w' => e = .returned (.bool true) ∧ Below W.heap.size W w' := brow_walk hs cs root e0 e1 W
  refine main.mono fun e W' ⟨he, bel⟩ => ?_
  subst he
  exact ⟨_, rfl, _, _, _, [], _, [], hW', trodAll_mk1 (shut_bool Ybkm.underlying4 _), (trodAll_cons_mk (Below.trod laidOut (by kernel_rfl) (of_decide_eq_true (by kernel_rfl)) k0 bel lt0) (trodAll_cons_mk (Below.trod laidOut (by kernel_rfl) (of_decide_eq_true (by kernel_rfl)) k1 bel lt1) (trodAll_cons_mk (Below.trod laidOut (by kernel_rfl) (of_decide_eq_true (by kernel_rfl)) k2 bel lt2) trodAll_mk0))), rfl, bel.frame _, fun h => by cases h⟩

theorem over : Rows.lawS930010BRowRow.holds Ybkm.pinned (OpenSpec.ofChange Rows.lawS930010BRowSpec) :=
  OpenClaim.holds_of_wide 8 Ybkm.f8 rfl rfl rfl rfl rfl rfl rfl ⟨rfl, rfl, rfl, rfl, rfl⟩ rfl rfl rfl rfl rfl (by kernel_rfl) Ybkm.func8 (by kernel_rfl)
    (of_decide_eq_true (by kernel_rfl)) (by unfold Func.isWrapper; first | (rw [if_pos (by decide +kernel)]; kernel_rfl) | (rw [if_neg (by decide +kernel)]; exact ⟨rfl, rfl⟩))
    (fun os started H enc _ => lifted os started H enc)

end Go.Proofs.Ymbrbk.lawS930010BRow
namespace Go.Proofs.Ymbrbk
/-- THE STATEMENT. -/
theorem lawS930010BRow_proved : Rows.LawS930010BRowSaid := lawS930010BRow.over
end Go.Proofs.Ymbrbk
