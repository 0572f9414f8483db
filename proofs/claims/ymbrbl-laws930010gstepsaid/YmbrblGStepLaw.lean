/-
  LawS930010GStep: the arguments opened; the row. Own text (the frame after the guide's shell).
-/
import Derived.Test.YmbrblGStep
import Derived.Test.YmbrblArgs2
namespace Go.Proofs.Ymbrbl.lawS930010GStep
open Go.ChangeShapes Go.WideShapes Go.ChangeAt Go.RowKit
open Go.ChangeMaps (open_string shut_string)

theorem strs_of {H : Type} {enc : TypeId × Value → H} {w : World} {a : Option Addr} {len cap : Nat} {x : DataW H × List MemPlace}
    (h : ∃ fuel, DataW.trod enc Yblm.prog w 0 (fun _ => true) true fuel 45 (Value.slice a len cap).cells.toList = some x) :
    ∃ b off ss, ss.length = len ∧ (0 < len → a = some ⟨b, off, none⟩) ∧ Cells w b off ss := by
  obtain ⟨_, h0 | ⟨b, off, ha, hb, hx⟩⟩ := came_slice 1 (by kernel_rfl) (by decide) Yblm.underlying45 h
  · subst h0
    exact ⟨0, 0, [], rfl, fun h => absurd h (by omega), ⟨fun h => absurd h (by simp), fun i h => absurd h (by simp)⟩⟩
  obtain ⟨f, hf⟩ := Deep.choose_lt (α := Str) (n := len) (p := fun i t => w.cell? ⟨b, off + i, none⟩ = some (Sv t)) (fun i hi => by
    obtain ⟨cs, n, d, _, hcell, ht⟩ := hx i hi
    obtain ⟨s, hs, _⟩ := came_string Yblm.underlying9 ht
    refine ⟨s.data.toList, ?_⟩
    have := hcell 0 (.string s) (by rw [hs]; rfl)
    simpa using this)
  refine ⟨b, off, (List.range len).map f, by simp, fun _ => ha, ⟨fun _ => hb, fun i hi => ?_⟩⟩
  have hi : i < len := by simpa using hi
  rw [hf i hi]
  simp [List.getD, hi]

set_option maxRecDepth 100000 in
theorem lifted (os : Os) (started : os.Started) (H : Type) (enc : TypeId × Value → H) :
    ReturnsInHanded {} Yblm.checked os 9 .any (Rows.lawS930010GStepSpec.pre6 enc Yblm.prog Yblm.f9 Rows.lawS930010GStepRow.domain false) (Rows.lawS930010GStepSpec.post enc Yblm.prog Yblm.f9 false true false false) := by
  refine returnsInHanded_of_change (C := Yblm.checked) own started (by kernel_rfl) Yblm.func9
    (ChangeSpec.witness6 (enc := enc) (C := Yblm.checked) false ⟨#[], #[.bool false, .agg (Array.replicate 26 (.bool false)), .agg (Array.replicate 26 (.bool false)), .agg (Array.replicate 26 (.int .i64 0)), .string ByteArray.empty, .slice none 0 0], []⟩ 8 (by kernel_rfl) (by kernel_rfl) (by kernel_rfl) (by kernel_rfl)) ?_
  intro W base args ds gs before hval0 hW hcnd _
  have hval : ∀ (j : Nat) t v, Yblm.f9.params[j]? = some t → args[j]? = some v → Value.okWide Yblm.prog W .any base t v := hval0
  have hW' := hW
  obtain ⟨p, q, hA0, hV, rfl, hfz, hnd⟩ := hW
  have hA : DataW.TrodAll enc Yblm.prog W 0 (fun _ => true) true Yblm.f9.params.toList args.toList ds p := hA0
  rw [Yblm.params9] at hA hval
  obtain ⟨v0, vs0, d0, ds0, p0, q0, hargs, rfl, rfl, h0, r0⟩ := trodAll_cons hA
  obtain ⟨v1, vs1, d1, ds1, p1, q1, rfl, rfl, rfl, h1, r1⟩ := trodAll_cons r0
  obtain ⟨v2, vs2, d2, ds2, p2, q2, rfl, rfl, rfl, h2, r2⟩ := trodAll_cons r1
  obtain ⟨v3, vs3, d3, ds3, p3, q3, rfl, rfl, rfl, h3, r3⟩ := trodAll_cons r2
  obtain ⟨v4, vs4, d4, ds4, p4, q4, rfl, rfl, rfl, h4, r4⟩ := trodAll_cons r3
  obtain ⟨v5, vs5, d5, ds5, p5, q5, rfl, rfl, rfl, h5, r5⟩ := trodAll_cons r4
  obtain ⟨rfl, rfl, rfl⟩ := trodAll_nil r5
  obtain rfl : args = #[v0, v1, v2, v3, v4, v5] := by cases args; simp_all
  obtain ⟨rfl, rfl⟩ := trodVars_none hV
  have o0 := hval 0 4 v0 rfl rfl
  have k0 := h0
  have lt0 : ∀ x ∈ p0, x.block < W.heap.size := by obtain ⟨m, hm⟩ := k0; exact DataW.trod_lt m _ _ _ hm
  have o1 := hval 1 69 v1 rfl rfl
  have k1 := h1
  have lt1 : ∀ x ∈ p1, x.block < W.heap.size := by obtain ⟨m, hm⟩ := k1; exact DataW.trod_lt m _ _ _ hm
  have o2 := hval 2 69 v2 rfl rfl
  have k2 := h2
  have lt2 : ∀ x ∈ p2, x.block < W.heap.size := by obtain ⟨m, hm⟩ := k2; exact DataW.trod_lt m _ _ _ hm
  have o3 := hval 3 24 v3 rfl rfl
  have k3 := h3
  have lt3 : ∀ x ∈ p3, x.block < W.heap.size := by obtain ⟨m, hm⟩ := k3; exact DataW.trod_lt m _ _ _ hm
  have o4 := hval 4 9 v4 rfl rfl
  have k4 := h4
  have lt4 : ∀ x ∈ p4, x.block < W.heap.size := by obtain ⟨m, hm⟩ := k4; exact DataW.trod_lt m _ _ _ hm
  have o5 := hval 5 45 v5 rfl rfl
  have k5 := h5
  have lt5 : ∀ x ∈ p5, x.block < W.heap.size := by obtain ⟨m, hm⟩ := k5; exact DataW.trod_lt m _ _ _ hm
  clear hA0 hval0 hval
  obtain ⟨root, rfl⟩ := okWide_bool Yblm.underlying4 o0
  obtain ⟨hs, e1, rfl⟩ := open_array Value.bool Yblm.underlying69 (by kernel_rfl) (by kernel_rfl) (fun m c y hy => came_bool Yblm.underlying4 hy) o1 h1
  obtain ⟨ws, e2, rfl⟩ := open_array Value.bool Yblm.underlying69 (by kernel_rfl) (by kernel_rfl) (fun m c y hy => came_bool Yblm.underlying4 hy) o2 h2
  obtain ⟨bs, e3, rfl⟩ := open_array (Value.int .i64) Yblm.underlying24 (by kernel_rfl) (by kernel_rfl) (fun m c y hy => by obtain ⟨z, hz, _⟩ := came_int Yblm.underlying3 hy; exact ⟨z, hz⟩) o3 h3
  obtain ⟨label, rfl⟩ := okWide_string Yblm.underlying9 o4
  obtain ⟨a5, len5, cap5, rfl⟩ := okWide_slice Yblm.underlying45 o5
  obtain ⟨b, off, ss, e5, ha, hC⟩ := strs_of h5
  have main : Calls Yblm.prog 9 #[.bool root, .agg (hs.map .bool).toArray, .agg (ws.map .bool).toArray, .agg (bs.map (.int .i64)).toArray, .string label, .slice a5 len5 cap5] W fun e w' => e = .returned (.bool true) ∧ Below W.heap.size W w' := by
    by_cases hb : label.data.toList.length ≤ 1024 ∧ len5 ≤ 1024
    · exact gstep_walk root hs ws bs label.data.toList a5 b off len5 cap5 ss W hb.1 hb.2 e1 e2 e3 e5 ha hC
    · exact gstep_big root hs ws bs label.data.toList a5 len5 cap5 W (by omega)
  refine main.mono fun e W' ⟨he, bel⟩ => ?_
  subst he
  exact ⟨_, rfl, _, _, _, [], _, [], hW', trodAll_mk1 (shut_bool Yblm.underlying4 _), (trodAll_cons_mk (Below.trod laidOut (by kernel_rfl) (of_decide_eq_true (by kernel_rfl)) k0 bel lt0) (trodAll_cons_mk (Below.trod laidOut (by kernel_rfl) (of_decide_eq_true (by kernel_rfl)) k1 bel lt1) (trodAll_cons_mk (Below.trod laidOut (by kernel_rfl) (of_decide_eq_true (by kernel_rfl)) k2 bel lt2) (trodAll_cons_mk (Below.trod laidOut (by kernel_rfl) (of_decide_eq_true (by kernel_rfl)) k3 bel lt3) (trodAll_cons_mk (Below.trod laidOut (by kernel_rfl) (of_decide_eq_true (by kernel_rfl)) k4 bel lt4) (trodAll_cons_mk (Below.trod laidOut (by kernel_rfl) (of_decide_eq_true (by kernel_rfl)) k5 bel lt5) trodAll_mk0)))))), rfl, bel.frame _, fun h => by cases h⟩

theorem over : Rows.lawS930010GStepRow.holds Yblm.pinned (OpenSpec.ofChange Rows.lawS930010GStepSpec) :=
  OpenClaim.holds_of_wide 9 Yblm.f9 rfl rfl rfl rfl rfl rfl rfl ⟨rfl, rfl, rfl, rfl, rfl⟩ rfl rfl rfl rfl rfl (by kernel_rfl) Yblm.func9 (by kernel_rfl)
    (of_decide_eq_true (by kernel_rfl)) (by unfold Func.isWrapper; first | (rw [if_pos (by decide +kernel)]; kernel_rfl) | (rw [if_neg (by decide +kernel)]; exact ⟨rfl, rfl⟩))
    (fun os started H enc _ => lifted os started H enc)

end Go.Proofs.Ymbrbl.lawS930010GStep
namespace Go.Proofs.Ymbrbl
/-- THE STATEMENT. -/
theorem lawS930010GStep_proved : Rows.LawS930010GStepSaid := lawS930010GStep.over
end Go.Proofs.Ymbrbl
