/-
  LawS930010AAppends: the nodes that came in opened; the row. Own text (the frame after the guide's shell).
-/
import Derived.Test.YmbrbkAAppends
import Derived.Test.YmbrbkArgs
namespace Go.Proofs.Ymbrbk.lawAAppends
open Go.ChangeShapes Go.WideShapes Go.ChangeAt Go.RowKit

section
variable {H : Type} {enc : TypeId × Value → H} {w : World}
theorem node_of {n : Nat} {cs : List Value} {d : DataW H × List MemPlace} (h : DataW.trod enc Ybkm.prog w 0 (fun _ => true) true n 29 cs = some d) :
    ∃ (zs : List Int) (b : Bool) (z : Int), zs.length = 26 ∧ cs.take 26 = zs.map (.int .i64) ∧ cs[26]? = some (.bool b) ∧ cs[27]? = some (.int .i64 z) := by
  have c27 : Ybkm.prog.cellsOf 27 = 26 := by kernel_rfl
  have c4 : Ybkm.prog.cellsOf 4 = 1 := by kernel_rfl
  have c3 : Ybkm.prog.cellsOf 3 = 1 := by kernel_rfl
  obtain ⟨m0, y0, h0⟩ := came_field Ybkm.underlying29 h 0 27 0 26 rfl c27
  obtain ⟨m1, y1, h1⟩ := came_field Ybkm.underlying29 h 1 4 26 1 rfl c4
  obtain ⟨m2, y2, h2⟩ := came_field Ybkm.underlying29 h 2 3 27 1 rfl c3
  rw [List.drop_zero] at h0
  obtain ⟨zs, hz, e0⟩ := came_array (Value.int .i64) Ybkm.underlying27 c3 c27 (fun m c y hy => by obtain ⟨z, hz, _⟩ := came_int Ybkm.underlying3 hy; exact ⟨z, hz⟩) h0
  obtain ⟨b, e1⟩ := came_bool Ybkm.underlying4 h1
  obtain ⟨z, e2, _⟩ := came_int Ybkm.underlying3 h2
  refine ⟨zs, b, z, hz, e0, ?_, ?_⟩
  · have := congrArg (·[0]?) e1
    simpa [List.getElem?_take, List.getElem?_drop] using this
  · have := congrArg (·[0]?) e2
    simpa [List.getElem?_take, List.getElem?_drop] using this

theorem nodes_of {a : Option Addr} {len cap : Nat} {x : DataW H × List MemPlace}
    (h : ∃ fuel, DataW.trod enc Ybkm.prog w 0 (fun _ => true) true fuel 22 (Value.slice a len cap).cells.toList = some x) :
    ∃ b off NX WD BL, NX.length = len * 26 ∧ WD.length = len ∧ BL.length = len ∧ (0 < len → a = some ⟨b, off, none⟩) ∧ Nodes w b off len NX WD BL := by
  obtain ⟨_, h0 | ⟨b, off, ha, hb, hx⟩⟩ := came_slice 28 (by kernel_rfl) (by decide) Ybkm.underlying22 h
  · subst h0
    exact ⟨0, 0, [], [], [], rfl, rfl, rfl, fun h => absurd h (by omega), ⟨fun h => absurd h (by omega), fun i h => absurd h (by omega), fun i h => absurd h (by omega), fun i h => absurd h (by omega)⟩⟩
  obtain ⟨f, hf⟩ := Deep.choose_lt (α := List Int × Bool × Int) (n := len) (p := fun i t => t.1.length = 26 ∧ (∀ j z, t.1[j]? = some z → w.cell? ⟨b, off + i * 28 + j, none⟩ = some (.int .i64 z)) ∧
      w.cell? ⟨b, off + i * 28 + 26, none⟩ = some (.bool t.2.1) ∧ w.cell? ⟨b, off + i * 28 + 27, none⟩ = some (.int .i64 t.2.2)) (fun i hi => by
    obtain ⟨cs, n, d, _, hcell, ht⟩ := hx i hi
    obtain ⟨zs, bb, z, hz, e0, e1, e2⟩ := node_of ht
    refine ⟨(zs, bb, z), hz, fun j y hy => hcell j _ ?_, hcell 26 _ e1, hcell 27 _ e2⟩
    have hj : j < 26 := by rw [← hz]; exact (List.getElem?_eq_some_iff.1 hy).1
    have := congrArg (·[j]?) e0
    simp only [List.getElem?_take, if_pos hj, List.getElem?_map] at this
    rw [this, hy]
    rfl)
  refine ⟨b, off, (List.range (len * 26)).map (fun j => (f (j / 26)).1.getD (j % 26) 0), (List.range len).map (fun i => (f i).2.1), (List.range len).map (fun i => (f i).2.2), by simp, by simp, by simp, fun _ => ha, ⟨fun _ => hb, fun i hi j v hv => ?_, fun i hi => ?_, fun i hi => ?_⟩⟩
  · obtain ⟨h26, hc, _, _⟩ := hf i hi
    simp only [List.getElem?_map, List.getElem?_take, List.getElem?_drop] at hv
    by_cases hj : j < 26
    · rw [if_pos hj, List.getElem?_range (by omega)] at hv
      simp only [Option.map_some, Option.some.injEq] at hv
      rw [show (i * 26 + j) / 26 = i by omega, show (i * 26 + j) % 26 = j by omega] at hv
      rw [← hv]
      refine hc j _ ?_
      rw [List.getD_eq_getElem?_getD, List.getElem?_eq_getElem (by omega)]
      rfl
    · rw [if_neg hj] at hv; cases hv
  · obtain ⟨_, _, hc, _⟩ := hf i hi
    rw [hc]; simp [List.getD, hi]
  · obtain ⟨_, _, _, hc⟩ := hf i hi
    rw [hc]; simp [List.getD, hi]
end

set_option maxRecDepth 100000 in
theorem lifted (os : Os) (started : os.Started) (H : Type) (enc : TypeId × Value → H) :
    ReturnsInHanded {} Ybkm.checked os 3 .any (Rows.lawS930010AAppendsSpec.pre6 enc Ybkm.prog Ybkm.f3 Rows.lawS930010AAppendsRow.domain false) (Rows.lawS930010AAppendsSpec.post enc Ybkm.prog Ybkm.f3 false true false false) := by
  refine returnsInHanded_of_change (C := Ybkm.checked) own started (by kernel_rfl) Ybkm.func3
    (ChangeSpec.witness6 (enc := enc) (C := Ybkm.checked) false ⟨#[], #[.slice none 0 0, .int .u16 0], []⟩ 8 (by kernel_rfl) (by kernel_rfl) (by kernel_rfl) (by kernel_rfl)) ?_
  intro W base args ds gs before hval0 hW hcnd _
  have hval : ∀ (j : Nat) t v, Ybkm.f3.params[j]? = some t → args[j]? = some v → Value.okWide Ybkm.prog W .any base t v := hval0
  have hW' := hW
  obtain ⟨p, q, hA0, hV, rfl, hfz, hnd⟩ := hW
  have hA : DataW.TrodAll enc Ybkm.prog W 0 (fun _ => true) true Ybkm.f3.params.toList args.toList ds p := hA0
  rw [Ybkm.params3] at hA hval
  obtain ⟨v0, vs0, d0, ds0, p0, q0, hargs, rfl, rfl, h0, r0⟩ := trodAll_cons hA
  obtain ⟨v1, vs1, d1, ds1, p1, q1, rfl, rfl, rfl, h1, r1⟩ := trodAll_cons r0
  obtain ⟨rfl, rfl, rfl⟩ := trodAll_nil r1
  obtain rfl : args = #[v0, v1] := by cases args; simp_all
  obtain ⟨rfl, rfl⟩ := trodVars_none hV
  obtain ⟨a0, len0, cap0, rfl⟩ := okWide_slice Ybkm.underlying22 (hval 0 22 v0 rfl rfl)
  have k0 := h0
  have lt0 : ∀ x ∈ p0, x.block < W.heap.size := by obtain ⟨m, hm⟩ := k0; exact DataW.trod_lt m _ _ _ hm
  obtain ⟨a1, rfl, rfl, rfl, w1⟩ := open_int Ybkm.underlying23 (hval 1 23 v1 rfl rfl) h1
  have b1 := bounds_u16 w1
  clear hA0 hval0
  obtain ⟨b, off, NX, WD, BL, e1, e2, e3, ha, hN⟩ := nodes_of h0
  have main : Calls Ybkm.prog 3 #[.slice a0 len0 cap0, .int .u16 a1] W fun e w' => e = .returned (.bool true) ∧ Below W.heap.size W w' := by
    by_cases hlen : len0 ≤ 1024
    · exact aapp_some a0 b off len0 cap0 ha a1 NX WD BL W hlen b1.1 b1.2 e1 e2 e3 hN
    · exact aapp_zero a0 len0 cap0 a1 (by omega) W
  refine main.mono fun e W' ⟨he, bel⟩ => ?_
  subst he
  exact ⟨_, rfl, _, _, _, [], _, [], hW', trodAll_mk1 (shut_bool Ybkm.underlying4 _), (trodAll_cons_mk (Below.trod laidOut (by kernel_rfl) (of_decide_eq_true (by kernel_rfl)) k0 bel lt0) (trodAll_cons_mk (shut_int Ybkm.underlying23 w1) trodAll_mk0)), rfl, bel.frame _, fun h => by cases h⟩

theorem over : Rows.lawS930010AAppendsRow.holds Ybkm.pinned (OpenSpec.ofChange Rows.lawS930010AAppendsSpec) :=
  OpenClaim.holds_of_wide 3 Ybkm.f3 rfl rfl rfl rfl rfl rfl rfl ⟨rfl, rfl, rfl, rfl, rfl⟩ rfl rfl rfl rfl rfl (by kernel_rfl) Ybkm.func3 (by kernel_rfl)
    (of_decide_eq_true (by kernel_rfl)) (by unfold Func.isWrapper; first | (rw [if_pos (by decide +kernel)]; kernel_rfl) | (rw [if_neg (by decide +kernel)]; exact ⟨rfl, rfl⟩))
    (fun os started H enc _ => lifted os started H enc)

end Go.Proofs.Ymbrbk.lawAAppends
namespace Go.Proofs.Ymbrbk
/-- THE STATEMENT. -/
theorem lawS930010AAppends_proved : Rows.LawS930010AAppendsSaid := lawAAppends.over
end Go.Proofs.Ymbrbk
