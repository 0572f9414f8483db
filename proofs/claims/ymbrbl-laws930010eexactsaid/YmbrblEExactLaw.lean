/-
  LawS930010EExact: the arguments opened; the row. Own text (the frame after the guide's shell).
-/
import Derived.Test.YmbrblEExact
import Derived.Test.YmbrblArgs2
namespace Go.Proofs.Ymbrbl.lawS930010EExact
open Go.ChangeShapes Go.WideShapes Go.ChangeAt Go.RowKit
open Go.ChangeMaps (open_string shut_string)

theorem tbl_of {H : Type} {enc : TypeId × Value → H} {w : World} {a : Option Addr} {len cap : Nat} {x : DataW H × List MemPlace}
    (h : ∃ fuel, DataW.trod enc Yblm.prog w 0 (fun _ => true) true fuel 22 (Value.slice a len cap).cells.toList = some x) :
    ∃ b off TB, TB.length = len * 26 ∧ (0 < len → a = some ⟨b, off, none⟩) ∧ Tbl w b off len TB := by
  obtain ⟨_, h0 | ⟨b, off, ha, hb, hx⟩⟩ := came_slice 26 (by kernel_rfl) (by decide) Yblm.underlying22 h
  · subst h0
    exact ⟨0, 0, [], rfl, fun h => absurd h (by omega), ⟨fun h => absurd h (by omega), fun i h => absurd h (by omega)⟩⟩
  obtain ⟨f, hf⟩ := Deep.choose_lt (α := List Int) (n := len) (p := fun i t => t.length = 26 ∧ ∀ j z, t[j]? = some z → w.cell? ⟨b, off + i * 26 + j, none⟩ = some (.int .i64 z)) (fun i hi => by
    obtain ⟨cs, n, d, _, hcell, ht⟩ := hx i hi
    obtain ⟨zs, hz, e0⟩ := came_array (Value.int .i64) Yblm.underlying24 (by kernel_rfl) (by kernel_rfl) (fun m c y hy => by obtain ⟨z, hz, _⟩ := came_int Yblm.underlying3 hy; exact ⟨z, hz⟩) ht
    refine ⟨zs, hz, fun j y hy => hcell j _ ?_⟩
    rw [e0, List.getElem?_map, hy]
    rfl)
  refine ⟨b, off, (List.range (len * 26)).map (fun j => (f (j / 26)).getD (j % 26) 0), by simp, fun _ => ha, ⟨fun _ => hb, fun i hi j v hv => ?_⟩⟩
  obtain ⟨h26, hc⟩ := hf i hi
  simp only [row26, List.getElem?_map, List.getElem?_take, List.getElem?_drop] at hv
  by_cases hj : j < 26
  · rw [if_pos hj, List.getElem?_range (by omega)] at hv
    simp only [Option.map_some, Option.some.injEq] at hv
    rw [show (i * 26 + j) / 26 = i by omega, show (i * 26 + j) % 26 = j by omega] at hv
    rw [← hv]
    refine hc j _ ?_
    rw [List.getD_eq_getElem?_getD, List.getElem?_eq_getElem (by omega)]
    rfl
  · rw [if_neg hj] at hv; cases hv

set_option maxRecDepth 100000 in
theorem lifted (os : Os) (started : os.Started) (H : Type) (enc : TypeId × Value → H) :
    ReturnsInHanded {} Yblm.checked os 3 .any (Rows.lawS930010EExactSpec.pre6 enc Yblm.prog Yblm.f3 Rows.lawS930010EExactRow.domain false) (Rows.lawS930010EExactSpec.post enc Yblm.prog Yblm.f3 false true false false) := by
  refine returnsInHanded_of_change (C := Yblm.checked) own started (by kernel_rfl) Yblm.func3
    (ChangeSpec.witness6 (enc := enc) (C := Yblm.checked) false ⟨#[], #[.slice none 0 0, .int .u64 0, .int .u8 0, .bool false], []⟩ 8 (by kernel_rfl) (by kernel_rfl) (by kernel_rfl) (by kernel_rfl)) ?_
  intro W base args ds gs before hval0 hW hcnd _
  have hval : ∀ (j : Nat) t v, Yblm.f3.params[j]? = some t → args[j]? = some v → Value.okWide Yblm.prog W .any base t v := hval0
  have hW' := hW
  obtain ⟨p, q, hA0, hV, rfl, hfz, hnd⟩ := hW
  have hA : DataW.TrodAll enc Yblm.prog W 0 (fun _ => true) true Yblm.f3.params.toList args.toList ds p := hA0
  rw [Yblm.params3] at hA hval
  obtain ⟨v0, vs0, d0, ds0, p0, q0, hargs, rfl, rfl, h0, r0⟩ := trodAll_cons hA
  obtain ⟨v1, vs1, d1, ds1, p1, q1, rfl, rfl, rfl, h1, r1⟩ := trodAll_cons r0
  obtain ⟨v2, vs2, d2, ds2, p2, q2, rfl, rfl, rfl, h2, r2⟩ := trodAll_cons r1
  obtain ⟨v3, vs3, d3, ds3, p3, q3, rfl, rfl, rfl, h3, r3⟩ := trodAll_cons r2
  obtain ⟨rfl, rfl, rfl⟩ := trodAll_nil r3
  obtain rfl : args = #[v0, v1, v2, v3] := by cases args; simp_all
  obtain ⟨rfl, rfl⟩ := trodVars_none hV
  have o0 := hval 0 22 v0 rfl rfl
  have k0 := h0
  have lt0 : ∀ x ∈ p0, x.block < W.heap.size := by obtain ⟨m, hm⟩ := k0; exact DataW.trod_lt m _ _ _ hm
  have o1 := hval 1 23 v1 rfl rfl
  have k1 := h1
  have lt1 : ∀ x ∈ p1, x.block < W.heap.size := by obtain ⟨m, hm⟩ := k1; exact DataW.trod_lt m _ _ _ hm
  have o2 := hval 2 5 v2 rfl rfl
  have k2 := h2
  have lt2 : ∀ x ∈ p2, x.block < W.heap.size := by obtain ⟨m, hm⟩ := k2; exact DataW.trod_lt m _ _ _ hm
  have o3 := hval 3 4 v3 rfl rfl
  have k3 := h3
  have lt3 : ∀ x ∈ p3, x.block < W.heap.size := by obtain ⟨m, hm⟩ := k3; exact DataW.trod_lt m _ _ _ hm
  clear hA0 hval0 hval
  obtain ⟨a0, len0, cap0, rfl⟩ := okWide_slice Yblm.underlying22 o0
  obtain ⟨sel, rfl, _, _, w1⟩ := open_int Yblm.underlying23 o1 h1
  obtain ⟨raw, rfl⟩ := okWide_int Yblm.underlying5 o2
  obtain ⟨high, rfl⟩ := okWide_bool Yblm.underlying4 o3
  have b1 := bounds_u64 w1
  obtain ⟨b, off, TB, e1, ha, hT⟩ := tbl_of h0
  have main : Calls Yblm.prog 3 #[.slice a0 len0 cap0, .int .u64 sel, .int .u8 raw, .bool high] W fun e w' => e = .returned (.bool true) ∧ Below W.heap.size W w' := by
    by_cases hlen : len0 ≤ 1024
    · exact eex_some a0 b off len0 cap0 ha sel raw high TB W hlen b1.1 (by omega) e1 hT
    · exact eex_zero a0 len0 cap0 sel raw high (by omega) W
  refine main.mono fun e W' ⟨he, bel⟩ => ?_
  subst he
  exact ⟨_, rfl, _, _, _, [], _, [], hW', trodAll_mk1 (shut_bool Yblm.underlying4 _), (trodAll_cons_mk (Below.trod laidOut (by kernel_rfl) (of_decide_eq_true (by kernel_rfl)) k0 bel lt0) (trodAll_cons_mk (Below.trod laidOut (by kernel_rfl) (of_decide_eq_true (by kernel_rfl)) k1 bel lt1) (trodAll_cons_mk (Below.trod laidOut (by kernel_rfl) (of_decide_eq_true (by kernel_rfl)) k2 bel lt2) (trodAll_cons_mk (Below.trod laidOut (by kernel_rfl) (of_decide_eq_true (by kernel_rfl)) k3 bel lt3) trodAll_mk0)))), rfl, bel.frame _, fun h => by cases h⟩

theorem over : Rows.lawS930010EExactRow.holds Yblm.pinned (OpenSpec.ofChange Rows.lawS930010EExactSpec) :=
  OpenClaim.holds_of_wide 3 Yblm.f3 rfl rfl rfl rfl rfl rfl rfl ⟨rfl, rfl, rfl, rfl, rfl⟩ rfl rfl rfl rfl rfl (by kernel_rfl) Yblm.func3 (by kernel_rfl)
    (of_decide_eq_true (by kernel_rfl)) (by unfold Func.isWrapper; first | (rw [if_pos (by decide +kernel)]; kernel_rfl) | (rw [if_neg (by decide +kernel)]; exact ⟨rfl, rfl⟩))
    (fun os started H enc _ => lifted os started H enc)

end Go.Proofs.Ymbrbl.lawS930010EExact
namespace Go.Proofs.Ymbrbl
/-- THE STATEMENT. -/
theorem lawS930010EExact_proved : Rows.LawS930010EExactSaid := lawS930010EExact.over
end Go.Proofs.Ymbrbl
