/-
  LawS930010LFrame: the arguments opened; the row. Own text (the frame after the guide's shell).
-/
import Derived.Test.YmbrbmLFrame
import Derived.Test.YmbrbmArgs2
namespace Go.Proofs.Ymbrbm.lawS930010LFrame
open Go.ChangeShapes Go.WideShapes Go.ChangeAt Go.RowKit
open Go.ChangeMaps (open_string shut_string)

theorem lops_of {H : Type} {enc : TypeId × Value → H} {w : World} {a : Option Addr} {len cap : Nat} {x : DataW H × List MemPlace}
    (h : ∃ fuel, DataW.trod enc Ybmm.prog w 0 (fun _ => true) true fuel 59 (Value.slice a len cap).cells.toList = some x) :
    ∃ b off S, (0 < len → a = some ⟨b, off, none⟩) ∧ OpsL w b off len S := by
  obtain ⟨_, h0 | ⟨b, off, ha, hb, hx⟩⟩ := came_slice 3 (by kernel_rfl) (by decide) Ybmm.underlying59 h
  · subst h0
    exact ⟨0, 0, [], fun h => absurd h (by omega), ⟨fun h => absurd h (by omega), fun i h => absurd h (by omega), fun i h => absurd h (by omega), fun i h => absurd h (by omega), fun i h => absurd h (by omega), fun i h => absurd h (by omega)⟩⟩
  obtain ⟨f, hf⟩ := Deep.choose_lt (α := Nat × Bool × Str) (n := len) (p := fun i t => w.cell? ⟨b, off + i * 3, none⟩ = some (.int .u8 t.1) ∧ w.cell? ⟨b, off + i * 3 + 1, none⟩ = some (.bool t.2.1) ∧ w.cell? ⟨b, off + i * 3 + 2, none⟩ = some (Sv t.2.2) ∧ t.1 ≤ 255 ∧ t.2.2.length ≤ maxLen) (fun i hi => by
    obtain ⟨cs, n, d, hl, hcell, ht⟩ := hx i hi
    have c4 : Ybmm.prog.cellsOf 4 = 1 := by kernel_rfl
    have c5 : Ybmm.prog.cellsOf 5 = 1 := by kernel_rfl
    have c9 : Ybmm.prog.cellsOf 9 = 1 := by kernel_rfl
    obtain ⟨m0, y0, h0⟩ := came_field Ybmm.underlying62 ht 0 5 0 1 rfl c5
    obtain ⟨m1, y1, h1⟩ := came_field Ybmm.underlying62 ht 1 4 1 1 rfl c4
    obtain ⟨m2, y2, h2⟩ := came_field Ybmm.underlying62 ht 2 9 2 1 rfl c9
    obtain ⟨z0, e0, w0⟩ := came_int Ybmm.underlying5 h0
    obtain ⟨z1, e1⟩ := came_bool Ybmm.underlying4 h1
    obtain ⟨z2, e2, hz2⟩ := came_string Ybmm.underlying9 h2
    have b0 := bounds_u8 w0
    have g0 : cs[0]? = some (.int .u8 z0) := by have := congrArg (·[0]?) e0; simpa [List.getElem?_take, List.getElem?_drop] using this
    have g1 : cs[1]? = some (.bool z1) := by have := congrArg (·[0]?) e1; simpa [List.getElem?_take, List.getElem?_drop] using this
    have g2 : cs[2]? = some (.string z2) := by have := congrArg (·[0]?) e2; simpa [List.getElem?_take, List.getElem?_drop] using this
    refine ⟨(z0.toNat, z1, z2.data.toList), ?_, ?_, ?_, by simp; omega, by simpa using hz2⟩
    · have := hcell 0 _ g0; simpa [Int.toNat_of_nonneg b0.1] using this
    · have := hcell 1 _ g1; simpa using this
    · have := hcell 2 _ g2; simpa using this)
  have hg : ∀ i, i < len → ((List.range len).map f).getD i (0, false, []) = f i := fun i hi => by simp [List.getD, hi]
  refine ⟨b, off, (List.range len).map f, fun _ => ha, ⟨fun _ => hb, fun i hi => ?_, fun i hi => ?_, fun i hi => ?_, fun i hi => ?_, fun i hi => ?_⟩⟩
  · rw [hg i hi]; exact (hf i hi).1
  · rw [hg i hi]; exact (hf i hi).2.1
  · rw [hg i hi]; exact (hf i hi).2.2.1
  · rw [hg i hi]; exact (hf i hi).2.2.2.1
  · rw [hg i hi]; exact (hf i hi).2.2.2.2

set_option maxRecDepth 100000 in
theorem lifted (os : Os) (started : os.Started) (H : Type) (enc : TypeId × Value → H) :
    ReturnsInHanded {} Ybmm.checked os 13 .any (Rows.lawS930010LFrameSpec.pre6 enc Ybmm.prog Ybmm.f13 Rows.lawS930010LFrameRow.domain false) (Rows.lawS930010LFrameSpec.post enc Ybmm.prog Ybmm.f13 false true false false) := by
  refine returnsInHanded_of_change (C := Ybmm.checked) own started (by kernel_rfl) Ybmm.func13
    (ChangeSpec.witness6 (enc := enc) (C := Ybmm.checked) false ⟨#[], #[.slice none 0 0, .int .u8 0, .string ByteArray.empty], []⟩ 8 (by kernel_rfl) (by kernel_rfl) (by kernel_rfl) (by kernel_rfl)) ?_
  intro W base args ds gs before hval0 hW hcnd _
  have hval : ∀ (j : Nat) t v, Ybmm.f13.params[j]? = some t → args[j]? = some v → Value.okWide Ybmm.prog W .any base t v := hval0
  have hW' := hW
  obtain ⟨p, q, hA0, hV, rfl, hfz, hnd⟩ := hW
  have hA : DataW.TrodAll enc Ybmm.prog W 0 (fun _ => true) true Ybmm.f13.params.toList args.toList ds p := hA0
  rw [Ybmm.params13] at hA hval
  obtain ⟨v0, vs0, d0, ds0, p0, q0, hargs, rfl, rfl, h0, r0⟩ := trodAll_cons hA
  obtain ⟨v1, vs1, d1, ds1, p1, q1, rfl, rfl, rfl, h1, r1⟩ := trodAll_cons r0
  obtain ⟨v2, vs2, d2, ds2, p2, q2, rfl, rfl, rfl, h2, r2⟩ := trodAll_cons r1
  obtain ⟨rfl, rfl, rfl⟩ := trodAll_nil r2
  obtain rfl : args = #[v0, v1, v2] := by cases args; simp_all
  obtain ⟨rfl, rfl⟩ := trodVars_none hV
  have o0 := hval 0 59 v0 rfl rfl
  have k0 := h0
  have lt0 : ∀ x ∈ p0, x.block < W.heap.size := by obtain ⟨m, hm⟩ := k0; exact DataW.trod_lt m _ _ _ hm
  have o1 := hval 1 5 v1 rfl rfl
  have k1 := h1
  have lt1 : ∀ x ∈ p1, x.block < W.heap.size := by obtain ⟨m, hm⟩ := k1; exact DataW.trod_lt m _ _ _ hm
  have o2 := hval 2 9 v2 rfl rfl
  have k2 := h2
  have lt2 : ∀ x ∈ p2, x.block < W.heap.size := by obtain ⟨m, hm⟩ := k2; exact DataW.trod_lt m _ _ _ hm
  clear hA0 hval0 hval
  obtain ⟨a0, len0, cap0, rfl⟩ := okWide_slice Ybmm.underlying59 o0
  obtain ⟨sel, rfl, _, _, w1⟩ := open_int Ybmm.underlying5 o1 h1
  obtain ⟨p, rfl⟩ := okWide_string Ybmm.underlying9 o2
  have hpl : p.data.toList.length ≤ maxLen := by
    obtain ⟨fuel, hf⟩ := h2
    obtain ⟨s, e, hs⟩ := came_string Ybmm.underlying9 hf
    have : p = s := by simpa [Value.cells] using e
    subst this
    simpa using hs
  have b1 := bounds_u8 w1
  obtain ⟨kk, rfl⟩ := Int.eq_ofNat_of_zero_le b1.1
  obtain ⟨b, off, S, ha, hS⟩ := lops_of h0
  have main : Calls Ybmm.prog 13 #[.slice a0 len0 cap0, .int .u8 kk, .string p] W fun e w' => e = .returned (.bool true) ∧ Below W.heap.size W w' := by
    by_cases hb : len0 ≤ 256
    · exact lframe_walk a0 b off len0 cap0 S kk p.data.toList W ha hS hb (by omega) hpl
    · exact lframe_big a0 len0 cap0 kk p.data.toList W (by omega)
  refine main.mono fun e W' ⟨he, bel⟩ => ?_
  subst he
  exact ⟨_, rfl, _, _, _, [], _, [], hW', trodAll_mk1 (shut_bool Ybmm.underlying4 _), (trodAll_cons_mk (Below.trod laidOut (by kernel_rfl) (of_decide_eq_true (by kernel_rfl)) k0 bel lt0) (trodAll_cons_mk (Below.trod laidOut (by kernel_rfl) (of_decide_eq_true (by kernel_rfl)) k1 bel lt1) (trodAll_cons_mk (Below.trod laidOut (by kernel_rfl) (of_decide_eq_true (by kernel_rfl)) k2 bel lt2) trodAll_mk0))), rfl, bel.frame _, fun h => by cases h⟩

theorem over : Rows.lawS930010LFrameRow.holds Ybmm.pinned (OpenSpec.ofChange Rows.lawS930010LFrameSpec) :=
  OpenClaim.holds_of_wide 13 Ybmm.f13 rfl rfl rfl rfl rfl rfl rfl ⟨rfl, rfl, rfl, rfl, rfl⟩ rfl rfl rfl rfl rfl (by kernel_rfl) Ybmm.func13 (by kernel_rfl)
    (of_decide_eq_true (by kernel_rfl)) (by unfold Func.isWrapper; first | (rw [if_pos (by decide +kernel)]; kernel_rfl) | (rw [if_neg (by decide +kernel)]; exact ⟨rfl, rfl⟩))
    (fun os started H enc _ => lifted os started H enc)

end Go.Proofs.Ymbrbm.lawS930010LFrame
namespace Go.Proofs.Ymbrbm
/-- THE STATEMENT. -/
theorem lawS930010LFrame_proved : Rows.LawS930010LFrameSaid := lawS930010LFrame.over
end Go.Proofs.Ymbrbm
