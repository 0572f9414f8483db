/-
  LawS930010JRanks: the arguments opened; the row. Own text (the frame after the guide's shell).
-/
import Derived.Test.YmbrbmJRanks
import Derived.Test.YmbrbmArgs2
namespace Go.Proofs.Ymbrbm.lawS930010JRanks
open Go.ChangeShapes Go.WideShapes Go.ChangeAt Go.RowKit
open Go.ChangeMaps (open_string shut_string)

theorem jops_of {H : Type} {enc : TypeId × Value → H} {w : World} {a : Option Addr} {len cap : Nat} {x : DataW H × List MemPlace}
    (h : ∃ fuel, DataW.trod enc Ybmm.prog w 0 (fun _ => true) true fuel 47 (Value.slice a len cap).cells.toList = some x) :
    ∃ b off S, (0 < len → a = some ⟨b, off, none⟩) ∧ OpsB w b off len S := by
  obtain ⟨_, h0 | ⟨b, off, ha, hb, hx⟩⟩ := came_slice 2 (by kernel_rfl) (by decide) Ybmm.underlying47 h
  · subst h0
    exact ⟨0, 0, [], fun h => absurd h (by omega), ⟨fun h => absurd h (by omega), fun i h => absurd h (by omega), fun i h => absurd h (by omega), fun i h => absurd h (by omega), fun i h => absurd h (by omega)⟩⟩
  obtain ⟨f, hf⟩ := Deep.choose_lt (α := Nat × Str) (n := len) (p := fun i t => w.cell? ⟨b, off + i * 2, none⟩ = some (.int .u8 t.1) ∧ w.cell? ⟨b, off + i * 2 + 1, none⟩ = some (Sv t.2) ∧ t.1 ≤ 255 ∧ t.2.length ≤ maxLen) (fun i hi => by
    obtain ⟨cs, n, d, hl, hcell, ht⟩ := hx i hi
    have c5 : Ybmm.prog.cellsOf 5 = 1 := by kernel_rfl
    have c9 : Ybmm.prog.cellsOf 9 = 1 := by kernel_rfl
    obtain ⟨m0, y0, h0⟩ := came_field Ybmm.underlying75 ht 0 5 0 1 rfl c5
    obtain ⟨m1, y1, h1⟩ := came_field Ybmm.underlying75 ht 1 9 1 1 rfl c9
    obtain ⟨z0, e0, w0⟩ := came_int Ybmm.underlying5 h0
    obtain ⟨z1, e1, hz1⟩ := came_string Ybmm.underlying9 h1
    have b0 := bounds_u8 w0
    have g0 : cs[0]? = some (.int .u8 z0) := by have := congrArg (·[0]?) e0; simpa [List.getElem?_take, List.getElem?_drop] using this
    have g1 : cs[1]? = some (.string z1) := by have := congrArg (·[0]?) e1; simpa [List.getElem?_take, List.getElem?_drop] using this
    refine ⟨(z0.toNat, z1.data.toList), ?_, ?_, by simp; omega, by simpa using hz1⟩
    · have := hcell 0 _ g0; simpa [Int.toNat_of_nonneg b0.1] using this
    · have := hcell 1 _ g1; simpa using this)
  have hg : ∀ i, i < len → ((List.range len).map f).getD i (0, []) = f i := fun i hi => by simp [List.getD, hi]
  refine ⟨b, off, (List.range len).map f, fun _ => ha, ⟨fun _ => hb, fun i hi => ?_, fun i hi => ?_, fun i hi => ?_, fun i hi => ?_⟩⟩
  · rw [hg i hi]; exact (hf i hi).1
  · rw [hg i hi]; exact (hf i hi).2.1
  · rw [hg i hi]; exact (hf i hi).2.2.1
  · rw [hg i hi]; exact (hf i hi).2.2.2

set_option maxRecDepth 100000 in
theorem lifted (os : Os) (started : os.Started) (H : Type) (enc : TypeId × Value → H) :
    ReturnsInHanded {} Ybmm.checked os 6 .any (Rows.lawS930010JRanksSpec.pre6 enc Ybmm.prog Ybmm.f6 Rows.lawS930010JRanksRow.domain false) (Rows.lawS930010JRanksSpec.post enc Ybmm.prog Ybmm.f6 false true false false) := by
  refine returnsInHanded_of_change (C := Ybmm.checked) own started (by kernel_rfl) Ybmm.func6
    (ChangeSpec.witness6 (enc := enc) (C := Ybmm.checked) false ⟨#[], #[.slice none 0 0, .string ByteArray.empty, .bool false, .int .u8 0], []⟩ 8 (by kernel_rfl) (by kernel_rfl) (by kernel_rfl) (by kernel_rfl)) ?_
  intro W base args ds gs before hval0 hW hcnd _
  have hval : ∀ (j : Nat) t v, Ybmm.f6.params[j]? = some t → args[j]? = some v → Value.okWide Ybmm.prog W .any base t v := hval0
  have hW' := hW
  obtain ⟨p, q, hA0, hV, rfl, hfz, hnd⟩ := hW
  have hA : DataW.TrodAll enc Ybmm.prog W 0 (fun _ => true) true Ybmm.f6.params.toList args.toList ds p := hA0
  rw [Ybmm.params6] at hA hval
  obtain ⟨v0, vs0, d0, ds0, p0, q0, hargs, rfl, rfl, h0, r0⟩ := trodAll_cons hA
  obtain ⟨v1, vs1, d1, ds1, p1, q1, rfl, rfl, rfl, h1, r1⟩ := trodAll_cons r0
  obtain ⟨v2, vs2, d2, ds2, p2, q2, rfl, rfl, rfl, h2, r2⟩ := trodAll_cons r1
  obtain ⟨v3, vs3, d3, ds3, p3, q3, rfl, rfl, rfl, h3, r3⟩ := trodAll_cons r2
  obtain ⟨rfl, rfl, rfl⟩ := trodAll_nil r3
  obtain rfl : args = #[v0, v1, v2, v3] := by cases args; simp_all
  obtain ⟨rfl, rfl⟩ := trodVars_none hV
  have o0 := hval 0 47 v0 rfl rfl
  have k0 := h0
  have lt0 : ∀ x ∈ p0, x.block < W.heap.size := by obtain ⟨m, hm⟩ := k0; exact DataW.trod_lt m _ _ _ hm
  have o1 := hval 1 9 v1 rfl rfl
  have k1 := h1
  have lt1 : ∀ x ∈ p1, x.block < W.heap.size := by obtain ⟨m, hm⟩ := k1; exact DataW.trod_lt m _ _ _ hm
  have o2 := hval 2 4 v2 rfl rfl
  have k2 := h2
  have lt2 : ∀ x ∈ p2, x.block < W.heap.size := by obtain ⟨m, hm⟩ := k2; exact DataW.trod_lt m _ _ _ hm
  have o3 := hval 3 5 v3 rfl rfl
  have k3 := h3
  have lt3 : ∀ x ∈ p3, x.block < W.heap.size := by obtain ⟨m, hm⟩ := k3; exact DataW.trod_lt m _ _ _ hm
  clear hA0 hval0 hval
  obtain ⟨a0, len0, cap0, rfl⟩ := okWide_slice Ybmm.underlying47 o0
  obtain ⟨p, rfl⟩ := okWide_string Ybmm.underlying9 o1
  obtain ⟨raw, rfl⟩ := okWide_bool Ybmm.underlying4 o2
  obtain ⟨pick, rfl, _, _, w3⟩ := open_int Ybmm.underlying5 o3 h3
  have b3 := bounds_u8 w3
  obtain ⟨kk, rfl⟩ := Int.eq_ofNat_of_zero_le b3.1
  obtain ⟨b, off, S, ha, hS⟩ := jops_of h0
  have hpl : p.data.toList.length ≤ maxLen := by
    obtain ⟨fuel, hf⟩ := h1
    obtain ⟨s, e, hs⟩ := came_string Ybmm.underlying9 hf
    have : p = s := by simpa [Value.cells] using e
    subst this
    simpa using hs
  have main : Calls Ybmm.prog 6 #[.slice a0 len0 cap0, .string p, .bool raw, .int .u8 kk] W fun e w' => e = .returned (.bool true) ∧ Below W.heap.size W w' := by
    by_cases hb : len0 ≤ 256
    · exact jranks_walk a0 b off len0 cap0 S p.data.toList raw kk W ha hS hb (by omega) hpl
    · exact jranks_big a0 len0 cap0 p.data.toList raw kk W (by omega)
  refine main.mono fun e W' ⟨he, bel⟩ => ?_
  subst he
  exact ⟨_, rfl, _, _, _, [], _, [], hW', trodAll_mk1 (shut_bool Ybmm.underlying4 _), (trodAll_cons_mk (Below.trod laidOut (by kernel_rfl) (of_decide_eq_true (by kernel_rfl)) k0 bel lt0) (trodAll_cons_mk (Below.trod laidOut (by kernel_rfl) (of_decide_eq_true (by kernel_rfl)) k1 bel lt1) (trodAll_cons_mk (Below.trod laidOut (by kernel_rfl) (of_decide_eq_true (by kernel_rfl)) k2 bel lt2) (trodAll_cons_mk (Below.trod laidOut (by kernel_rfl) (of_decide_eq_true (by kernel_rfl)) k3 bel lt3) trodAll_mk0)))), rfl, bel.frame _, fun h => by cases h⟩

theorem over : Rows.lawS930010JRanksRow.holds Ybmm.pinned (OpenSpec.ofChange Rows.lawS930010JRanksSpec) :=
  OpenClaim.holds_of_wide 6 Ybmm.f6 rfl rfl rfl rfl rfl rfl rfl ⟨rfl, rfl, rfl, rfl, rfl⟩ rfl rfl rfl rfl rfl (by kernel_rfl) Ybmm.func6 (by kernel_rfl)
    (of_decide_eq_true (by kernel_rfl)) (by unfold Func.isWrapper; first | (rw [if_pos (by decide +kernel)]; kernel_rfl) | (rw [if_neg (by decide +kernel)]; exact ⟨rfl, rfl⟩))
    (fun os started H enc _ => lifted os started H enc)

end Go.Proofs.Ymbrbm.lawS930010JRanks
namespace Go.Proofs.Ymbrbm
/-- THE STATEMENT. -/
theorem lawS930010JRanks_proved : Rows.LawS930010JRanksSaid := lawS930010JRanks.over
end Go.Proofs.Ymbrbm
