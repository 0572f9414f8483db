/-
  LawS930010IScript: the arguments opened; the row. Own text (the frame after the guide's shell).
-/
import Derived.Test.YmbrbmIScript
import Derived.Test.YmbrbmArgs2
namespace Go.Proofs.Ymbrbm.lawS930010IScript
open Go.ChangeShapes Go.WideShapes Go.ChangeAt Go.RowKit
open Go.ChangeMaps (open_string shut_string)

theorem ops_of {H : Type} {enc : TypeId × Value → H} {w : World} {a : Option Addr} {len cap : Nat} {x : DataW H × List MemPlace}
    (h : ∃ fuel, DataW.trod enc Ybmm.prog w 0 (fun _ => true) true fuel 22 (Value.slice a len cap).cells.toList = some x) :
    ∃ b off S, (0 < len → a = some ⟨b, off, none⟩) ∧ Ops w b off len S := by
  obtain ⟨_, h0 | ⟨b, off, ha, hb, hx⟩⟩ := came_slice 2 (by kernel_rfl) (by decide) Ybmm.underlying22 h
  · subst h0
    exact ⟨0, 0, [], fun h => absurd h (by omega), ⟨fun h => absurd h (by omega), fun i h => absurd h (by omega), fun i h => absurd h (by omega)⟩⟩
  obtain ⟨f, hf⟩ := Deep.choose_lt (α := Bool × Str) (n := len) (p := fun i t => w.cell? ⟨b, off + i * 2, none⟩ = some (.bool t.1) ∧ w.cell? ⟨b, off + i * 2 + 1, none⟩ = some (Sv t.2)) (fun i hi => by
    obtain ⟨cs, n, d, hl, hcell, ht⟩ := hx i hi
    have c4 : Ybmm.prog.cellsOf 4 = 1 := by kernel_rfl
    have c9 : Ybmm.prog.cellsOf 9 = 1 := by kernel_rfl
    obtain ⟨m0, y0, h0⟩ := came_field Ybmm.underlying33 ht 0 4 0 1 rfl c4
    obtain ⟨m1, y1, h1⟩ := came_field Ybmm.underlying33 ht 1 9 1 1 rfl c9
    obtain ⟨z0, e0⟩ := came_bool Ybmm.underlying4 h0
    obtain ⟨z1, e1, _⟩ := came_string Ybmm.underlying9 h1
    have g0 : cs[0]? = some (.bool z0) := by have := congrArg (·[0]?) e0; simpa [List.getElem?_take, List.getElem?_drop] using this
    have g1 : cs[1]? = some (.string z1) := by have := congrArg (·[0]?) e1; simpa [List.getElem?_take, List.getElem?_drop] using this
    refine ⟨(z0, z1.data.toList), ?_, ?_⟩
    · have := hcell 0 _ g0; simpa using this
    · have := hcell 1 _ g1; simpa using this)
  have hg : ∀ i, i < len → ((List.range len).map f).getD i (false, []) = f i := fun i hi => by simp [List.getD, hi]
  refine ⟨b, off, (List.range len).map f, fun _ => ha, ⟨fun _ => hb, fun i hi => ?_, fun i hi => ?_⟩⟩
  · rw [hg i hi]; exact (hf i hi).1
  · rw [hg i hi]; exact (hf i hi).2

set_option maxRecDepth 100000 in
theorem lifted (os : Os) (started : os.Started) (H : Type) (enc : TypeId × Value → H) :
    ReturnsInHanded {} Ybmm.checked os 3 .any (Rows.lawS930010IScriptSpec.pre6 enc Ybmm.prog Ybmm.f3 Rows.lawS930010IScriptRow.domain false) (Rows.lawS930010IScriptSpec.post enc Ybmm.prog Ybmm.f3 false true false false) := by
  refine returnsInHanded_of_change (C := Ybmm.checked) own started (by kernel_rfl) Ybmm.func3
    (ChangeSpec.witness6 (enc := enc) (C := Ybmm.checked) false ⟨#[], #[.slice none 0 0, .int .u16 0, .string ByteArray.empty], []⟩ 8 (by kernel_rfl) (by kernel_rfl) (by kernel_rfl) (by kernel_rfl)) ?_
  intro W base args ds gs before hval0 hW hcnd _
  have hval : ∀ (j : Nat) t v, Ybmm.f3.params[j]? = some t → args[j]? = some v → Value.okWide Ybmm.prog W .any base t v := hval0
  have hW' := hW
  obtain ⟨p, q, hA0, hV, rfl, hfz, hnd⟩ := hW
  have hA : DataW.TrodAll enc Ybmm.prog W 0 (fun _ => true) true Ybmm.f3.params.toList args.toList ds p := hA0
  rw [Ybmm.params3] at hA hval
  obtain ⟨v0, vs0, d0, ds0, p0, q0, hargs, rfl, rfl, h0, r0⟩ := trodAll_cons hA
  obtain ⟨v1, vs1, d1, ds1, p1, q1, rfl, rfl, rfl, h1, r1⟩ := trodAll_cons r0
  obtain ⟨v2, vs2, d2, ds2, p2, q2, rfl, rfl, rfl, h2, r2⟩ := trodAll_cons r1
  obtain ⟨rfl, rfl, rfl⟩ := trodAll_nil r2
  obtain rfl : args = #[v0, v1, v2] := by cases args; simp_all
  obtain ⟨rfl, rfl⟩ := trodVars_none hV
  have o0 := hval 0 22 v0 rfl rfl
  have k0 := h0
  have lt0 : ∀ x ∈ p0, x.block < W.heap.size := by obtain ⟨m, hm⟩ := k0; exact DataW.trod_lt m _ _ _ hm
  have o1 := hval 1 23 v1 rfl rfl
  have k1 := h1
  have lt1 : ∀ x ∈ p1, x.block < W.heap.size := by obtain ⟨m, hm⟩ := k1; exact DataW.trod_lt m _ _ _ hm
  have o2 := hval 2 9 v2 rfl rfl
  have k2 := h2
  have lt2 : ∀ x ∈ p2, x.block < W.heap.size := by obtain ⟨m, hm⟩ := k2; exact DataW.trod_lt m _ _ _ hm
  clear hA0 hval0 hval
  obtain ⟨a0, len0, cap0, rfl⟩ := okWide_slice Ybmm.underlying22 o0
  obtain ⟨k, rfl, _, _, w1⟩ := open_int Ybmm.underlying23 o1 h1
  obtain ⟨tail, rfl⟩ := okWide_string Ybmm.underlying9 o2
  have b1 := bounds_u16 w1
  obtain ⟨kk, rfl⟩ := Int.eq_ofNat_of_zero_le b1.1
  obtain ⟨b, off, S, ha, hS⟩ := ops_of h0
  have main : Calls Ybmm.prog 3 #[.slice a0 len0 cap0, .int .u16 kk, .string tail] W fun e w' => e = .returned (.bool true) ∧ Below W.heap.size W w' := by
    by_cases hb : len0 ≤ 256 ∧ tail.data.toList.length ≤ 1024
    · exact iscript_walk a0 b off len0 cap0 S kk tail.data.toList W ha hS hb.1 (by omega) hb.2
    · exact iscript_big a0 len0 cap0 kk tail.data.toList W (by omega)
  refine main.mono fun e W' ⟨he, bel⟩ => ?_
  subst he
  exact ⟨_, rfl, _, _, _, [], _, [], hW', trodAll_mk1 (shut_bool Ybmm.underlying4 _), (trodAll_cons_mk (Below.trod laidOut (by kernel_rfl) (of_decide_eq_true (by kernel_rfl)) k0 bel lt0) (trodAll_cons_mk (Below.trod laidOut (by kernel_rfl) (of_decide_eq_true (by kernel_rfl)) k1 bel lt1) (trodAll_cons_mk (Below.trod laidOut (by kernel_rfl) (of_decide_eq_true (by kernel_rfl)) k2 bel lt2) trodAll_mk0))), rfl, bel.frame _, fun h => by cases h⟩

theorem over : Rows.lawS930010IScriptRow.holds Ybmm.pinned (OpenSpec.ofChange Rows.lawS930010IScriptSpec) :=
  OpenClaim.holds_of_wide 3 Ybmm.f3 rfl rfl rfl rfl rfl rfl rfl ⟨rfl, rfl, rfl, rfl, rfl⟩ rfl rfl rfl rfl rfl (by kernel_rfl) Ybmm.func3 (by kernel_rfl)
    (of_decide_eq_true (by kernel_rfl)) (by unfold Func.isWrapper; first | (rw [if_pos (by decide +kernel)]; kernel_rfl) | (rw [if_neg (by decide +kernel)]; exact ⟨rfl, rfl⟩))
    (fun os started H enc _ => lifted os started H enc)

end Go.Proofs.Ymbrbm.lawS930010IScript
namespace Go.Proofs.Ymbrbm
/-- THE STATEMENT. -/
theorem lawS930010IScript_proved : Rows.LawS930010IScriptSaid := lawS930010IScript.over
end Go.Proofs.Ymbrbm
