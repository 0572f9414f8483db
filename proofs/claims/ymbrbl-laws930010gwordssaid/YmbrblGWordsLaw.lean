/-
  LawS930010GWords: the arguments opened; the row. Own text (the frame after the guide's shell).
-/
import Derived.Test.YmbrblGWords
import Derived.Test.YmbrblArgs2
namespace Go.Proofs.Ymbrbl.lawS930010GWords
open Go.ChangeShapes Go.WideShapes Go.ChangeAt Go.RowKit
open Go.ChangeMaps (open_string shut_string)

theorem strs_of {H : Type} {enc : TypeId × Value → H} {w : World} {a : Option Addr} {len cap : Nat} {x : DataW H × List MemPlace}
    (h : ∃ fuel, DataW.trod enc Yblm.prog w 0 (fun _ => true) true fuel 45 (Value.slice a len cap).cells.toList = some x) :
    ∃ b off ss, ss.length = len ∧ (0 < len → a = some ⟨b, off, none⟩) ∧ Cells w b off ss := by
  obtain ⟨_, h0 | ⟨b, off, ha, hb, hx⟩⟩ := came_slice 1 (by kernel_rfl) (by decide) Yblm.underlying45 h
  · subst h0
    exact ⟨0, 0, [], rfl, fun h => absurd h (by omega), ⟨fun h => absurd h (by simp), fun i h => absurd h (by simp)⟩⟩
  obtain ⟨f, hf⟩ := Deep.choose_lt (α := Str) (n := len) (p := fun i t => w.cell? ⟨b, off + i, none⟩ = some (Sv t)) (fun i hi => by
    obtain ⟨cs, n, d, _, hcell, ht⟩ := hx i hi
    obtain ⟨s, hs, _⟩ := came_string Yblm.underlying9 ht
    refine ⟨s.data.toList, ?_⟩
    have := hcell 0 (.string s) (by rw [hs]; rfl)
    simpa using this)
  refine ⟨b, off, (List.range len).map f, by simp, fun _ => ha, ⟨fun _ => hb, fun i hi => ?_⟩⟩
  have hi : i < len := by simpa using hi
  rw [hf i hi]
  simp [List.getD, hi]

theorem came_is_slice {H : Type} {enc : TypeId × Value → H} {P : Program} {w : World} {base : Nat} {spare : Nat → Bool} {held : Bool} {t e : TypeId} {cs : List Value} {n : Nat} {x : DataW H × List MemPlace} (ht : P.underlying t = some (.slice e)) (h : DataW.trod enc P w base spare held n t cs = some x) : ∃ a l c, cs = [.slice a l c] := by
  rcases Deep.open_slice ht h with ⟨hc, _⟩ | ⟨ad, l, c, m, n, D, Pl, hc, _⟩
  · exact ⟨_, _, _, hc⟩
  · exact ⟨_, _, _, hc⟩
theorem i8s_of {H : Type} {enc : TypeId × Value → H} {w : World} {a : Option Addr} {len cap : Nat} {x : DataW H × List MemPlace}
    (h : ∃ fuel, DataW.trod enc Yblm.prog w 0 (fun _ => true) true fuel 62 (Value.slice a len cap).cells.toList = some x) :
    ∃ b off Z, (0 < len → a = some ⟨b, off, none⟩) ∧ I8s w b off len Z := by
  obtain ⟨_, h0 | ⟨b, off, ha, hb, hx⟩⟩ := came_slice 1 (by kernel_rfl) (by decide) Yblm.underlying62 h
  · subst h0
    exact ⟨0, 0, [], fun h => absurd h (by omega), ⟨fun h => absurd h (by omega), fun i h => absurd h (by omega), fun i h => absurd h (by omega)⟩⟩
  obtain ⟨f, hf⟩ := Deep.choose_lt (α := Int) (n := len) (p := fun i t => w.cell? ⟨b, off + i, none⟩ = some (.int .i8 t) ∧ -128 ≤ t ∧ t ≤ 127) (fun i hi => by
    obtain ⟨cs, n, d, _, hcell, ht⟩ := hx i hi
    obtain ⟨z, hz, wz⟩ := came_int Yblm.underlying88 ht
    have bz := bounds_i8 wz
    have := hcell 0 (.int .i8 z) (by rw [hz]; rfl)
    exact ⟨z, by simpa using this, bz.1, bz.2⟩)
  have hg : ∀ i, i < len → ((List.range len).map f).getD i 0 = f i := fun i hi => by simp [List.getD, hi]
  refine ⟨b, off, (List.range len).map f, fun _ => ha, ⟨fun _ => hb, fun i hi => ?_, fun i hi => ?_⟩⟩
  · rw [hg i hi]; exact (hf i hi).1
  · rw [hg i hi]; exact (hf i hi).2
theorem gops_of {H : Type} {enc : TypeId × Value → H} {w : World} {a : Option Addr} {len cap : Nat} {x : DataW H × List MemPlace}
    (h : ∃ fuel, DataW.trod enc Yblm.prog w 0 (fun _ => true) true fuel 58 (Value.slice a len cap).cells.toList = some x) :
    ∃ b off, (0 < len → a = some ⟨b, off, none⟩) ∧ OpsG w b off len := by
  obtain ⟨_, h0 | ⟨b, off, ha, hb, hx⟩⟩ := came_slice 3 (by kernel_rfl) (by decide) Yblm.underlying58 h
  · subst h0
    exact ⟨0, 0, fun h => absurd h (by omega), ⟨fun h => absurd h (by omega), fun i h => absurd h (by omega), fun i h => absurd h (by omega)⟩⟩
  refine ⟨b, off, fun _ => ha, ⟨fun _ => hb, fun i hi => ?_, fun i hi => ?_⟩⟩
  · obtain ⟨cs, n, d, hl, hcell, ht⟩ := hx i hi
    have c5 : Yblm.prog.cellsOf 5 = 1 := by kernel_rfl
    obtain ⟨m0, y0, h0⟩ := came_field Yblm.underlying64 ht 0 5 0 1 rfl c5
    obtain ⟨m1, y1, h1⟩ := came_field Yblm.underlying64 ht 1 5 1 1 rfl c5
    obtain ⟨z0, e0, w0⟩ := came_int Yblm.underlying5 h0
    obtain ⟨z1, e1, w1⟩ := came_int Yblm.underlying5 h1
    have b0 := bounds_u8 w0
    have b1 := bounds_u8 w1
    have g0 : cs[0]? = some (.int .u8 z0) := by have := congrArg (·[0]?) e0; simpa [List.getElem?_take, List.getElem?_drop] using this
    have g1 : cs[1]? = some (.int .u8 z1) := by have := congrArg (·[0]?) e1; simpa [List.getElem?_take, List.getElem?_drop] using this
    refine ⟨z0.toNat, z1.toNat, ?_, ?_, by omega, by omega⟩
    · have := hcell 0 _ g0; simpa [Int.toNat_of_nonneg b0.1] using this
    · have := hcell 1 _ g1; simpa [Int.toNat_of_nonneg b1.1] using this
  · obtain ⟨cs, n, d, hl, hcell, ht⟩ := hx i hi
    have c62 : Yblm.prog.cellsOf 62 = 1 := by kernel_rfl
    obtain ⟨m2, y2, h2⟩ := came_field Yblm.underlying64 ht 2 62 2 1 rfl c62
    obtain ⟨a8, l8, k8, e2⟩ := came_is_slice Yblm.underlying62 h2
    have g2 : cs[2]? = some (.slice a8 l8 k8) := by have := congrArg (·[0]?) e2; simpa [List.getElem?_take, List.getElem?_drop] using this
    rw [e2] at h2
    obtain ⟨b8, off8, Z, ha8, hZ⟩ := i8s_of (cap := k8) ⟨m2, h2⟩
    exact ⟨a8, l8, k8, b8, off8, Z, hcell 2 _ g2, ha8, hZ⟩

set_option maxRecDepth 100000 in
theorem lifted (os : Os) (started : os.Started) (H : Type) (enc : TypeId × Value → H) :
    ReturnsInHanded {} Yblm.checked os 8 .any (Rows.lawS930010GWordsSpec.pre6 enc Yblm.prog Yblm.f8 Rows.lawS930010GWordsRow.domain false) (Rows.lawS930010GWordsSpec.post enc Yblm.prog Yblm.f8 false true false false) := by
  refine returnsInHanded_of_change (C := Yblm.checked) own started (by kernel_rfl) Yblm.func8
    (ChangeSpec.witness6 (enc := enc) (C := Yblm.checked) false ⟨#[], #[.slice none 0 0, .int .u8 0, .int .u16 0, .string ByteArray.empty, .slice none 0 0], []⟩ 8 (by kernel_rfl) (by kernel_rfl) (by kernel_rfl) (by kernel_rfl)) ?_
  intro W base args ds gs before hval0 hW hcnd _
  have hval : ∀ (j : Nat) t v, Yblm.f8.params[j]? = some t → args[j]? = some v → Value.okWide Yblm.prog W .any base t v := hval0
  have hW' := hW
  obtain ⟨p, q, hA0, hV, rfl, hfz, hnd⟩ := hW
  have hA : DataW.TrodAll enc Yblm.prog W 0 (fun _ => true) true Yblm.f8.params.toList args.toList ds p := hA0
  rw [Yblm.params8] at hA hval
  obtain ⟨v0, vs0, d0, ds0, p0, q0, hargs, rfl, rfl, h0, r0⟩ := trodAll_cons hA
  obtain ⟨v1, vs1, d1, ds1, p1, q1, rfl, rfl, rfl, h1, r1⟩ := trodAll_cons r0
  obtain ⟨v2, vs2, d2, ds2, p2, q2, rfl, rfl, rfl, h2, r2⟩ := trodAll_cons r1
  obtain ⟨v3, vs3, d3, ds3, p3, q3, rfl, rfl, rfl, h3, r3⟩ := trodAll_cons r2
  obtain ⟨v4, vs4, d4, ds4, p4, q4, rfl, rfl, rfl, h4, r4⟩ := trodAll_cons r3
  obtain ⟨rfl, rfl, rfl⟩ := trodAll_nil r4
  obtain rfl : args = #[v0, v1, v2, v3, v4] := by cases args; simp_all
  obtain ⟨rfl, rfl⟩ := trodVars_none hV
  have o0 := hval 0 58 v0 rfl rfl
  have k0 := h0
  have lt0 : ∀ x ∈ p0, x.block < W.heap.size := by obtain ⟨m, hm⟩ := k0; exact DataW.trod_lt m _ _ _ hm
  have o1 := hval 1 5 v1 rfl rfl
  have k1 := h1
  have lt1 : ∀ x ∈ p1, x.block < W.heap.size := by obtain ⟨m, hm⟩ := k1; exact DataW.trod_lt m _ _ _ hm
  have o2 := hval 2 37 v2 rfl rfl
  have k2 := h2
  have lt2 : ∀ x ∈ p2, x.block < W.heap.size := by obtain ⟨m, hm⟩ := k2; exact DataW.trod_lt m _ _ _ hm
  have o3 := hval 3 9 v3 rfl rfl
  have k3 := h3
  have lt3 : ∀ x ∈ p3, x.block < W.heap.size := by obtain ⟨m, hm⟩ := k3; exact DataW.trod_lt m _ _ _ hm
  have o4 := hval 4 45 v4 rfl rfl
  have k4 := h4
  have lt4 : ∀ x ∈ p4, x.block < W.heap.size := by obtain ⟨m, hm⟩ := k4; exact DataW.trod_lt m _ _ _ hm
  clear hA0 hval0 hval
  obtain ⟨a0, len0, cap0, rfl⟩ := okWide_slice Yblm.underlying58 o0
  obtain ⟨pick, rfl, _, _, w1⟩ := open_int Yblm.underlying5 o1 h1
  obtain ⟨cut, rfl, _, _, w2⟩ := open_int Yblm.underlying37 o2 h2
  obtain ⟨label, rfl⟩ := okWide_string Yblm.underlying9 o3
  obtain ⟨a4, len4, cap4, rfl⟩ := okWide_slice Yblm.underlying45 o4
  have b1 := bounds_u8 w1
  have b2 := bounds_u16 w2
  obtain ⟨kk, rfl⟩ := Int.eq_ofNat_of_zero_le b1.1
  obtain ⟨cc, rfl⟩ := Int.eq_ofNat_of_zero_le b2.1
  obtain ⟨b, off, ha, hS⟩ := gops_of h0
  obtain ⟨b4, off4, ss, e4, ha4, hC⟩ := strs_of h4
  have main : Calls Yblm.prog 8 #[.slice a0 len0 cap0, .int .u8 kk, .int .u16 cc, .string label, .slice a4 len4 cap4] W fun e w' => e = .returned (.bool true) ∧ Below W.heap.size W w' := by
    by_cases hb : len0 ≤ 256 ∧ label.data.toList.length ≤ 1024 ∧ len4 ≤ 1024
    · exact gwords_walk a0 b off len0 cap0 kk cc label.data.toList a4 b4 off4 len4 cap4 ss W ha hS hb.1 (by omega) (by omega) hb.2.1 e4 hb.2.2 ha4 hC
    · exact gwords_big a0 len0 cap0 kk cc label.data.toList a4 len4 cap4 W (by omega)
  refine main.mono fun e W' ⟨he, bel⟩ => ?_
  subst he
  exact ⟨_, rfl, _, _, _, [], _, [], hW', trodAll_mk1 (shut_bool Yblm.underlying4 _), (trodAll_cons_mk (Below.trod laidOut (by kernel_rfl) (of_decide_eq_true (by kernel_rfl)) k0 bel lt0) (trodAll_cons_mk (Below.trod laidOut (by kernel_rfl) (of_decide_eq_true (by kernel_rfl)) k1 bel lt1) (trodAll_cons_mk (Below.trod laidOut (by kernel_rfl) (of_decide_eq_true (by kernel_rfl)) k2 bel lt2) (trodAll_cons_mk (Below.trod laidOut (by kernel_rfl) (of_decide_eq_true (by kernel_rfl)) k3 bel lt3) (trodAll_cons_mk (Below.trod laidOut (by kernel_rfl) (of_decide_eq_true (by kernel_rfl)) k4 bel lt4) trodAll_mk0))))), rfl, bel.frame _, fun h => by cases h⟩

theorem over : Rows.lawS930010GWordsRow.holds Yblm.pinned (OpenSpec.ofChange Rows.lawS930010GWordsSpec) :=
  OpenClaim.holds_of_wide 8 Yblm.f8 rfl rfl rfl rfl rfl rfl rfl ⟨rfl, rfl, rfl, rfl, rfl⟩ rfl rfl rfl rfl rfl (by kernel_rfl) Yblm.func8 (by kernel_rfl)
    (of_decide_eq_true (by kernel_rfl)) (by unfold Func.isWrapper; first | (rw [if_pos (by decide +kernel)]; kernel_rfl) | (rw [if_neg (by decide +kernel)]; exact ⟨rfl, rfl⟩))
    (fun os started H enc _ => lifted os started H enc)

end Go.Proofs.Ymbrbl.lawS930010GWords
namespace Go.Proofs.Ymbrbl
/-- THE STATEMENT. -/
theorem lawS930010GWords_proved : Rows.LawS930010GWordsSaid := lawS930010GWords.over
end Go.Proofs.Ymbrbl
