/-
  The walk of LawS930010LFrame. Own text.
-/
import Derived.Test.YmbrbmLScript
import Derived.Test.YmbrbmLMem
import Derived.Test.YmbrbmRowBuild
namespace Go.Proofs.Ymbrbm
open Go.RowKit

set_option maxRecDepth 100000 in
set_option maxHeartbeats 400000 in
theorem lframe_big (a : Option Addr) (m c : Nat) (op : Int) (s : Str) (w : World) (h : 256 < m) :
    Calls Ybmm.prog 13 #[.slice a m c, .int .u8 op, Sv s] w fun e w' => e = .returned (.bool true) ∧ Below w.heap.size w w' := by
  have hd : decide ((256 : Int) < (m : Int)) = true := decide_eq_true (by omega)
  go_enter Ybmm.func13, Ybmm.ntmps13
  go_wp2
  go_ret
  exact ⟨rfl, Below.refl _ _⟩

theorem not_added {T : TT} {P S : List Str} {q : Str} (G : Good T P S) (h : ¬ (valid q = true ∧ q ∉ S)) : insS S q = S ∧ insPs P q = P ∧ codeI S q ≠ 0 := by
  refine ⟨by unfold insS; rw [if_neg h], ?_, ?_⟩
  · by_cases hv : valid q = true
    · by_cases hq : q ∈ S
      · exact insPs_same G (G.sub _ hq)
      · exact absurd ⟨hv, hq⟩ h
    · unfold insPs; rw [if_neg hv]
  · unfold codeI
    by_cases hv : valid q = true
    · by_cases hq : q ∈ S
      · rw [if_pos hv, if_pos hq]; decide
      · exact absurd ⟨hv, hq⟩ h
    · rw [if_neg hv]; decide

set_option maxRecDepth 100000 in
set_option maxHeartbeats 4000000 in
theorem lframe_walk (a : Option Addr) (b off m c : Nat) (O : List (Nat × Bool × Str)) (op : Nat) (s : Str) (w : World) (ha : 0 < m → a = some ⟨b, off, none⟩) (hs : OpsL w b off m O) (hm : m ≤ 256) (hop : op ≤ 255) (hsl : s.length ≤ maxLen) :
    Calls Ybmm.prog 13 #[.slice a m c, .int .u8 op, Sv s] w fun e w' => e = .returned (.bool true) ∧ Below w.heap.size w w' := by
  have hdm : decide ((256 : Int) < (m : Int)) = false := decide_eq_false (by omega)
  have ls := lscript_calls a b off m c O w ha hs hm
  have LS := hide2 ls
  obtain ⟨B, hB⟩ : ∃ B, w.heap.size = B := ⟨_, rfl⟩
  have HB := hide2 hB
  have HSL := hide2 hsl
  clear ha hs ls hB hsl
  go_enter Ybmm.func13, Ybmm.ntmps13
  go_wp2_with fail
  refine LS.out.mono ?_
  rintro e w1 ⟨prev, rfl, hpl, h, T, t, P, S, G, hP, hS, bel⟩
  have lw := lword_calls op s prev w1 hop HSL.out hpl
  rw [HB.out] at t bel ⊢
  have hw1 : B ≤ w1.heap.size := by have := bel.size; have := HB.out; omega
  have hlen := G.tree.len
  have hTl : T.wd.length ≤ 100000 := by omega
  have LW := hide2 lw
  have T1 := hide2 t
  have HG := hide2 G
  have HLEN := hide2 hlen
  clear lw t G LS hlen
  go_wp2_with fail
  refine LW.out.mono ?_
  rintro e w2 ⟨q, rfl, hql, b1⟩
  have t2 := T1.out.below b1
  have bel2 := bel.trans (b1.mono hw1)
  have hw2 : B ≤ w2.heap.size := by have := b1.size; omega
  obtain ⟨hN, hW, hBv⟩ := h
  have T2 := hide2 t2
  have c0 := (t2.alloc (.cells #[] 69)).mid.c0
  dsimp only at c0
  clear t2 T1 LW bel b1
  go_wp2_with (at_builtin; go_must (refine wpList_copy (.tmp 40) (.tmp 44) 25 69 26 208 _ rfl rfl Ybmm.underlying25 infoRow rfl (by decide) (by decide) B _ _ _ T2.out.rN (ints_one' _) rfl w2.heap.size rfl rfl (by omega) ?_))
  intro u1 w3 oN b2
  have t3 := T2.out.below b2
  have T3 := hide2 t3
  have ON := hide2 oN
  have c1 := (t3.alloc (.cells #[] 4)).mid.c1
  dsimp only at c1
  clear t3 oN c0
  go_wp2_with (at_builtin; go_must (refine wpList_copy (.tmp 46) (.tmp 50) 26 4 1 1 _ rfl rfl Ybmm.underlying26 infoBool rfl (by decide) (by decide) B _ _ _ T3.out.rW (bools_one' _) rfl w3.heap.size rfl rfl (by omega) ?_))
  intro u2 w4 oW b3
  have t4 := T3.out.below b3
  have T4 := hide2 t4
  have OW := hide2 oW
  have c2 := (t4.alloc (.cells #[] 3)).mid.c2
  dsimp only at c2
  clear t4 oW c1
  go_wp2_with (at_builtin; go_must (refine wpList_copy (.tmp 52) (.tmp 56) 27 3 1 8 _ rfl rfl Ybmm.underlying27 infoInt rfl (by decide) (by decide) B _ _ _ T4.out.rB (ints_one' _) rfl w4.heap.size rfl rfl (by omega) ?_))
  intro u3 w5 oB b4
  have t5 := T4.out.below b4
  have cop : Cop w5 w2.heap.size B ⟨hN, hW, hBv⟩ u1 u2 u3 T := by
    refine ⟨own_below (own_below ON.out b3) b4, own_mono (own_below OW.out b4) b2.size, own_mono oB (Nat.le_trans b2.size b3.size), fun k hk => ?_⟩
    have hk1 := (T2.out.foot_lt k hk).2
    have := b2.size
    have := b3.size
    refine ⟨fun e => ?_, fun e => ?_, fun e => ?_⟩
    · have := (ON.out.lt k e).1; omega
    · have := (OW.out.lt k e).1; omega
    · have := (oB.lt k e).1; omega
  have bel5 : Below B w w5 := ((bel2.trans (b2.mono hw2)).trans (b3.mono (Nat.le_trans hw2 b2.size))).trans (b4.mono (Nat.le_trans hw2 (Nat.le_trans b2.size b3.size)))
  have hw5 : B ≤ w5.heap.size := by have := b2.size; have := b3.size; have := b4.size; omega
  obtain ⟨x1, y1, rfl⟩ := ownsRow_slice cop.oN
  obtain ⟨x2, y2, rfl⟩ := ownsRow_slice cop.oW
  obtain ⟨x3, y3, rfl⟩ := ownsRow_slice cop.oB
  have T5 := hide2 t5
  have CP := hide2 cop
  have hC5 : w2.heap.size ≤ w5.heap.size := Nat.le_trans b2.size (Nat.le_trans b3.size b4.size)
  clear t5 cop oB c2 b2 b3 b4 ON OW T2 T3 T4 bel2
  have hBC := hw2
  generalize w2.heap.size = C at *
  have ic := insert_calls B B ⟨hN, hW, hBv⟩ T P S q w5 T5.out HG.out (by omega) (by omega) (by omega) hw5
  by_cases hadd : valid q = true ∧ q ∉ S
  · obtain ⟨hva, hqS⟩ := hadd
    have hcd : codeI S q = 0 := by unfold codeI; rw [if_pos hva, if_neg hqS]
    rw [hcd] at ic
    have IC := hide2 ic
    have HVA := hide2 hva
    have HQS := hide2 hqS
    clear ic hcd hva hqS
    go_wp2_with fail
    refine IC.out.mono ?_
    rintro e w6 ⟨rfl, h6, T6, t6, G6, s6⟩
    have cp6 := (CP.out.stp s6).to3
    have bel6 := bel5.trans (s6.t.below (fun k hk => (T5.out.foot_lt k hk).1) hw5)
    have hw6 : B ≤ w6.heap.size := Nat.le_trans hw5 s6.t.size
    have hC6 : C ≤ w6.heap.size := Nat.le_trans hC5 s6.t.size
    obtain ⟨lf, hle⟩ := lframe HG.out G6 HVA.out HQS.out (nxlen T5.out) (bllen T5.out)
    have hlen6 := G6.tree.len
    have nd := G6.tree.paths.nodup
    have hblb : ∀ n, n < (insPs P q).length → 0 ≤ T6.bl.getD n 0 ∧ T6.bl.getD n 0 ≤ 1000 := fun n hn => by
      rw [G6.bl n hn]
      have h1 := cnt_le (insS S q) ((insPs P q).getD n [])
      have h2 := insS_len S q
      omega
    have hPl : (insPs P q).length ≤ 100000 := by have := insPs_len P q; omega
    rw [← HLEN.out] at lf hle
    have lg := lgood_calls q w6 (by unfold maxLen; omega)
    rw [HVA.out] at lg
    have LG := hide2 lg
    clear s6 G6 IC CP T5 HG HLEN HVA HQS lg bel5
    generalize insPs P q = P' at *
    obtain ⟨N, hNe⟩ : ∃ N, P'.length = N := ⟨_, rfl⟩
    obtain ⟨old, hold⟩ : ∃ old, T.wd.length = old := ⟨_, rfl⟩
    have hN0 : 0 < N := by have := lf.root.1; omega
    rw [hNe] at hlen6 hPl hle
    rw [hold] at hle lf cp6 hTl ⊢
    obtain ⟨gN, cN, gW, cW, gB, cB, rfl⟩ := to_hd t6 (by omega)
    rw [hlen6] at t6 cp6
    have V6 := hd_view hlen6 t6
    have d0 := V6.c0
    have d1 := V6.c1
    have d2 := V6.c2
    have T6h := hide2 t6
    have CP6 := hide2 cp6
    have LF := hide2 lf
    have HNE := hide2 hNe
    have HLN := hide2 hlen6
    have ND := hide2 nd
    have HBB := hide2 hblb
    have hne : ((N : Int) != (N : Int)) = false := by simp
    have hd3 : decide ((N : Int) < (old : Int)) = false := decide_eq_false (by omega)
    have hd5 : decide (N < old) = false := decide_eq_false (by omega)
    have hd4 : ((N : Int) == 0) = false := beq_eq_false_iff_ne.2 (by omega)
    clear t6 cp6 lf hNe hlen6 nd hblb V6 hold
    go_wp2_with (go_at_call 39; refine LG.out.mono ?_; rintro e w' ⟨rfl, he⟩; obtain rfl := he.symm)
    go_loopw [10, 11, 12, 17] (fun v1 v2 v3 i wr => ∃ (k : Nat) (z1 z2 z3 : Option Addr) (c1 c2 c3 : Nat), i = .int .i64 k ∧ old ≤ k ∧ k ≤ N ∧ v1 = .slice z1 k c1 ∧ v2 = .slice z2 k c2 ∧ v3 = .slice z3 k c3 ∧ CpE wr C B (hd gN cN gW cW gB cB N) v1 v2 v3 k (T.ext (k - old)) ∧ TrieAt wr B B (hd gN cN gW cW gB cB N) T6 ∧ C ≤ wr.heap.size ∧ Below B w wr) (fun _ _ _ i _ => N - (intOf i).toNat)
    case atStart => exact ⟨old, x1, x2, x3, y1, y2, y3, rfl, Nat.le_refl _, hle, rfl, rfl, rfl, by rw [Nat.sub_self, ext_zero]; exact CP6.out, T6h.out, hC6, bel6⟩
    case round =>
      obtain ⟨k, z1, z2, z3, c1, c2, c3, rfl, hk1, hk2, rfl, rfl, rfl, cp, t, hC, bel⟩ := hrel
      have hwr : B ≤ wr.heap.size := by have := bel.size; have := HB.out; omega
      by_cases hlt : k < N
      · obtain ⟨s1, s2, s3⟩ := ext_step T (k - old)
        have CPk := hide2 cp
        have Tk := hide2 t
        have S1 := hide2 s1
        have S2 := hide2 s2
        have S3 := hide2 s3
        clear cp t s1 s2 s3
        go_wp2_with (at_builtin; go_must (refine wpList_app_row (.tmp 152) (.tmp 154) 25 69 26 208 _ rfl rfl Ybmm.underlying25 infoRow rfl (by decide) (by decide) C k _ _ rfl CPk.out.oN _ zrow rfl rfl zrow_one wr.heap.size rfl rfl (by omega) hC ?_))
        intro g1 k1 w7 o7 l7
        obtain ⟨cp7, t7⟩ := CPk.out.appN Tk.out l7 o7
        have b7 := bel.trans (l7.toBelow (fun k hk => Nat.le_trans hBC (CPk.out.oN.lt k hk).1) hwr)
        have hC7 : C ≤ w7.heap.size := Nat.le_trans hC l7.t.size
        have hw7 : B ≤ w7.heap.size := Nat.le_trans hBC hC7
        have CP7 := hide2 cp7
        have T7 := hide2 t7
        clear cp7 t7 o7 l7 CPk Tk
        go_wp2_with (at_builtin; go_must (refine wpList_app_row (.tmp 156) (.tmp 157) 26 4 1 1 _ rfl rfl Ybmm.underlying26 infoBool rfl (by decide) (by decide) C k _ _ rfl CP7.out.oW _ [.bool false] rfl rfl (one1 rfl) w7.heap.size rfl rfl (by omega) hC7 ?_))
        intro g2 k2 w8 o8 l8
        obtain ⟨cp8, t8⟩ := CP7.out.appW T7.out l8 o8
        have b8 := b7.trans (l8.toBelow (fun k hk => Nat.le_trans hBC (CP7.out.oW.lt k hk).1) hw7)
        have hC8 : C ≤ w8.heap.size := Nat.le_trans hC7 l8.t.size
        have hw8 : B ≤ w8.heap.size := Nat.le_trans hBC hC8
        have CP8 := hide2 cp8
        have T8 := hide2 t8
        clear cp8 t8 o8 l8 CP7 T7
        go_wp2_with (at_builtin; go_must (refine wpList_app_row (.tmp 159) (.tmp 160) 27 3 1 8 _ rfl rfl Ybmm.underlying27 infoInt rfl (by decide) (by decide) C k _ _ rfl CP8.out.oB _ [.int .i64 0] rfl rfl (one1 rfl) w8.heap.size rfl rfl (by omega) hC8 ?_))
        intro g3 k3 w9 o9 l9
        obtain ⟨cp9, t9⟩ := CP8.out.appB T8.out l9 o9
        have b9 := b8.trans (l9.toBelow (fun k hk => Nat.le_trans hBC (CP8.out.oB.lt k hk).1) hw8)
        have hC9 : C ≤ w9.heap.size := Nat.le_trans hC8 l9.t.size
        rw [S1.out, S2.out, S3.out] at cp9
        have CP9 := hide2 cp9
        have T9 := hide2 t9
        clear cp9 t9 o9 l9 CP8 T8
        go_wp2
        go_roundw
        case rel => exact ⟨k + 1, _, _, _, _, _, _, by go_num, by omega, by omega, rfl, rfl, rfl, by rw [show k + 1 - old = k - old + 1 by omega]; exact CP9.out, T9.out, hC9, b9⟩
        case measure => simp [intOf]; omega
      · obtain rfl : N = k := by omega
        obtain ⟨wo, rfl⟩ : ∃ wo, wo = wr := ⟨_, rfl⟩
        obtain ⟨f1, p1, i1, _, _⟩ := cp.oN.form hN0
        obtain ⟨f2, p2, i2, _, _⟩ := cp.oW.form hN0
        obtain ⟨f3, p3, i3, _, _⟩ := cp.oB.form hN0
        obtain ⟨rfl, rfl⟩ : z1 = some ⟨f1, 0, none⟩ ∧ c1 = p1 := by simpa using i1
        obtain ⟨rfl, rfl⟩ : z2 = some ⟨f2, 0, none⟩ ∧ c2 = p2 := by simpa using i2
        obtain ⟨rfl, rfl⟩ : z3 = some ⟨f3, 0, none⟩ ∧ c3 = p3 := by simpa using i3
        have CPo := hide2 cp
        have To := hide2 t
        have m1 := run_makeW N N (Nat.le_refl _) (by omega)
        have m2 := run_makeB N N (Nat.le_refl _) (by omega)
        clear cp t i1 i2 i3 CP6 T6h d0 d1 d2 LG
        go_wp2
        generalize hK : wo.heap.size = K at *
        have HK := hide2 hK
        have hBK : B ≤ K := by omega
        clear hK m1 m2
        have oL0 := made_bools wo N K (by have := HK.out; omega) (by omega)
        have oM0 := made_ints (wo.alloc (.cells (falses N) 4)) N K (by have := HK.out; simp; omega) (by omega)
        have oL1 := oL0.alloc (.cells (zers N) 3)
        simp only [World.size_alloc, HK.out] at oL1 oM0
        have bm : Below K wo ((wo.alloc (.cells (falses N) 4)).alloc (.cells (zers N) 3)) := ((Below.refl K wo).alloc (by have := HK.out; omega) _).alloc (by have := HK.out; simp; omega) _
        have OL0 := hide2 oL1
        have OM0 := hide2 oM0
        have BM := hide2 bm
        clear oL0 oL1 oM0 bm
        go_loopw [20] (fun i wr => ∃ (k m : Nat) (M : List Int), i = .int .i64 k ∧ k ≤ N ∧ k + m = N ∧ wr.ownsRow K 4 1 (.slice (some ⟨K, 0, none⟩) N N) N ((List.replicate N false).map .bool) ∧ wr.ownsRow K 3 1 (.slice (some ⟨K + 1, 0, none⟩) N N) N (M.map (.int .i64)) ∧ M = neg k m ∧ Below K wo wr) (fun i _ => N - (intOf i).toNat)
        case atStart => exact ⟨0, N, _, rfl, Nat.zero_le _, Nat.zero_add _, OL0.out, OM0.out, by simp [neg], BM.out⟩
        case round =>
          obtain ⟨k, m, M, rfl, hkN, hkm, oL, oM, hM, bx⟩ := hrel
          have HM := hide2 hM
          have HKM := hide2 hkm
          clear hM hkm
          by_cases hlt3 : k < N
          · obtain ⟨m, rfl⟩ : ∃ m', m = m' + 1 := ⟨m - 1, by have := HKM.out; omega⟩
            have hcell := own_cell oM k (.int .i64 0) (by rw [List.getElem?_map, HM.out, neg_get]; rfl)
            have hfr := oM.frozenAt k
            have oM2 := (oM.stored k (.int .i64 (-1))).1
            rw [← List.map_set, HM.out, neg_set] at oM2
            have oL2 := own_store oL (K + 1) (by simp [Value.ownBlock]) k (.int .i64 (-1))
            have bx2 : Below K wo (wr.setCell ⟨K + 1, k, none⟩ (.int .i64 (-1))) := bx.setCell (p := ⟨K + 1, k, none⟩) (Nat.le_succ K) _
            have OL2 := hide2 oL2
            have OM2 := hide2 oM2
            have BX2 := hide2 bx2
            clear oL oM oM2 oL2 bx2
            go_wp2
            go_roundw
            case rel => exact ⟨k + 1, m, _, by go_num, by omega, by have := HKM.out; omega, OL2.out, OM2.out, rfl, BX2.out⟩
            case measure => simp [intOf]; omega
          · obtain rfl : m = 0 := by have := HKM.out; omega
            obtain rfl : N = k := by omega
            rw [HM.out, neg_all P' q N HNE.out] at oM
            have hcell := own_cell oL 0 (.bool false) (by simp [hN0])
            have hfr := oL.frozenAt 0
            have oL2 := (oL.stored 0 (.bool true)).1
            rw [← List.map_set] at oL2
            have hz := onL_zero P' q ND.out LF.out.root.1 LF.out.root.2
            rw [HNE.out] at hz
            rw [hz] at oL2
            have oM2 := own_store oM K (by simp [Value.ownBlock]) 0 (.bool true)
            have bx2 : Below K wo (wr.setCell ⟨K, 0, none⟩ (.bool true)) := bx.setCell (p := ⟨K, 0, none⟩) (Nat.le_refl K) _
            have OL2 := hide2 oL2
            have OM2 := hide2 oM2
            have BX2 := hide2 bx2
            clear oL oM oM2 oL2 bx2 hz
            go_wp2
            go_loopw [21, 22] (fun ev iv wr => ∃ (i e : Nat) (L : List Bool) (M : List Int), iv = .int .i64 i ∧ ev = .int .i64 e ∧ i ≤ q.length ∧ e < N ∧ P'.getD e [] = q.take i ∧ wr.ownsRow K 4 1 (.slice (some ⟨K, 0, none⟩) N N) N (L.map .bool) ∧ wr.ownsRow K 3 1 (.slice (some ⟨K + 1, 0, none⟩) N N) N (M.map (.int .i64)) ∧ L = onL P' q i ∧ M = stL P' q i ∧ Below K wo wr) (fun _ iv _ => q.length - (intOf iv).toNat)
            case atStart => exact ⟨0, 0, _, _, rfl, rfl, Nat.zero_le _, hN0, LF.out.root.2, OL2.out, OM2.out, rfl, rfl, BX2.out⟩
            case round =>
              obtain ⟨i, e, L, M, rfl, rfl, hi, heN, hPe, oL, oM, hL, hM, by4⟩ := hrel
              have HPE := hide2 hPe
              have HL := hide2 hL
              have HM2 := hide2 hM
              clear hPe hL hM
              by_cases hlt4 : i < q.length
              · obtain ⟨l, m4, hl, hql4, hnx, hem, hmN, hPm⟩ := LF.out.rise i e hlt4 (by rw [HNE.out]; exact heN) HPE.out
                rw [HNE.out] at hmN
                have V := hd_view HLN.out (To.out.below (by rw [HK.out]; exact by4))
                have d0 := V.c0
                have dN := V.N e l heN hl
                rw [hnx] at dN
                have hsz : i < (⟨q.toArray⟩ : ByteArray).size := hlt4
                obtain ⟨ch, hch⟩ : ∃ ch : UInt8, ((⟨q.toArray⟩ : ByteArray)[i]'hsz) = ch := ⟨_, rfl⟩
                have hch2 : q.getD i 0 = ch := by
                  rw [List.getD_eq_getElem?_getD, List.getElem?_eq_getElem hlt4, Option.getD_some]
                  exact hch
                have hcn : (ch.toNat : Int) = 97 + (l : Int) := by rw [← hch2, hql4]; simp
                have hsub : (97 : Int) + (l : Int) - 97 = (l : Int) := by omega
                have on1 := onL_next (q := q) ND.out hlt4 (by rw [HNE.out]; exact hmN) hPm
                have st1 := stL_next (q := q) ND.out hlt4 (by rw [HNE.out]; exact heN) HPE.out hql4
                obtain ⟨zv, hzv⟩ := get_someI (L := M) (n := N) (i := e) (by rw [HM2.out, stL_len, HNE.out]) heN
                obtain ⟨bv, hbv⟩ := get_some (L := L) (n := N) (i := m4) (by rw [HL.out, onL_len, HNE.out]) hmN
                have dS := own_cell oM e _ hzv
                have fS := oM.frozenAt e
                have oM2 := (oM.stored e (.int .i64 (l : Int))).1
                rw [← List.map_set, HM2.out, st1] at oM2
                have oL1 := own_store oL (K + 1) (by simp [Value.ownBlock]) e (.int .i64 (l : Int))
                have dO := own_cell oL1 m4 _ hbv
                have fO := oL1.frozenAt m4
                have oL2 := (oL1.stored m4 (.bool true)).1
                rw [← List.map_set, HL.out, on1] at oL2
                have oM3 := own_store oM2 K (by simp [Value.ownBlock]) m4 (.bool true)
                have by5 : Below K wo ((wr.setCell ⟨K + 1, e, none⟩ (.int .i64 (l : Int))).setCell ⟨K, m4, none⟩ (.bool true)) := (by4.setCell (p := ⟨K + 1, e, none⟩) (Nat.le_succ K) _).setCell (p := ⟨K, m4, none⟩) (Nat.le_refl K) _
                have hwp : IntKind.i64.wrap (l : Int) = (l : Int) := by rw [IntKind.wrap_i64]; omega
                have hda : decide ((m4 : Int) ≤ (e : Int)) = false := decide_eq_false (by omega)
                have hdb : decide ((N : Int) ≤ (m4 : Int)) = false := decide_eq_false (by omega)
                have hda' : decide (m4 ≤ e) = false := decide_eq_false (by omega)
                have hdb' : decide (N ≤ m4) = false := decide_eq_false (by omega)
                have OL2' := hide2 oL2
                have OM3 := hide2 oM3
                have BY5 := hide2 by5
                have HPM := hide2 hPm
                clear oL oM oM2 oL1 oL2 oM3 by5 on1 st1 hzv hbv hPm V hnx hch2 hql4
                go_wp2
                go_roundw
                case rel => exact ⟨i + 1, m4, _, _, by go_num, rfl, by omega, hmN, HPM.out, OL2'.out, OM3.out, rfl, rfl, BY5.out⟩
                case measure => simp [intOf]; omega
              · obtain rfl : i = q.length := by omega
                obtain ⟨wz, rfl⟩ : ∃ wz, wz = wr := ⟨_, rfl⟩
                have hPq := HPE.out
                rw [List.take_length] at hPq
                obtain ⟨E, hE⟩ : ∃ E, T.ext (N - old) = E := ⟨_, rfl⟩
                have fbl := LF.out.bl
                have fwd := fun n hn => LF.out.wd n e hn (by rw [HNE.out]; exact heN) hPq
                have fnx := LF.out.nx
                have fon := LF.out.on
                have flast := LF.out.last e (by rw [HNE.out]; exact heN) hPq
                rw [HNE.out, hE] at fbl fnx flast
                rw [HNE.out] at fon
                simp only [HNE.out, hE] at fwd
                have vv := hd_view HLN.out (To.out.below (by rw [HK.out]; exact by4))
                have cv := cview (CPo.out.below (by rw [HK.out]; exact by4))
                rw [hE] at cv
                rw [HL.out] at oL
                rw [HM2.out] at oM
                have fO := fun n (hn : n < N) => own_cell oL n _ (onL_get (q := q) (by rw [HNE.out]; exact hn))
                have fS := fun n (hn : n < N) => own_cell oM n _ (stL_get (q := q) (by rw [HNE.out]; exact hn))
                have fbb := HBB.out
                rw [HNE.out] at fbb
                have FBB := hide2 fbb
                have FBL := hide2 fbl
                have FWD := hide2 fwd
                have FNX := hide2 fnx
                have FON := hide2 fon
                have VV := hide2 vv
                have CV := hide2 cv
                have FO := hide2 fO
                have FS := hide2 fS
                have d0 := vv.c0
                have d1 := vv.c1
                have d2 := vv.c2
                have dlast := cv.W e heN
                rw [flast] at dlast
                have belz : Below B w wz := bel.trans (by4.mono hBK)
                clear fbb fbl fwd fnx fon vv cv fO fS flast oL oM hE hPq HPE HL HM2 HBB To CPo OL2 OM2 BX2 OL0 OM0 BM
                go_wp2
                go_loopw [25] (fun iv wr => ∃ n m : Nat, iv = .int .i64 n ∧ n ≤ N ∧ wr = wz.drewN m) (fun iv _ => N - (intOf iv).toNat)
                case atStart => exact ⟨0, 0, rfl, Nat.zero_le _, rfl⟩
                case round =>
                  obtain ⟨n, m5, rfl, hnN, rfl⟩ := hrel
                  by_cases hlt5 : n < N
                  · have dO := FO.out n hlt5
                    have dB := VV.out.B n hlt5
                    have dE := CV.out.B n hlt5
                    have dW := VV.out.W n hlt5
                    have dF := CV.out.W n hlt5
                    have eb1 := FBL.out n hlt5
                    have ew1 := FWD.out n hlt5
                    have eo1 := FON.out n
                    obtain ⟨bb1, bb2⟩ := FBB.out n hlt5
                    generalize (P'.getD n []).isPrefixOf q = pb at dO eb1 eo1
                    generalize T6.bl.getD n 0 = tb at dB eb1 bb1 bb2
                    generalize E.bl.getD n 0 = eb at dE eb1
                    rw [ew1] at dW
                    generalize E.wd.getD n false = ewb at dW dF
                    have EB1 := hide2 eb1
                    have EO1 := hide2 eo1
                    have z1 : (0 : Int) ≤ (n : Int) := by omega
                    have z2 : (n : Int) < (N : Int) := by omega
                    have htt : (tb != tb) = false := by simp
                    clear eb1 ew1 eo1
                    go_upto_region 51 with (fail)
                    go_cut [226] (fun s wc => s = .bool false ∧ wc = wz.drewN m5)
                    case first =>
                      by_cases hno : old ≤ n
                      · have hpb := EO1.out hno hlt5
                        subst hpb
                        have hdg : decide ((old : Int) ≤ (n : Int)) = true := decide_eq_true (by omega)
                        go_wp2
                        go_meet
                        case rel => exact ⟨rfl, rfl⟩
                      · have hdg : decide ((old : Int) ≤ (n : Int)) = false := decide_eq_false (by omega)
                        go_wp2
                        go_meet
                        case rel => exact ⟨rfl, rfl⟩
                    case rest =>
                      obtain ⟨rfl, rfl⟩ := hcut
                      go_upto_if 234 with (fail)
                      go_cut [26] (fun s wc => s = .int .i64 tb ∧ wc = wz.drewN m5)
                      case first =>
                        cases pb
                        · have htb := EB1.out
                          rw [if_neg (by simp), Int.add_zero] at htb
                          subst htb
                          go_wp2
                          go_meet
                          case rel => exact ⟨rfl, rfl⟩
                        · have htb := EB1.out
                          rw [if_pos rfl] at htb
                          have hwp : IntKind.i64.wrap (eb + 1) = tb := by rw [IntKind.wrap_i64]; omega
                          have hwp2 : eb + 1 = tb := htb.symm
                          have hwp3 : IntKind.i64.wrap tb = tb := by rw [IntKind.wrap_i64]; omega
                          clear htb
                          go_wp2
                          go_meet
                          case rel => exact ⟨rfl, rfl⟩
                      case rest =>
                        obtain ⟨rfl, rfl⟩ := hcut
                        go_upto_region 58 with (fail)
                        go_cut [262] (fun s wc => s = .bool false ∧ ∃ m', wc = wz.drewN m')
                        case first =>
                          cases ewb
                          · rw [Bool.false_or] at dW
                            obtain ⟨bn, hbn, hbn2⟩ : ∃ bn, decide (n = e) = bn ∧ ((n : Int) == (e : Int)) = bn := by
                              refine ⟨_, rfl, ?_⟩
                              rw [Bool.eq_iff_iff, beq_iff_eq, decide_eq_true_eq]
                              omega
                            have hbn3 : (n == e) = bn := by rw [← hbn, Bool.eq_iff_iff, beq_iff_eq, decide_eq_true_eq]
                            rw [hbn] at dW
                            have hbb : (bn != bn) = false := by simp
                            go_quiet (fail)
                            go_wp2
                            go_meet
                            case rel => exact ⟨rfl, _, World.drewN_drewN _ _ _⟩
                          · rw [Bool.true_or] at dW
                            go_quiet (fail)
                            go_wp2
                            go_meet
                            case rel => exact ⟨rfl, _, World.drewN_drewN _ _ _⟩
                        case rest =>
                          obtain ⟨rfl, m6, rfl⟩ := hcut
                          go_wp2
                          go_loopw [27] (fun lv wr => ∃ l m : Nat, lv = .int .i64 l ∧ l ≤ 26 ∧ wr = wz.drewN m) (fun lv _ => 26 - (intOf lv).toNat)
                          case atStart => exact ⟨0, m6, rfl, Nat.zero_le _, rfl⟩
                          case round =>
                            obtain ⟨l, m7, rfl, hl26, rfl⟩ := hrel
                            by_cases hlt6 : l < 26
                            · have dA := VV.out.N n l hlt5 hlt6
                              have dC := CV.out.N n l hlt5 hlt6
                              have dS := FS.out n hlt5
                              have fx := FNX.out n l hlt5 hlt6
                              generalize T6.nxt n l = va at dA fx
                              generalize E.nxt n l = vc at dC fx
                              have z3 : (0 : Int) ≤ (l : Int) := by omega
                              have z4 : (l : Int) < 26 := by omega
                              by_cases hac : va = vc
                              · subst hac
                                have hq1 : (va == va) = true := by simp
                                clear fx
                                go_wp2
                                go_quiet (fail)
                                go_wp2
                                go_roundw
                                case rel => exact ⟨l + 1, _, by go_num, by omega, rfl⟩
                                case measure => simp [intOf]; omega
                              · rcases fx with fx | ⟨rfl, fx2, fx3⟩
                                · exact absurd fx hac
                                · rw [fx2] at dS
                                  have hq1 : (va == 0) = false := beq_eq_false_iff_ne.2 hac
                                  have hq2 : ((l : Int) != (l : Int)) = false := by simp
                                  have hq3 : decide (va < (old : Int)) = false := decide_eq_false (by omega)
                                  clear fx2
                                  go_wp2
                                  go_quiet (fail)
                                  go_wp2
                                  go_roundw
                                  case rel => exact ⟨l + 1, _, by go_num, by omega, rfl⟩
                                  case measure => simp [intOf]; omega
                            · go_wp2
                              go_roundw
                              case rel => exact ⟨n + 1, _, by go_num, by omega, rfl⟩
                              case measure => simp [intOf]; omega
                  · go_wp2
                    go_ret
                    exact ⟨rfl, by rw [HB.out]; exact Below.drewN belz m5⟩
  · obtain ⟨e1, e2, e3⟩ := not_added HG.out hadd
    rw [e1, e2] at ic
    have hcn : ((codeI S q : Int) != 0) = true := by rw [bne_iff_ne]; omega
    have IC := hide2 ic
    clear ic e1 e2 e3 hadd
    generalize codeI S q = cd at *
    go_wp2_with fail
    refine IC.out.mono ?_
    rintro e w6 ⟨rfl, h6, T6, t6, G6, s6⟩
    have cp6 := CP.out.stp s6
    have bel6 := bel5.trans (s6.t.below (fun k hk => (T5.out.foot_lt k hk).1) hw5)
    obtain rfl := HG.out.det G6 (fun x => Iff.rfl) (nxlen T5.out) (nxlen t6) (bllen T5.out) (bllen t6)
    have hnl := nxlen t6
    have hbl := bllen t6
    obtain ⟨vN, vW, vB⟩ := h6
    obtain ⟨aN, cN, e1⟩ := ownsRow_slice t6.rN
    obtain ⟨aW, cW, e2⟩ := ownsRow_slice t6.rW
    obtain ⟨aB, cB, e3⟩ := ownsRow_slice t6.rB
    dsimp only at e1 e2 e3
    subst e1 e2 e3
    have d0 := t6.mid.c0
    have d1 := t6.mid.c1
    have d2 := t6.mid.c2
    dsimp only at d0 d1 d2
    have RN := hide2 t6.rN
    have RW := hide2 t6.rW
    have RB := hide2 t6.rB
    have QN := hide2 cp6.oN
    have QW := hide2 cp6.oW
    have QB := hide2 cp6.oB
    clear t6 cp6 s6 G6 IC CP T5 HLEN HG
    obtain ⟨NX, WD, BL⟩ := T
    dsimp only at *
    generalize hn : WD.length = n at *
    have HNL := hide2 hnl
    have HBL := hide2 hbl
    have HWL := hide2 hn
    clear hnl hbl hn
    have hne : ((n : Int) != (n : Int)) = false := by simp
    go_wp2
    go_loopw [16] (fun i wr => ∃ k : Nat, i = .int .i64 k ∧ k ≤ n ∧ ∃ m, wr = w6.drewN m) (fun i _ => n - (intOf i).toNat)
    case atStart => exact ⟨0, rfl, Nat.zero_le _, 0, rfl⟩
    case round =>
      obtain ⟨j, rfl, hj, m, rfl⟩ := hrel
      by_cases hlt : j < n
      · obtain ⟨gN, kN, f1, _, _⟩ := RN.out.form (by omega)
        obtain ⟨gW, kW, f2, _, _⟩ := RW.out.form (by omega)
        obtain ⟨gB, kB, f3, _, _⟩ := RB.out.form (by omega)
        obtain ⟨g1, k1, f4, _, _⟩ := QN.out.form (by omega)
        obtain ⟨g2, k2, f5, _, _⟩ := QW.out.form (by omega)
        obtain ⟨g3, k3, f6, _, _⟩ := QB.out.form (by omega)
        obtain ⟨rfl, rfl⟩ : aN = some ⟨gN, 0, none⟩ ∧ cN = kN := by simpa using f1
        obtain ⟨rfl, rfl⟩ : aW = some ⟨gW, 0, none⟩ ∧ cW = kW := by simpa using f2
        obtain ⟨rfl, rfl⟩ : aB = some ⟨gB, 0, none⟩ ∧ cB = kB := by simpa using f3
        obtain ⟨rfl, rfl⟩ : x1 = some ⟨g1, 0, none⟩ ∧ y1 = k1 := by simpa using f4
        obtain ⟨rfl, rfl⟩ : x2 = some ⟨g2, 0, none⟩ ∧ y2 = k2 := by simpa using f5
        obtain ⟨rfl, rfl⟩ : x3 = some ⟨g3, 0, none⟩ ∧ y3 = k3 := by simpa using f6
        have gr1 := own_range RN.out (j * 26) ((row26 NX j).map (.int .i64)) (row_at NX j _ rfl)
        have gr3 := own_range QN.out (j * 26) ((row26 NX j).map (.int .i64)) (row_at NX j _ rfl)
        have hs1 : (Ybmm.prog.info? 69).map (·.size) = some ((row26 NX j).map (Value.int .i64)).length := by rw [List.length_map, row26_len NX j n HNL.out hlt]; exact sizeRow
        have l1 := fun n => run_loadAt_mid (P := Ybmm.prog) (w6.drewN n) gN (j * 26) 69 _ _ gr1 Ybmm.underlying69 rfl hs1
        have l2 := fun n => run_loadAt_mid (P := Ybmm.prog) (w6.drewN n) g1 (j * 26) 69 _ _ gr3 Ybmm.underlying69 rfl hs1
        have l3 := fun W : World => run_neq_ints (P := Ybmm.prog) W 69 3 26 Ybmm.underlying69 Ybmm.underlying3 sizeInt (row26 NX j) (row26 NX j) (row26_len NX j n HNL.out hlt) (row26_len NX j n HNL.out hlt)
        rw [show (row26 NX j != row26 NX j) = false from by simp] at l3
        have hg1 : (WD.map Value.bool)[j]? = some (.bool (WD.getD j false)) := by
          simp [List.getD, List.getElem?_eq_getElem (show j < WD.length by have := HWL.out; omega)]
        have hg2 : (BL.map (Value.int .i64))[j]? = some (.int .i64 (BL.getD j 0)) := by
          simp [List.getD, List.getElem?_eq_getElem (show j < BL.length by have := HBL.out; omega)]
        have d3 := own_cell RW.out j _ hg1
        have d4 := own_cell QW.out j _ hg1
        have d5 := own_cell RB.out j _ hg2
        have d6 := own_cell QB.out j _ hg2
        have z1 : (0 : Int) ≤ (j : Int) := by omega
        have z2 : (j : Int) < (n : Int) := by omega
        have z4 : (WD.getD j false != WD.getD j false) = false := by simp
        have z5 : (BL.getD j 0 != BL.getD j 0) = false := by simp
        have z6 := guardRow
        generalize ((row26 NX j).map (Value.int .i64)).toArray = R at l1 l2 l3
        generalize WD.getD j false = wj at d3 d4 z4
        generalize BL.getD j 0 = bj at d5 d6 z5
        clear gr1 gr3 hs1 f1 f2 f3 f4 f5 f6 hg1 hg2
        go_wp2
        refine wp_region_quiet_lit (by kernel_rfl) (by kernel_rfl) ?_
        repeat (first
          | (go_big_quiet_step (fail))
          | (go_big_quiet_want; refine quiet_load_row 69 (.tmp 99) rfl ⟨gN, j * 26, none⟩ rfl R (fun _ ⟨n, hn⟩ => hn ▸ by simpa using l1 (m + n)) ?_; go_simp; go_big_quiet_on)
          | (go_big_quiet_want; refine quiet_load_row 69 (.tmp 103) rfl ⟨g1, j * 26, none⟩ rfl R (fun _ ⟨n, hn⟩ => hn ▸ by simpa using l2 (m + n)) ?_; go_simp; go_big_quiet_on)
          | (go_big_quiet_want; refine quiet_cmp_row .neq 69 (.tmp 100) (.tmp 104) rfl R R rfl rfl (.bool false) z6 l3 ?_; go_simp; go_big_quiet_on))
        refine wpQuiet_nil ?_
        intro _ hw'
        obtain ⟨nq, hw''⟩ := hw'
        subst hw''
        go_wp2
        go_roundw
        case rel => exact ⟨j + 1, by go_num, by omega, _, rfl⟩
        case measure => simp [intOf]; omega
      · go_wp2
        go_ret
        exact ⟨rfl, by rw [HB.out]; exact Below.drewN bel6 m⟩
end Go.Proofs.Ymbrbm
