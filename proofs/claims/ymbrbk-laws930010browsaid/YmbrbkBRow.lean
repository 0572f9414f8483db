/-
  The walk of LawS930010BRow. Own text.
-/
import Derived.Test.YmbrbkMake
import Derived.Test.YmbrbkMem2
import Derived.Deep.QuietTactic
import Derived.BigQuiet
import Derived.Deep.DeepCutAuto
import Derived.Deep.RegionLaw
namespace Go.Proofs.Ymbrbk
open Go.RowKit

theorem heap4 (W : World) (o1 o2 o3 o4 : Obj) : ((((W.alloc o1).alloc o2).alloc o3).alloc o4).heap[W.heap.size]? = some o1 ∧ ((((W.alloc o1).alloc o2).alloc o3).alloc o4).heap[W.heap.size + 1]? = some o2 ∧
    ((((W.alloc o1).alloc o2).alloc o3).alloc o4).heap[W.heap.size + 1 + 1]? = some o3 ∧ ((((W.alloc o1).alloc o2).alloc o3).alloc o4).heap[W.heap.size + 1 + 1 + 1]? = some o4 := by
  show ((((W.heap.push o1).push o2).push o3).push o4)[_]? = _ ∧ ((((W.heap.push o1).push o2).push o3).push o4)[_]? = _ ∧ ((((W.heap.push o1).push o2).push o3).push o4)[_]? = _ ∧ ((((W.heap.push o1).push o2).push o3).push o4)[_]? = _
  simp only [Array.getElem?_push, Array.size_push]
  refine ⟨?_, ?_, ?_, ?_⟩
  · rw [if_neg (by omega), if_neg (by omega), if_neg (by omega), if_pos trivial]
  · rw [if_neg (by omega), if_neg (by omega), if_pos trivial]
  · rw [if_neg (by omega), if_pos trivial]
  · rw [if_pos trivial]
theorem ta_new {X : World} {B p gN gW gB : Nat} {root : Int} (hp : X.heap[p]? = some (.cells #[.slice (some ⟨gN, 0, none⟩) 1 1, .slice (some ⟨gW, 0, none⟩) 1 1, .slice (some ⟨gB, 0, none⟩) 1 1] 32 (0, 0)))
    (hN : X.heap[gN]? = some (.cells (zers 26) 27 (0, 0))) (hW : X.heap[gW]? = some (.cells (falses 1) 4 (0, 0))) (hB : X.heap[gB]? = some (.cells #[.int .i64 root] 3 (0, 0))) (h0 : B ≤ p) (h1 : B ≤ gN) (h2 : B ≤ gW) (h3 : B ≤ gB) :
    TA X.drew B p ⟨.slice (some ⟨gN, 0, none⟩) 1 1, .slice (some ⟨gW, 0, none⟩) 1 1, .slice (some ⟨gB, 0, none⟩) 1 1⟩ 1 1 1 zrow [.bool false] [.int .i64 root] :=
  ⟨h0, hp, ⟨rfl, .inr ⟨gN, 1, _, rfl, h1, hN, Nat.le_refl _, by decide, by simp [zers], by simp [zers, zrow]⟩⟩, ⟨rfl, .inr ⟨gW, 1, _, rfl, h2, hW, Nat.le_refl _, by decide, by simp [falses], by simp [falses]⟩⟩, ⟨rfl, .inr ⟨gB, 1, _, rfl, h3, hB, Nat.le_refl _, by decide, by simp, by simp⟩⟩⟩

/-- After l letters: the root's row leads to the counts of the letters that are there. -/
def Inv (hs : List Bool) (cs : List Int) (l n : Nat) (xN xB : List Value) : Prop :=
  ∀ j, j < 26 → ∃ m : Nat, xN[j]? = some (.int .i64 m) ∧ if j < l ∧ hs.getD j false = true then 0 < m ∧ m < n ∧ xB[m]? = some (.int .i64 (cs.getD j 0)) else m = 0
theorem inv_start (hs : List Bool) (cs : List Int) (root : Int) : Inv hs cs 0 1 zrow [.int .i64 root] := fun j hj => ⟨0, by rw [zrow, List.getElem?_replicate, if_pos hj]; rfl, by simp⟩
theorem inv_no {hs : List Bool} {cs : List Int} {l n : Nat} {xN xB : List Value} (h : Inv hs cs l n xN xB) (hb : hs.getD l false = false) : Inv hs cs (l + 1) n xN xB := by
  intro j hj
  obtain ⟨m, h1, h2⟩ := h j hj
  refine ⟨m, h1, ?_⟩
  by_cases e : j = l
  · subst e; rw [if_neg (by rw [hb]; simp)]; rw [if_neg (by omega)] at h2; exact h2
  · by_cases e2 : j < l ∧ hs.getD j false = true
    · rw [if_pos e2] at h2; rw [if_pos ⟨by omega, e2.2⟩]; exact h2
    · rw [if_neg e2] at h2; rw [if_neg (fun e3 => e2 ⟨by omega, e3.2⟩)]; exact h2
theorem inv_yes {hs : List Bool} {cs : List Int} {l n : Nat} {xN xB : List Value} (h : Inv hs cs l n xN xB) (hl : l < 26) (hn : 0 < n) (hb : hs.getD l false = true) (hB : xB.length = n) (hN : 26 ≤ xN.length) :
    Inv hs cs (l + 1) (n + 1) ((xN ++ zrow).set l (.int .i64 n)) (xB ++ [.int .i64 (cs.getD l 0)]) := by
  intro j hj
  obtain ⟨m, h1, h2⟩ := h j hj
  by_cases e : j = l
  · subst e
    refine ⟨n, by rw [List.getElem?_set_self (by simp; omega)], ?_⟩
    rw [if_pos ⟨by omega, hb⟩]
    exact ⟨hn, by omega, by rw [List.getElem?_append_right (by omega), hB]; simp⟩
  · refine ⟨m, by rw [List.getElem?_set_ne (by omega), List.getElem?_append_left (by omega)]; exact h1, ?_⟩
    by_cases e2 : j < l ∧ hs.getD j false = true
    · rw [if_pos e2] at h2; rw [if_pos ⟨by omega, e2.2⟩]
      exact ⟨h2.1, by omega, by rw [List.getElem?_append_left (by omega)]; exact h2.2.2⟩
    · rw [if_neg e2] at h2; rw [if_neg (fun e3 => e2 ⟨by omega, e3.2⟩)]; exact h2

set_option maxRecDepth 100000 in
set_option maxHeartbeats 400000 in
theorem brow_walk (hs : List Bool) (cs : List Int) (root : Int) (hhs : hs.length = 26) (hcs : cs.length = 26) (w : World) :
    Calls Ybkm.prog 8 #[.agg (hs.map .bool).toArray, .agg (cs.map (.int .i64)).toArray, .int .i64 root] w fun e w' => e = .returned (.bool true) ∧ Below w.heap.size w w' := by
  have m1 := run_makeN 1 1 (Nat.le_refl _) (by omega)
  have m2 := run_makeW 1 1 (Nat.le_refl _) (by omega)
  simp only [Int.cast_ofNat_Int, Nat.one_mul] at m1 m2
  go_enter Ybkm.func8, Ybkm.ntmps8
  go_wp2_with fail
  obtain ⟨W, hW⟩ : ∃ W, W = (w.alloc (.cells (hs.map Value.bool).toArray 50)).alloc (.cells (cs.map (Value.int .i64)).toArray 27) := ⟨_, rfl⟩
  rw [← hW]
  have bW : Below w.heap.size w W := by rw [hW]; exact ((Below.refl _ w).alloc (Nat.le_refl _) _).alloc (by simp) _
  have sW : w.heap.size + 2 = W.heap.size := by rw [hW]; simp
  have eH : W.heap[w.heap.size]? = some (.cells (hs.map Value.bool).toArray 50 (0, 0)) := by rw [hW, Below.heap_alloc _ _ _ (by simp), heap_alloc_new]
  have eC : W.heap[w.heap.size + 1]? = some (.cells (cs.map (Value.int .i64)).toArray 27 (0, 0)) := by
    rw [hW]; have := heap_alloc_new (w.alloc (.cells (hs.map Value.bool).toArray 50)) (.cells (cs.map (Value.int .i64)).toArray 27); simpa using this
  have HH : Hid (W.heap[w.heap.size]? = some (.cells (hs.map Value.bool).toArray 50 (0, 0)) ∧ W.heap[w.heap.size + 1]? = some (.cells (cs.map (Value.int .i64)).toArray 27 (0, 0))) := ⟨eH, eC⟩
  clear eH eC hW
  go_cut [7] (fun s7 wc => ∃ p h, s7 = .pointer (some ⟨p, 0, none⟩) ∧ TA wc W.heap.size p h 1 1 1 zrow [.bool false] [.int .i64 root] ∧ Below W.heap.size W wc)
  case first =>
    go_region
    all_goals
      go_wp2
      go_meet
      case rel =>
        refine ⟨_, _, rfl, ta_new (heap4 W _ _ _ _).2.2.2 ?_ ?_ ?_ ?_ ?_ ?_ ?_, ?_⟩
        all_goals first
          | exact (heap4 W _ _ _ _).1
          | exact (heap4 W _ _ _ _).2.1
          | exact (heap4 W _ _ _ _).2.2.1
          | exact (heap4 W _ _ _ _).2.2.2
          | omega
          | exact ((((((Below.refl _ W).alloc (Nat.le_refl _) _).alloc (by simp) _).alloc (by simp; omega) _).alloc (by simp; omega) _)).drew
  case rest =>
    obtain ⟨p, h0, rfl, t0, b0⟩ := hcut
    clear m1 m2
    go_wp2
    go_loopw [8] (fun i wr => ∃ (l n : Nat) (h : Hd) (xN xW xB : List Value), i = .int .i64 l ∧ l ≤ 26 ∧ 1 ≤ n ∧ n ≤ l + 1 ∧ TA wr W.heap.size p h n n n xN xW xB ∧ Below W.heap.size W wr ∧ Inv hs cs l n xN xB) (fun i _ => 26 - (intOf i).toNat)
    case atStart => exact ⟨0, 1, h0, _, _, _, rfl, by omega, by omega, by omega, t0, b0, inv_start hs cs root⟩
    case round =>
      obtain ⟨l, n, h, xN, xW, xB, rfl, hl, hn1, hn2, t, bel, inv⟩ := hrel
      obtain ⟨vN, vW, vB⟩ := h
      obtain ⟨gN, kN, rfl, _, _⟩ := t.rN.form (by omega)
      obtain ⟨gW, kW, rfl, _, _⟩ := t.rW.form (by omega)
      obtain ⟨gB, kB, rfl, _, _⟩ := t.rB.form (by omega)
      by_cases hl26 : l < 26
      · have eh : wr.cell? ⟨w.heap.size, l, none⟩ = some (.bool (hs.getD l false)) := by
          rw [bel.cell (p := ⟨w.heap.size, l, none⟩) (by show w.heap.size < _; omega), cell_st HH.out.1 l (.bool (hs.getD l false))]
          simp [List.getD, List.getElem?_eq_getElem (show l < hs.length by omega)]
        have ec : ∀ wx : World, Below W.heap.size W wx → wx.cell? ⟨w.heap.size + 1, l, none⟩ = some (.int .i64 (cs.getD l 0)) := fun wx bx => by
          rw [bx.cell (p := ⟨w.heap.size + 1, l, none⟩) (by show w.heap.size + 1 < _; omega), cell_st HH.out.2 l (.int .i64 (cs.getD l 0))]
          simp [List.getD, List.getElem?_eq_getElem (show l < cs.length by omega)]
        have EC : Hid (∀ wx : World, Below W.heap.size W wx → wx.cell? ⟨w.heap.size + 1, l, none⟩ = some (.int .i64 (cs.getD l 0))) := ec
        clear ec
        have IV : Hid (Inv hs cs l n xN xB) := inv
        clear inv
        obtain ⟨c0, c1, c2, f0, f1, f2⟩ := t.mid
        dsimp only at c0 c1 c2
        cases hb : hs.getD l false
        · rw [hb] at eh
          go_wp2
          go_roundw
          case rel => exact ⟨l + 1, n, _, xN, xW, xB, by go_num, by omega, by omega, by omega, t, bel, inv_no IV.out hb⟩
          case measure => simp [intOf]; omega
        · rw [hb] at eh
          obtain ⟨i27, hi27, hz27, hs27, hb27⟩ := info_parts infoRow
          obtain ⟨i4, hi4, hz4, hs4, hb4⟩ := info_parts infoBool
          obtain ⟨i3, hi3, hz3, hs3, hb3⟩ := info_parts infoInt
          have rN := t.rN
          dsimp only at rN
          have hbs := bel.size
          go_wp2_with (first
            | (at_builtin; go_must (refine wpList_append_lies _ rfl (.tmp 34) (.tmp 36) 24 rfl W.heap.size 27 i27 _ 26 208 Ybkm.underlying24 hi27 hz27 hs27 hb27 (by rfl) (by decide) _ n _ rfl (rN.alloc _) ⟨wr.heap.size, 0, none⟩ 1 1 zrow rfl rfl (zrow_news wr _ rfl) zrow_one (by decide) (by unfold maxLen; omega) (by omega) (by simp; omega) _ rfl ?_)))
          intro g1 k1 w1 own1 gr1 at1 lt1
          have M := t.midN gr1
          obtain ⟨t1, s1⟩ := t.stepN gr1 own1 (by simpa using at1)
          obtain ⟨M0, M1, M2, F0, F1, F2⟩ := M
          dsimp only at M0 M1 M2 t1 s1
          have hz1 : wr.heap.size ≤ w1.heap.size := by simpa using s1.t.size
          have rW1 := t1.rW
          dsimp only at rW1
          clear own1 gr1 at1 rN c0 c1 c2 f0 f1 f2
          go_wp2_with (first
            | (at_builtin; go_must (refine wpList_append_lies _ rfl (.tmp 44) (.tmp 45) 25 rfl W.heap.size 4 i4 _ 1 1 Ybkm.underlying25 hi4 hz4 hs4 hb4 (by rfl) (by decide) _ n _ rfl (rW1.alloc _) ⟨w1.heap.size, 0, none⟩ 1 1 [.bool false] rfl rfl (news1 _ _ _ _ (by simp)) (one1 rfl) (by decide) (by unfold maxLen; omega) (by omega) (by simp; omega) _ rfl ?_)))
          intro g2 k2 w2 own2 gr2 at2 lt2
          have M := t1.midW gr2
          obtain ⟨t2, s2⟩ := t1.stepW gr2 own2 (by simpa using at2)
          obtain ⟨N0, N1, N2, G0, G1, G2⟩ := M
          dsimp only at N0 N1 N2 t2 s2
          have hz2 : w1.heap.size ≤ w2.heap.size := by simpa using s2.t.size
          have rB2 := t2.rB
          have s12 := s1.trans s2
          have b2 : Below W.heap.size W (w2.setCell ⟨p, 1, none⟩ (.slice (some ⟨g2, 0, none⟩) (n + 1) k2)) := bel.trans (s12.t.below (fun k hk => (t.foot_lt k hk).1) (by omega))
          have e2 := EC.out _ b2
          dsimp only at rB2
          clear own2 gr2 at2 rW1 M0 M1 M2 F0 F1 F2 t1 s1 s2
          go_wp2
          generalize hX : w2.setCell ⟨p, 1, none⟩ (.slice (some ⟨g2, 0, none⟩) (n + 1) k2) = X at *
          clear hX
          obtain ⟨O0, O1, O2, J0, J1, J2⟩ := t2.mid
          obtain ⟨P1, P2, P3, P4, P5⟩ := t2.apart
          have HP : Hid ((Value.slice (some ⟨gB, 0, none⟩) n kB).ownBlock ≠ some p ∧ (Value.slice (some ⟨gB, 0, none⟩) n kB).ownBlock ≠ some (w.heap.size + 1)) := ⟨P3, fun e => by have := (t2.rB.lt _ e).1; omega⟩
          have hpl := t2.plt
          have hsX : w.heap.size + 1 < X.heap.size := by have := b2.size; omega
          have hXW : W.heap.size ≤ X.heap.size := b2.size
          dsimp only at O0 O1 O2
          generalize hcl : cs.getD l 0 = cl at e2
          have HCL : Hid (cs.getD l 0 = cl) := hcl
          clear hcl
          have z1 : (0 : Int) ≤ (l : Int) := by omega
          have z2 : (l : Int) < 26 := by omega
          clear N0 N1 N2 G0 G1 G2 P1 P2 P3 P4 P5
          go_region_law
            ((refine step_append_lies _ (by rfl) (.tmp 53) (.tmp 57) 26 (by rfl) W.heap.size 3 i3 _ 1 8 Ybkm.underlying26 hi3 hz3 hs3 hb3 (by rfl) (by decide) _ n _ (by rfl) ((rB2.alloc _).drew)
               ⟨X.heap.size, 0, none⟩ 1 1 [.int .i64 cl] (by rfl) (by rfl) (news1 X _ _ _ rfl) (one1 rfl) (by decide) (by unfold maxLen; omega) (by omega) (by simp; omega) (X.heap.size + 1) (by simp) ?_; intro g3 k3 w3 own3 hgrow at3 lt3; have M3 := t2.midB (o := .cells #[.int .i64 cl] 3) (w1 := w3) ⟨hgrow.os, hgrow.tape, hgrow.output, hgrow.size, hgrow.block⟩; have F3 := M3.f2; have C3 := M3.c2))
          all_goals
            have gr3 : (X.alloc (.cells #[.int .i64 cl] 3)).grownBy w3 (Value.slice (some ⟨gB, 0, none⟩) n kB).ownBlock := ⟨hgrow.os, hgrow.tape, hgrow.output, hgrow.size, hgrow.block⟩
            obtain ⟨t3, s3⟩ := t2.stepB gr3 own3 (by simpa using at3)
            dsimp only at t3 s3
            have s13 := s12.trans s3
            have m3 := t3.mid.c0
            dsimp only at m3
            have qc := t3.rN.cellAt l (by omega)
            have qf := t3.rN.frozenAt l
            obtain ⟨v0, hv0⟩ : ∃ v, (xN ++ zrow)[l]? = some (.int .i64 v) := by
              obtain ⟨m, hm, _⟩ := IV.out l hl26
              exact ⟨m, by rw [List.getElem?_append_left (by have := (List.getElem?_eq_some_iff.1 hm).1; omega)]; exact hm⟩
            rw [hv0] at qc
            obtain ⟨t4, s4⟩ := t3.setN l (.int .i64 n)
            have b4 : Below W.heap.size W ((w3.setCell ⟨p, 2, none⟩ (.slice (some ⟨g3, 0, none⟩) (n + 1) k3)).setCell ⟨g1, l, none⟩ (.int .i64 n)) := bel.trans ((s13.trans s4).t.below (fun k hk => (t.foot_lt k hk).1) (by omega))
            have HB : Hid (xB.length = n) := by have := t.rB.1; show xB.length = n; simpa using this
            have HN : Hid (26 ≤ xN.length) := by have := t.rN.1; have h : xN.length = n * 26 := this; show 26 ≤ xN.length; omega
            clear hgrow gr3 own3 at3 t2 s3 rB2 M3 F3 C3 O0 O1 O2 J0 J1 J2
            generalize hY : w3.setCell ⟨p, 2, none⟩ (.slice (some ⟨g3, 0, none⟩) (n + 1) k3) = Y at *
            clear hY
            go_wp2
            go_roundw
            case rel => exact ⟨l + 1, n + 1, _, _, _, _, by go_num, by omega, by omega, by omega, t4, b4, HCL.out ▸ inv_yes IV.out hl26 (by omega) hb HB.out HN.out⟩
            case measure => simp [intOf]; omega
      · have hl27 : 26 ≤ l := by omega
        have IV : Hid (Inv hs cs l n xN xB) := inv
        clear inv
        have c0 := t.mid.c0
        have c2 := t.mid.c2
        dsimp only at c0 c2
        go_wp2
        go_loop [10] (fun i => ∃ j : Nat, i = .int .i64 j ∧ j ≤ 26) (fun i => 26 - (intOf i).toNat)
        case atStart => exact ⟨0, rfl, Nat.zero_le _⟩
        case round =>
          obtain ⟨j, rfl, hj⟩ := hrel
          by_cases hj26 : j < 26
          · obtain ⟨m, hm1, hm2⟩ := IV.out j hj26
            have eh : wr.cell? ⟨w.heap.size, j, none⟩ = some (.bool (hs.getD j false)) := by
              rw [bel.cell (p := ⟨w.heap.size, j, none⟩) (by show w.heap.size < _; omega), cell_st HH.out.1 j (.bool (hs.getD j false))]
              simp [List.getD, List.getElem?_eq_getElem (show j < hs.length by omega)]
            have ec : wr.cell? ⟨w.heap.size + 1, j, none⟩ = some (.int .i64 (cs.getD j 0)) := by
              rw [bel.cell (p := ⟨w.heap.size + 1, j, none⟩) (by show w.heap.size + 1 < _; omega), cell_st HH.out.2 j (.int .i64 (cs.getD j 0))]
              simp [List.getD, List.getElem?_eq_getElem (show j < cs.length by omega)]
            have hcN := own_cell t.rN j _ hm1
            cases hb : hs.getD j false
            · rw [if_neg (by rw [hb]; simp)] at hm2
              subst hm2
              rw [hb] at eh
              clear hm1
              have WZ := weight_zero p gN n kN 0 (j : Int) wr (by omega) (by omega) (by omega) (by omega) c0 (by simpa using hcN)
              have WH : Hid (Calls Ybkm.prog 20 #[.pointer (some ⟨p, 0, none⟩), .int .i64 0, .int .i64 (j : Int)] wr fun e w' => e = .returned (.int .i64 0) ∧ w' = wr) := WZ
              clear WZ hcN
              go_wp2_with (go_at_call 20; refine WH.out.mono ?_; rintro e w' ⟨rfl, rfl⟩)
              go_round
              case rel => exact ⟨j + 1, by go_num, by omega⟩
              case measure => simp [intOf]; omega
            · rw [if_pos ⟨by omega, hb⟩] at hm2
              rw [hb] at eh
              have hcB := own_cell t.rB m _ hm2.2.2
              have WZ := weight_some p gN n kN gB n kB m 0 (j : Int) (cs.getD j 0) wr (by omega) (by omega) (by omega) (by omega) hm2.1 hm2.2.1 c0 c2 (by simpa using hcN) hcB
              have WH : Hid (Calls Ybkm.prog 20 #[.pointer (some ⟨p, 0, none⟩), .int .i64 0, .int .i64 (j : Int)] wr fun e w' => e = .returned (.int .i64 (cs.getD j 0)) ∧ w' = wr) := WZ
              clear WZ hcN hcB hm1 hm2
              generalize cs.getD j 0 = cj at ec WH
              have hne : (cj != cj) = false := by simp
              go_wp2_with (go_at_call 20; refine WH.out.mono ?_; rintro e w' ⟨rfl, rfl⟩)
              go_round
              case rel => exact ⟨j + 1, by go_num, by omega⟩
              case measure => simp [intOf]; omega
          · go_wp2
            go_ret
            exact ⟨rfl, bW.trans (bel.mono (by omega))⟩
end Go.Proofs.Ymbrbk
