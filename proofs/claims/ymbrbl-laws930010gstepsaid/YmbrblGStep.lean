/-
  The walk of LawS930010GStep. Own text.
-/
import Derived.Test.YmbrblGStepPlain
import Derived.Test.YmbrblGLists
import Derived.Test.YmbrblNew
import Derived.Test.YmbrblStore
namespace Go.Proofs.Ymbrbl
open Go.RowKit

set_option maxRecDepth 100000 in
set_option maxHeartbeats 400000 in
theorem gstep_big (root : Bool) (has word : List Bool) (below : List Int) (label : Str) (a : Option Addr) (n c : Nat) (w : World) (h : 1024 < label.length ∨ 1024 < n) :
    Calls Yblm.prog 9 #[.bool root, .agg (has.map .bool).toArray, .agg (word.map .bool).toArray, .agg (below.map (.int .i64)).toArray, Sv label, .slice a n c] w fun e w' => e = .returned (.bool true) ∧ Below w.heap.size w w' := by
  have hbel : ∀ o1 o2 o3 : Obj, Below w.heap.size w (((w.alloc o1).alloc o2).alloc o3) := fun o1 o2 o3 => ((Below.refl _ w).alloc (Nat.le_refl _) _).alloc (by simp) _ |>.alloc (by simp; omega) _
  by_cases h1 : 1024 < label.length
  · have hd : decide ((1024 : Int) < (label.length : Int)) = true := decide_eq_true (by omega)
    go_enter Yblm.func9, Yblm.ntmps9
    go_wp2
    go_ret
    exact ⟨rfl, hbel _ _ _⟩
  · have hd : decide ((1024 : Int) < (label.length : Int)) = false := decide_eq_false (by omega)
    have hd2 : decide ((1024 : Int) < (n : Int)) = true := decide_eq_true (by omega)
    go_enter Yblm.func9, Yblm.ntmps9
    go_wp2
    go_ret
    exact ⟨rfl, hbel _ _ _⟩

theorem heap3 (W : World) (o1 o2 o3 : Obj) : (((W.alloc o1).alloc o2).alloc o3).heap[W.heap.size]? = some o1 ∧ (((W.alloc o1).alloc o2).alloc o3).heap[W.heap.size + 1]? = some o2 ∧ (((W.alloc o1).alloc o2).alloc o3).heap[W.heap.size + 1 + 1]? = some o3 := by
  show (((W.heap.push o1).push o2).push o3)[_]? = _ ∧ (((W.heap.push o1).push o2).push o3)[_]? = _ ∧ (((W.heap.push o1).push o2).push o3)[_]? = _
  simp only [Array.getElem?_push, Array.size_push]
  refine ⟨?_, ?_, ?_⟩
  · rw [if_neg (by omega), if_neg (by omega), if_pos trivial]
  · rw [if_neg (by omega), if_pos trivial]
  · rw [if_pos trivial]

theorem run_slice_alpha (j : Nat) (hj : j < 26) (W : World) : (Instr.slice 9 (.string ⟨#[97, 98, 99, 100, 101, 102, 103, 104, 105, 106, 107, 108, 109, 110, 111, 112, 113, 114, 115, 116, 117, 118, 119, 120, 121, 122]⟩) (some (.int .i64 (j : Int))) (some (.int .i64 ((j : Int) + 1))) none).run Yblm.prog W = .ok (Sv [ltr j]) W := by
  rcases (show j = 0 ∨ j = 1 ∨ j = 2 ∨ j = 3 ∨ j = 4 ∨ j = 5 ∨ j = 6 ∨ j = 7 ∨ j = 8 ∨ j = 9 ∨ j = 10 ∨ j = 11 ∨ j = 12 ∨ j = 13 ∨ j = 14 ∨ j = 15 ∨ j = 16 ∨ j = 17 ∨ j = 18 ∨ j = 19 ∨ j = 20 ∨ j = 21 ∨ j = 22 ∨ j = 23 ∨ j = 24 ∨ j = 25 by omega) with rfl | rfl | rfl | rfl | rfl | rfl | rfl | rfl | rfl | rfl | rfl | rfl | rfl | rfl | rfl | rfl | rfl | rfl | rfl | rfl | rfl | rfl | rfl | rfl | rfl | rfl <;> kernel_rfl

set_option maxRecDepth 100000 in
set_option maxHeartbeats 1000000 in
theorem gstep_walk (root : Bool) (has word : List Bool) (below : List Int) (label : Str) (a : Option Addr) (b off n c : Nat) (ss : List Str) (w : World) (hl : label.length ≤ 1024) (hn : n ≤ 1024) (h1 : has.length = 26) (h2 : word.length = 26) (h3 : below.length = 26)
    (hss : ss.length = n) (ha : 0 < n → a = some ⟨b, off, none⟩) (hc : Cells w b off ss) :
    Calls Yblm.prog 9 #[.bool root, .agg (has.map .bool).toArray, .agg (word.map .bool).toArray, .agg (below.map (.int .i64)).toArray, Sv label, .slice a n c] w fun e w' => e = .returned (.bool true) ∧ Below w.heap.size w w' := by
  have hd0 : decide ((1024 : Int) < (label.length : Int)) = false := decide_eq_false (by omega)
  have hd2 : decide ((1024 : Int) < (n : Int)) = false := decide_eq_false (by omega)
  have HL := hide2 (And.intro h1 (And.intro h2 h3))
  have HS := hide2 (And.intro hss ha)
  clear h1 h2 h3 hss ha
  go_enter Yblm.func9, Yblm.ntmps9
  go_wp2_with fail
  obtain ⟨W, hW⟩ : ∃ W, W = ((w.alloc (.cells (has.map Value.bool).toArray 69)).alloc (.cells (word.map Value.bool).toArray 69)).alloc (.cells (below.map (Value.int .i64)).toArray 24) := ⟨_, rfl⟩
  rw [← hW]
  have bW : Below w.heap.size w W := by rw [hW]; exact (((Below.refl _ w).alloc (Nat.le_refl _) _).alloc (by simp) _).alloc (by simp; omega) _
  have sW : W.heap.size = w.heap.size + 1 + 1 + 1 := by rw [hW]; simp
  have sW1 : w.heap.size + 1 + 1 < W.heap.size := by omega
  have hh := heap3 w (.cells (has.map Value.bool).toArray 69) (.cells (word.map Value.bool).toArray 69) (.cells (below.map (Value.int .i64)).toArray 24)
  rw [← hW] at hh
  have HH := hide2 hh
  clear hh hW
  have t0 := trie_new W W.heap.size (Nat.le_refl _)
  rw [← sW]
  have SW := hide2 sW
  clear sW
  generalize hp : W.heap.size = p at *
  have HP := hide2 hp
  clear hp
  have b0 : Below p W (W.alloc (.cells #[.slice none 0 0, .slice none 0 0, .slice none 0 0] 29)) := (Below.refl _ W).alloc (by have := HP.out; omega) _
  go_loopw [14] (fun i wr => ∃ (k : Nat) (h : Hd), i = .int .i64 k ∧ k ≤ 27 ∧ TrieAt wr p p h (T27 k) ∧ Below p W wr) (fun i _ => 27 - (intOf i).toNat)
  case atStart => exact ⟨0, _, rfl, by omega, t0, b0⟩
  case round =>
    obtain ⟨k, h, rfl, hk, t, bel⟩ := hrel
    have hbs : p ≤ wr.heap.size := by have := bel.size; have := HP.out; omega
    by_cases hk27 : k < 27
    · have gc := grow_calls p p h (T27 k) wr t (by simp [T27]; omega) hbs
      have GC := hide2 gc
      clear gc
      go_wp2_with (go_at_call 17; refine GC.out.mono ?_; rintro e w1 ⟨rfl, h1, t1, s1⟩)
      go_roundw
      case rel => exact ⟨k + 1, h1, by go_num, by omega, by rw [← T27_grow]; exact t1, bel.trans (s1.t.below (fun k hk => (t.foot_lt k hk).1) hbs)⟩
      case measure => simp [intOf]; omega
    · have e27 : T27 k = T27 27 := by rw [show k = 27 by omega]
      rw [e27] at t
      clear e27 t0 b0
      obtain ⟨gN, cN, gW, cW, gB, cB, rfl⟩ := handles t (by decide)
      have c1 := t.mid.c1
      dsimp only at c1
      have cw := cellW t rfl 0 (by decide)
      have fw := t.rW.frozenAt 0
      obtain ⟨t1, s1⟩ := trie_setW t 0 root
      have eT : (⟨(T27 27).nx, (T27 27).wd.set 0 root, (T27 27).bl⟩ : TT) = TK root has word below 0 := by unfold TK; rw [nxK_zero, wdK_zero, blK_zero]; rfl
      rw [eT] at t1
      have b1 : Below p W (wr.setCell ⟨gW, 0, none⟩ (.bool root)) := bel.trans (s1.t.below (fun k hk => (t.foot_lt k hk).1) hbs)
      have bw1 : Below w.heap.size w (wr.setCell ⟨gW, 0, none⟩ (.bool root)) := bW.trans (b1.mono (by have := SW.out; omega))
      have hwl : (T27 27).wd.length = 27 := rfl
      rw [hwl] at t1 c1
      have hd3 : decide ((k : Int) < 27) = false := decide_eq_false (by omega)
      go_wp2_with fail
      generalize hX : wr.setCell ⟨gW, 0, none⟩ (.bool root) = X at *
      clear hX s1 eT c1 cw fw t bel
      have hcX : Cells X b off ss := ⟨fun h => Nat.lt_of_lt_of_le (hc.lt h) bw1.size, fun i hi => (bw1.cell (p := ⟨b, off + i, none⟩) (hc.lt (by omega))).trans (hc.c i hi)⟩
      have hpX : p ≤ X.heap.size := by have := b1.size; have := HP.out; omega
      refine (gcopy_calls p a b off n c ss X HS.out.1 (by omega) HS.out.2 hcX hpX).mono ?_
      rintro e X1 ⟨v, rfl, own, bX, hf⟩
      obtain ⟨x0, y0, rfl⟩ := ownsRow_slice own
      have t2 : TrieAt X1 p p (hd gN cN gW cW gB cB 27) (TK root has word below 0) := t1.below bX
      have bX1 : Below p W X1 := b1.trans (bX.mono hpX)
      have HK0 := hide2 (wantK_le root has word below label 0)
      go_upto_if 43 with (fail)
      go_cut [15] (fun v1 w1 => ∃ x y, v1 = .slice x (n + (wantK root has word below label 0).length) y ∧ w1.ownsRow p 9 1 v1 (n + (wantK root has word below label 0).length) (ss.map Sv ++ (wantK root has word below label 0).map Sv) ∧ TrieAt w1 p p (hd gN cN gW cW gB cB 27) (TK root has word below 0) ∧ Below p W w1)
      case first =>
        have hX1 : p ≤ X1.heap.size := by have := bX1.size; have := HP.out; omega
        cases root
        · go_wp2
          go_meet
          case rel => exact ⟨_, _, rfl, by simpa [wantK] using own, t2, bX1⟩
        · go_wp2_with (at_builtin; go_must (refine wpList_app_str (.tmp 44) (.tmp 46) rfl rfl p n _ _ rfl own label X1.heap.size rfl rfl (by omega) hX1 ?_))
          intro g cap w1 own1 st
          go_wp2
          go_meet
          case rel => exact ⟨_, _, rfl, by simpa [wantK] using own1, t2.lst own st, bX1.trans (st.toBelow (fun k hk => (own.lt k hk).1) hX1)⟩
      case rest =>
        obtain ⟨x1, y1, rfl, own1, t3, b3⟩ := hcut
        clear own t2 hf bX1 HK0
        go_wp2
        go_loopw [15, 16] (fun v1 i w1 => ∃ (k : Nat) (x : Option Addr) (y : Nat), i = .int .i64 k ∧ k ≤ 26 ∧ v1 = .slice x (n + (wantK root has word below label k).length) y ∧ w1.ownsRow p 9 1 v1 (n + (wantK root has word below label k).length) (ss.map Sv ++ (wantK root has word below label k).map Sv) ∧ TrieAt w1 p p (hd gN cN gW cW gB cB 27) (TK root has word below k) ∧ Below p W w1) (fun _ i _ => 26 - (intOf i).toNat)
        case atStart => exact ⟨0, _, _, rfl, by omega, rfl, own1, t3, b3⟩
        case round =>
          obtain ⟨l, x2, y2, rfl, hl26, rfl, own2, t4, b4⟩ := hrel
          clear own1 t3 b3
          by_cases hlt : l < 26
          · have hws := wantK_le root has word below label l
            obtain ⟨c0, c1, c2, vN, vW, vB, fN, fW, fB⟩ := hd_view (TK_len root has word below l) t4
            have rd : ∀ X : World, Below p W X → X.cell? ⟨w.heap.size, l, none⟩ = some (.bool (has.getD l false)) ∧ X.cell? ⟨w.heap.size + 1, l, none⟩ = some (.bool (word.getD l false)) ∧ X.cell? ⟨w.heap.size + 1 + 1, l, none⟩ = some (.int .i64 (below.getD l 0)) := fun X bX => by
              refine ⟨(bX.cell (p := ⟨w.heap.size, l, none⟩) (by show w.heap.size < _; have := SW.out; omega)).trans (cell_st HH.out.1 l _ (by simp [List.getD, List.getElem?_eq_getElem (show l < has.length by have := HL.out.1; omega)])), (bX.cell (p := ⟨w.heap.size + 1, l, none⟩) (by show w.heap.size + 1 < _; have := SW.out; omega)).trans (cell_st HH.out.2.1 l _ (by simp [List.getD, List.getElem?_eq_getElem (show l < word.length by have := HL.out.2.1; omega)])), (bX.cell (p := ⟨w.heap.size + 1 + 1, l, none⟩) (by show w.heap.size + 1 + 1 < _; have := SW.out; omega)).trans (cell_st HH.out.2.2 l _ (by simp [List.getD, List.getElem?_eq_getElem (show l < below.length by have := HL.out.2.2; omega)]))⟩
            obtain ⟨_, e8, _⟩ := rd wr b4
            have RD := hide2 rd
            clear rd
            have q1 := vW (26 - l) (by omega)
            have q2 := fW (26 - l)
            have z1 : (0 : Int) ≤ (l : Int) := by omega
            have z2 : (l : Int) < 26 := by omega
            have z3 : (0 : Int) ≤ 26 - (l : Int) := by omega
            have z4 : 26 - (l : Int) < 27 := by omega
            clear vN vW vB fN fW fB
            obtain ⟨t5, s5⟩ := hd_setW (TK_len root has word below l) t4 (26 - l) (word.getD l false)
            have own5 := own_stp t4 own2 s5
            have hw4 : p ≤ wr.heap.size := by have := b4.size; have := HP.out; omega
            have b5 : Below p W (wr.setCell ⟨gW, 26 - l, none⟩ (.bool (word.getD l false))).drew := (b4.trans (s5.t.below (fun k hk => (t4.foot_lt k hk).1) hw4)).drew
            replace t5 := t5.drew
            replace own5 := own5.drew
            generalize hwl' : word.getD l false = wl at *
            generalize hbl' : below.getD l 0 = bl at *
            generalize hhl' : has.getD l false = hh at *
            have HWL := hide2 hwl'
            have HBL := hide2 hbl'
            have HHL := hide2 hhl'
            clear hwl' hbl' hhl' s5 t4 own2 hwl
            go_wp2
            go_region
            clear c0 c1 c2 q1 q2
            generalize hX2 : (wr.setCell ⟨gW, 26 - l, none⟩ (.bool wl)).drew = X2 at *
            clear hX2
            have eT5 : (⟨(TK root has word below l).nx, (TK root has word below l).wd.set (26 - l) wl, (TK root has word below l).bl⟩ : TT) = ⟨nxK has l, wdK root word (l + 1), blK below l⟩ := by rw [wdK_succ root word l hlt, HWL.out]; rfl
            replace t5 : TrieAt X2 p p (hd gN cN gW cW gB cB 27) ⟨nxK has l, wdK root word (l + 1), blK below l⟩ := by rw [← eT5]; exact t5
            have hn5 : (⟨nxK has l, wdK root word (l + 1), blK below l⟩ : TT).wd.length = 27 := by simp [wdK]
            obtain ⟨c0, c1, c2, vN, vW, vB, fN, fW, fB⟩ := hd_view hn5 t5
            obtain ⟨_, _, e9⟩ := RD.out X2 b5
            have q1 := vB (26 - l) (by omega)
            have q2 := fB (26 - l)
            have hw5 : p ≤ X2.heap.size := by have := b5.size; have := HP.out; omega
            obtain ⟨t6, s6⟩ := hd_setB hn5 t5 (26 - l) bl
            have own6 := (own_stp t5 own5 s6).drew
            have b6 : Below p W (X2.setCell ⟨gB, 26 - l, none⟩ (.int .i64 bl)).drew := (b5.trans (s6.t.below (fun k hk => (t5.foot_lt k hk).1) hw5)).drew
            replace t6 := t6.drew
            have eT6 : (⟨nxK has l, wdK root word (l + 1), (blK below l).set (26 - l) bl⟩ : TT) = ⟨nxK has l, wdK root word (l + 1), blK below (l + 1)⟩ := by rw [blK_succ below l hlt, HBL.out]
            replace t6 : TrieAt (X2.setCell ⟨gB, 26 - l, none⟩ (.int .i64 bl)).drew p p (hd gN cN gW cW gB cB 27) ⟨nxK has l, wdK root word (l + 1), blK below (l + 1)⟩ := by rw [← eT6]; exact t6
            clear vN vW vB fN fW fB s6 eT5 eT6 t5 own5 hn5
            go_wp2
            go_region
            clear c0 c1 c2 q1 q2 e8 e9
            generalize hX3 : (X2.setCell ⟨gB, 26 - l, none⟩ (.int .i64 bl)).drew = X3 at *
            clear hX3
            have hw6 : p ≤ X3.heap.size := by have := b6.size; have := HP.out; omega
            have hn6 : (⟨nxK has l, wdK root word (l + 1), blK below (l + 1)⟩ : TT).wd.length = 27 := by simp [wdK]
            obtain ⟨c0, c1, c2, vN, vW, vB, fN, fW, fB⟩ := hd_view hn6 t6
            obtain ⟨e7, e8, e9⟩ := RD.out X3 b6
            have q1 := vN 0 l (by omega) hlt
            simp only [Nat.zero_mul, Nat.zero_add] at q1
            have q2 := fN l
            obtain ⟨t7, s7⟩ := hd_setN hn6 t6 l (26 - (l : Int))
            have own7 := own_stp t6 own6 s7
            have b7 : Below p W (X3.setCell ⟨gN, l, none⟩ (.int .i64 (26 - (l : Int)))) := b6.trans (s7.t.below (fun k hk => (t6.foot_lt k hk).1) hw6)
            clear vN vW vB fN fW fB s7
            cases hh
            · have HE := hide2 (wantK_no root has word below label l (by rw [HHL.out]; simp))
              have HN : Hid (nxK has (l + 1) = nxK has l) := nxK_no has l HHL.out
              clear t7 own7 b7
              go_wp2
              go_roundw
              case rel => exact ⟨l + 1, x2, y2, by go_num, by omega, by rw [HE.out], by rw [HE.out]; exact own6, by unfold TK; rw [HN.out]; exact t6, b6⟩
              case measure => simp [intOf]; omega
            · have eT7 : (⟨(nxK has l).set l (26 - (l : Int)), wdK root word (l + 1), blK below (l + 1)⟩ : TT) = TK root has word below (l + 1) := by unfold TK; rw [nxK_yes has l hlt HHL.out]
              have T7 : Hid (TrieAt (X3.setCell ⟨gN, l, none⟩ (.int .i64 (26 - (l : Int)))) p p (hd gN cN gW cW gB cB 27) (TK root has word below (l + 1))) := eT7 ▸ t7
              have O7 := hide2 own7
              have hw7 : p ≤ (X3.setCell ⟨gN, l, none⟩ (.int .i64 (26 - (l : Int)))).heap.size := by simpa using hw6
              obtain ⟨_, e8', e9'⟩ := RD.out _ b7
              clear t7 own7 eT7
              cases wl
              · have HE := hide2 (wantK_no root has word below label l (by rw [HWL.out]; simp))
                go_wp2
                go_roundw
                case rel => exact ⟨l + 1, x2, y2, by go_num, by omega, by rw [HE.out], by rw [HE.out]; exact O7.out, T7.out, b7⟩
                case measure => simp [intOf]; omega
              · by_cases hbl : 0 < bl
                · have HE := hide2 (wantK_yes root has word below label l ⟨HHL.out, HWL.out, by rw [HBL.out]; exact hbl⟩)
                  have rs := fun X => run_slice_alpha l hlt X
                  have hcl : ¬ (9223372036854775807 < List.length label + 1) := by omega
                  have hdb : decide (0 < bl) = true := decide_eq_true hbl
                  go_wp2_with (at_builtin; rw [sv_append1]; go_must (refine wpList_app_str (.tmp 92) (.tmp 99) rfl rfl p _ _ _ rfl O7.out (label ++ [ltr l]) X3.heap.size (by simp) rfl (by omega) hw7 ?_))
                  intro g cap w8 own8 st8
                  have e8a : n + (wantK root has word below label (l + 1)).length = n + (wantK root has word below label l).length + 1 := by rw [HE.out, List.length_append]; rfl
                  have e8b : ss.map Sv ++ (wantK root has word below label (l + 1)).map Sv = ss.map Sv ++ (wantK root has word below label l).map Sv ++ [Sv (label ++ [ltr l])] := by rw [HE.out, List.map_append, List.append_assoc]; rfl
                  have EA := hide2 e8a
                  have EB := hide2 e8b
                  clear e8a e8b
                  go_wp2
                  go_roundw
                  case rel => exact ⟨l + 1, _, _, by go_num, by omega, by rw [EA.out], by rw [EA.out, EB.out, List.append_assoc]; exact own8, T7.out.lst O7.out st8, b7.trans (st8.toBelow (fun k hk => (O7.out.lt k hk).1) hw7)⟩
                  case measure => simp [intOf]; omega
                · have HE := hide2 (wantK_no root has word below label l (by rw [HBL.out]; omega))
                  have hdb : decide (0 < bl) = false := decide_eq_false hbl
                  go_wp2
                  go_roundw
                  case rel => exact ⟨l + 1, x2, y2, by go_num, by omega, by rw [HE.out], by rw [HE.out]; exact O7.out, T7.out, b7⟩
                  case measure => simp [intOf]; omega
          · have hl2 : l = 26 := by omega
            have e26 : TK root has word below l = TK root has word below 26 := by rw [hl2]
            rw [e26] at t4
            have ew : wantK root has word below label l = wantK root has word below label 26 := by rw [hl2]
            rw [ew] at own2
            have hwr : p ≤ wr.heap.size := by have := b4.size; have := HP.out; omega
            have bw4 : Below w.heap.size w wr := bW.trans (b4.mono (by have := SW.out; omega))
            have hcr : Cells wr b off ss := ⟨fun h => Nat.lt_of_lt_of_le (hc.lt h) bw4.size, fun i hi => (bw4.cell (p := ⟨b, off + i, none⟩) (hc.lt (by omega))).trans (hc.c i hi)⟩
            go_wp2_with fail
            refine (gcopy_calls p a b off n c ss wr HS.out.1 (by omega) HS.out.2 hcr hwr).mono ?_
            rintro e w5 ⟨v5, rfl, own5, b5, hf5⟩
            obtain ⟨x5, y5, rfl⟩ := ownsRow_slice own5
            go_wp2_with fail
            have t5 := t4.below b5
            have hwl := wantK_le root has word below label 26
            have hw5 : p ≤ w5.heap.size := Nat.le_trans hwr b5.size
            have cc := collect_calls p p (hd gN cN gW cW gB cB 27) (TK root has word below 26) 2 0 label (.slice x5 n y5) n (ss.map Sv) w5 (deep_TK root has word below) t5 own5 (by omega) (by rw [coll_TK]; omega) hw5
            rw [coll_TK] at cc
            refine cc.mono ?_
            rintro e w6 ⟨v6, rfl, own6, st6, _⟩
            clear cc
            have own26 := own_lst (own_below own2 b5) st6 (fun k hk e => by have := (own2.lt k hk).2; have := hf5 k e; omega)
            have bel6 : Below w.heap.size w w6 := bw4.trans ((b5.mono bw4.size).trans (st6.toBelow (fun k hk => by have := (own5.lt k hk).1; have := SW.out; omega) (by have := bw4.size; have := b5.size; omega)))
            obtain ⟨x6, y6, rfl⟩ := ownsRow_slice own6
            rw [← List.map_append] at own6 own26
            have hlen : (ss ++ wantK root has word below label 26).length = n + (wantK root has word below label 26).length := by rw [List.length_append, HS.out.1]
            rw [ew] at *
            go_wp2_with fail
            refine (gsame_calls p _ _ _ _ w6 hlen (by omega) own6 own26).mono ?_
            rintro e w7 ⟨rfl, m, rfl⟩
            go_wp2
            go_ret
            exact ⟨rfl, Below.drewN bel6 m⟩
end Go.Proofs.Ymbrbl
