/-
  The walk of LawS930010EExact. Own text.
-/
import Derived.Test.YmbrblRowBuild
import Derived.Test.YmbrblMake
import Derived.Test.YmbrblMem2
import Derived.Test.YmbrblChild
import Derived.Deep.DeepCutAuto
namespace Go.Proofs.Ymbrbl
open Go.RowKit

/-- The table that came in: row by row. -/
structure Tbl (w : World) (b off len : Nat) (TB : List Int) : Prop where
  lt : 0 < len → b < w.heap.size
  nx : ∀ i, i < len → w.rangeAt b (off + i * 26) ((row26 TB i).map (.int .i64))

set_option maxRecDepth 100000 in
set_option maxHeartbeats 400000 in
theorem eex_zero (a : Option Addr) (len cap : Nat) (sel raw : Int) (high : Bool) (h : 1024 < len) (w : World) : Calls Yblm.prog 3 #[.slice a len cap, .int .u64 sel, .int .u8 raw, .bool high] w fun e w' => e = .returned (.bool true) ∧ Below w.heap.size w w' := by
  go_enter Yblm.func3, Yblm.ntmps3
  go_wp2
  go_ret
  exact ⟨rfl, Below.refl _ _⟩

def byteE (raw : Int) (high : Bool) : Int := (raw + (if high then 120 else 95)) % 256
set_option maxHeartbeats 400000 in
theorem ebyte_calls (raw : Int) (high : Bool) (w : World) : Calls Yblm.prog 15 #[.int .u8 raw, .bool high] w fun e w' => e = .returned (.int .u8 (byteE raw high)) ∧ w' = w := by
  cases high
  · go_enter Yblm.func15, Yblm.ntmps15
    go_wp2
    go_ret
    exact ⟨by simp [byteE], rfl⟩
  · go_enter Yblm.func15, Yblm.ntmps15
    go_wp2
    go_ret
    exact ⟨by simp [byteE], rfl⟩

/-- What the search in the alphabet has found after j letters. -/
def wantTo (row : List Int) (c : Int) (j : Nat) : Int := if 97 ≤ c ∧ c < 97 + (j : Int) then row.getD (c - 97).toNat 0 else 0
theorem wantTo_zero (row : List Int) (c : Int) : wantTo row c 0 = 0 := by unfold wantTo; rw [if_neg (by omega)]
theorem wantTo_hit (row : List Int) (c : Int) (j : Nat) (h : 97 + (j : Int) = c) : wantTo row c (j + 1) = row.getD j 0 := by
  unfold wantTo; rw [if_pos (by omega)]; congr 1; omega
theorem wantTo_miss (row : List Int) (c : Int) (j : Nat) (h : ¬ 97 + (j : Int) = c) : wantTo row c (j + 1) = wantTo row c j := by
  unfold wantTo
  by_cases h1 : 97 ≤ c ∧ c < 97 + (j : Int)
  · rw [if_pos h1, if_pos (by omega)]
  · rw [if_neg h1, if_neg (by omega)]
theorem run_alpha (j : Nat) (hj : j < 26) (W : World) : (Instr.index 9 (.string ⟨#[97, 98, 99, 100, 101, 102, 103, 104, 105, 106, 107, 108, 109, 110, 111, 112, 113, 114, 115, 116, 117, 118, 119, 120, 121, 122]⟩) (.int .i64 (j : Int))).run Yblm.prog W = .ok (.int .u8 (97 + (j : Int))) W := by
  rcases (show j = 0 ∨ j = 1 ∨ j = 2 ∨ j = 3 ∨ j = 4 ∨ j = 5 ∨ j = 6 ∨ j = 7 ∨ j = 8 ∨ j = 9 ∨ j = 10 ∨ j = 11 ∨ j = 12 ∨ j = 13 ∨ j = 14 ∨ j = 15 ∨ j = 16 ∨ j = 17 ∨ j = 18 ∨ j = 19 ∨ j = 20 ∨ j = 21 ∨ j = 22 ∨ j = 23 ∨ j = 24 ∨ j = 25 by omega) with rfl | rfl | rfl | rfl | rfl | rfl | rfl | rfl | rfl | rfl | rfl | rfl | rfl | rfl | rfl | rfl | rfl | rfl | rfl | rfl | rfl | rfl | rfl | rfl | rfl | rfl <;> kernel_rfl
theorem map_get (l : List Int) (j : Nat) (h : j < l.length) : (l.map (Value.int .i64)).toArray[j]? = some (.int .i64 (l.getD j 0)) := by
  rw [List.getElem?_toArray, List.getElem?_map, List.getElem?_eq_getElem h]
  simp [List.getD, List.getElem?_eq_getElem h]
theorem hide2 {p : Prop} (h : p) : Hid p := h
/-- The last row: 1 .. 26. -/
def lastL : List Int := (List.range 26).map (fun i => ((i : Nat) : Int) + 1)
theorem lastL_len : lastL.length = 26 := rfl
theorem lastL_get (l : Nat) (h : l < 26) : lastL[l]? = some ((l : Int) + 1) := by simp [lastL, h]
theorem last_cell (l : Nat) (h : l < 26) : ((lastL.take l).map (Value.int .i64) ++ List.replicate (26 - l) (Value.int .i64 0)).toArray[l]? = some (.int .i64 0) := by
  rw [List.getElem?_toArray, List.getElem?_append_right (by simp [lastL_len]; omega), List.getElem?_replicate, if_pos (by simp [lastL_len]; omega)]
theorem last_step {w : World} {b l : Nat} {t : TypeId} (hL : w.heap[b]? = some (.cells ((lastL.take l).map (Value.int .i64) ++ List.replicate (26 - l) (Value.int .i64 0)).toArray t (0, 0))) (h : l < 26) :
    (w.setCell ⟨b, l, none⟩ (.int .i64 ((l : Int) + 1))).heap[b]? = some (.cells ((lastL.take (l + 1)).map (Value.int .i64) ++ List.replicate (26 - (l + 1)) (Value.int .i64 0)).toArray t (0, 0)) := by
  rw [show 26 - l = (26 - (l + 1)) + 1 by omega, List.replicate_succ] at hL
  rw [setCell_splice hL _ l (by simp [lastL_len]; omega), List.take_succ_eq_append_getElem (by rw [lastL_len]; exact h)]
  have : lastL[l]'(by rw [lastL_len]; exact h) = (l : Int) + 1 := by have := lastL_get l h; rw [List.getElem?_eq_getElem (by rw [lastL_len]; exact h)] at this; exact Option.some.inj this
  rw [this, List.map_append]
  simp

theorem heap3 (W : World) (o1 o2 o3 : Obj) : (((W.alloc o1).alloc o2).alloc o3).heap[W.heap.size]? = some o1 ∧ (((W.alloc o1).alloc o2).alloc o3).heap[W.heap.size + 1]? = some o2 ∧ (((W.alloc o1).alloc o2).alloc o3).heap[W.heap.size + 1 + 1]? = some o3 := by
  show (((W.heap.push o1).push o2).push o3)[_]? = _ ∧ (((W.heap.push o1).push o2).push o3)[_]? = _ ∧ (((W.heap.push o1).push o2).push o3)[_]? = _
  simp only [Array.getElem?_push, Array.size_push]
  refine ⟨?_, ?_, ?_⟩
  · rw [if_neg (by omega), if_neg (by omega), if_pos trivial]
  · rw [if_neg (by omega), if_pos trivial]
  · rw [if_pos trivial]
theorem ta_e {W : World} {o1 o2 o3 : Obj} {B p gN gW gB n : Nat} {xN : List Value} (own : W.ownsRow B 24 26 (.slice (some ⟨gN, 0, none⟩) (n + 1) (n + 1)) (n + 1) xN)
    (hp : (((W.alloc o1).alloc o2).alloc o3).heap[p]? = some (.cells #[.slice (some ⟨gN, 0, none⟩) (n + 1) (n + 1), .slice (some ⟨gW, 0, none⟩) (n + 1) (n + 1), .slice (some ⟨gB, 0, none⟩) (n + 1) (n + 1)] 29 (0, 0)))
    (hW : (((W.alloc o1).alloc o2).alloc o3).heap[gW]? = some (.cells (falses (n + 1)) 4 (0, 0))) (hB : (((W.alloc o1).alloc o2).alloc o3).heap[gB]? = some (.cells (zers (n + 1)) 3 (0, 0))) (h0 : B ≤ p) (h2 : B ≤ gW) (h3 : B ≤ gB) (hn : n ≤ 1024) :
    TA (((W.alloc o1).alloc o2).alloc o3).drew B p ⟨.slice (some ⟨gN, 0, none⟩) (n + 1) (n + 1), .slice (some ⟨gW, 0, none⟩) (n + 1) (n + 1), .slice (some ⟨gB, 0, none⟩) (n + 1) (n + 1)⟩ (n + 1) (n + 1) (n + 1) xN (List.replicate (n + 1) (.bool false)) (List.replicate (n + 1) (.int .i64 0)) :=
  ⟨h0, hp, ((own.alloc _).alloc _).alloc _, ⟨by simp, .inr ⟨gW, n + 1, _, rfl, h2, hW, Nat.le_refl _, by unfold maxLen; omega, by simp [falses], by simp [falses]⟩⟩, ⟨by simp, .inr ⟨gB, n + 1, _, rfl, h3, hB, Nat.le_refl _, by unfold maxLen; omega, by simp [zers], by simp [zers]⟩⟩⟩

set_option maxRecDepth 100000 in
set_option maxHeartbeats 400000 in
theorem eex_some (a : Option Addr) (b off len cap : Nat) (ha : 0 < len → a = some ⟨b, off, none⟩) (sel raw : Int) (high : Bool) (TB : List Int) (w : World) (h : len ≤ 1024) (hs0 : 0 ≤ sel) (hs1 : sel < 18446744073709551616)
    (hTB : TB.length = len * 26) (hc : Tbl w b off len TB) :
    Calls Yblm.prog 3 #[.slice a len cap, .int .u64 sel, .int .u8 raw, .bool high] w fun e w' => e = .returned (.bool true) ∧ Below w.heap.size w w' := by
  have HT : Hid (TB.length = len * 26) := hTB
  have HA : Hid (0 < len → a = some ⟨b, off, none⟩) := ha
  have HS : Hid (0 ≤ sel ∧ sel < 18446744073709551616) := ⟨hs0, hs1⟩
  clear hTB ha hs0 hs1
  have m1 := run_makeN 0 (len + 1) (by omega) (by omega)
  rw [show ((len + 1 : Nat) : Int) = (len : Int) + 1 from by omega] at m1
  simp only [Int.cast_ofNat_Int] at m1
  have hdec : decide ((1024 : Int) < (len : Int)) = false := decide_eq_false (by omega)
  obtain ⟨i24, hi24, hz24, hs24, hb24⟩ := info_parts infoRow
  go_enter Yblm.func3, Yblm.ntmps3
  go_wp2
  clear m1
  go_loopw [9, 10] (fun v i wr => ∃ k : Nat, i = .int .i64 k ∧ k ≤ len ∧ v = .slice (some ⟨w.heap.size, 0, none⟩) k (len + 1) ∧ wr.ownsRow w.heap.size 24 26 (.slice (some ⟨w.heap.size, 0, none⟩) k (len + 1)) k ((TB.take (k * 26)).map (.int .i64)) ∧ Below w.heap.size w wr) (fun _ i _ => len - (intOf i).toNat)
  case atStart =>
    refine ⟨0, rfl, Nat.zero_le _, rfl, ?_, (Below.refl _ w).alloc (Nat.le_refl _) _⟩
    have := World.ownsRow_made (base := w.heap.size) (e := 24) (size := 26) w (zers ((len + 1) * 26)) (len + 1) (Nat.le_refl _) (by unfold maxLen; omega) (by simp [zers])
    simpa using this
  case round =>
    obtain ⟨k, rfl, hk, rfl, own, bel⟩ := hrel
    by_cases hlt : k < len
    · have hea := HA.out (by omega)
      subst hea
      have hrow := row26_len TB k len HT.out hlt
      have hra : wr.rangeAt b (off + k * 26) ((row26 TB k).map (.int .i64)) := fun j v hv => (bel.cell (p := ⟨b, off + k * 26 + j, none⟩) (hc.lt (by omega))).trans (hc.nx k hlt j v hv)
      have hs1 : (Yblm.prog.info? 24).map (·.size) = some ((row26 TB k).map (Value.int .i64)).length := by rw [List.length_map, hrow]; exact sizeRow
      have hsz : ((row26 TB k).map (Value.int .i64)).toArray.size = 26 := by simp [hrow]
      have hln : ((row26 TB k).map (Value.int .i64)).length = 1 * 26 := by simp [hrow]
      have h1c := ints_one (row26 TB k)
      have HK : Hid ((TB.take ((k + 1) * 26)).map (Value.int .i64) = (TB.take (k * 26)).map (Value.int .i64) ++ (row26 TB k).map (Value.int .i64)) := by show _ = _; rw [take_add26, List.map_append]
      clear hrow
      generalize (row26 TB k).map (Value.int .i64) = R at hra hs1 hsz hln h1c HK
      have hbs := bel.size
      have HZ : Hid (R.toArray.size = 26 ∧ R.length = 1 * 26) := ⟨hsz, hln⟩
      clear hsz hln
      go_wp2_with (first
        | (refine wpList_load_mid rfl 24 (.tmp 39) rfl b (off + k * 26) rfl _ _ hra Yblm.underlying24 rfl hs1 ?_)
        | (refine wpList_buildSlice_row rfl (.tmp 40) rfl R.toArray rfl HZ.out.1 ?_)
        | (at_builtin; go_must (refine wpList_append_fits _ rfl (.tmp 36) (.tmp 41) 22 rfl w.heap.size 24 i24 26 Yblm.underlying22 hi24 hs24 w.heap.size k (len + 1) _ rfl (own.alloc _) ⟨wr.heap.size, 0, none⟩ 1 1 R rfl HZ.out.2 (news_row wr R _ _ rfl) h1c (by omega) ?_)))
      intro w1 own1 gr1
      go_wp2
      go_roundw
      case rel => exact ⟨k + 1, by go_num, by omega, rfl, by rw [HK.out, List.map_take]; exact own1, (bel.alloc (by omega) _).grown gr1 (by simp; omega) (fun x hx => by simp at hx; omega)⟩
      case measure => simp [intOf]; omega
    · obtain rfl : k = len := by omega
      have ct : TB.take (k * 26) = TB := by rw [← HT.out, List.take_length]
      rw [ct] at own
      clear ct
      go_wp2
      obtain ⟨wo, rfl⟩ : ∃ wo : World, wo = wr := ⟨_, rfl⟩
      go_loopw [12] (fun i wx => ∃ l : Nat, i = .int .i64 l ∧ l ≤ 26 ∧ Below wo.heap.size wo wx ∧ wo.heap.size < wx.heap.size ∧ wx.heap[wo.heap.size]? = some (.cells ((lastL.take l).map (Value.int .i64) ++ List.replicate (26 - l) (Value.int .i64 0)).toArray 24 (0, 0))) (fun i _ => 26 - (intOf i).toNat)
      case atStart => exact ⟨0, rfl, Nat.zero_le _, (Below.refl _ wo).alloc (Nat.le_refl _) _, by simp, by rw [heap_alloc_new]; rfl⟩
      case round =>
        obtain ⟨l, rfl, hl, bel2, hsz2, hL⟩ := hrel
        by_cases hl26 : l < 26
        · have q1 := cell_st hL l (.int .i64 0) (last_cell l hl26)
          have q2 := frozen_st hL l
          have hst := last_step hL hl26
          have HL : Hid ((wr.setCell ⟨wo.heap.size, l, none⟩ (.int .i64 ((l : Int) + 1))).heap[wo.heap.size]? = some (.cells ((lastL.take (l + 1)).map (Value.int .i64) ++ List.replicate (26 - (l + 1)) (Value.int .i64 0)).toArray 24 (0, 0))) := hst
          clear hL hst
          go_wp2
          go_roundw
          case rel => exact ⟨l + 1, by go_num, by omega, bel2.setCell (Nat.le_refl _) _, by simpa using hsz2, HL.out⟩
          case measure => simp [intOf]; omega
        · have hL2 : wr.heap[wo.heap.size]? = some (.cells (lastL.map (Value.int .i64)).toArray 24 (0, 0)) := by
            obtain rfl : l = 26 := by omega
            rw [hL]; rfl
          clear hL
          have hN0 : w.heap.size < wo.heap.size := (own.lt w.heap.size rfl).2
          have own2 : wr.ownsRow w.heap.size 24 26 (.slice (some ⟨w.heap.size, 0, none⟩) k (k + 1)) k (TB.map (.int .i64)) := ownsRow_of_block own (fun x hx => bel2.block x (own.lt x hx).2)
          have belr : Below w.heap.size w wr := bel.trans (bel2.mono (by omega))
          have hra : wr.rangeAt wo.heap.size 0 (lastL.map (Value.int .i64)) := rangeAt_of (A := []) (C := []) (by simpa using hL2) 0 rfl
          have hs1 : (Yblm.prog.info? 24).map (·.size) = some (lastL.map (Value.int .i64)).length := sizeRow
          have h1c := ints_one lastL
          have HL2 : Hid (wr.heap[wo.heap.size]? = some (.cells (lastL.map (Value.int .i64)).toArray 24 (0, 0))) := hL2
          have HZ : Hid ((lastL.map (Value.int .i64)).toArray.size = 26 ∧ (lastL.map (Value.int .i64)).length = 1 * 26) := ⟨rfl, rfl⟩
          clear hL2 own bel bel2
          generalize hLL : lastL.map (Value.int .i64) = LL at hra hs1 h1c HL2 HZ
          have HLL : Hid (lastL.map (Value.int .i64) = LL) := hLL
          clear hLL
          have hbs := belr.size
          go_wp2_with (first
            | (refine wpList_load_mid rfl 24 (.tmp 11) rfl wo.heap.size 0 rfl _ _ hra Yblm.underlying24 rfl hs1 ?_)
            | (refine wpList_buildSlice_row rfl (.tmp 52) rfl LL.toArray rfl HZ.out.1 ?_)
            | (at_builtin; go_must (refine wpList_append_fits _ rfl (.tmp 51) (.tmp 53) 22 rfl w.heap.size 24 i24 26 Yblm.underlying22 hi24 hs24 w.heap.size k (k + 1) _ rfl (own2.alloc _) ⟨wr.heap.size, 0, none⟩ 1 1 LL rfl HZ.out.2 (news_row wr LL _ _ rfl) h1c (by omega) ?_)))
          intro w2 own3 gr2
          have bel3 : Below w.heap.size w w2 := (belr.alloc (by omega) _).grown gr2 (by simp; omega) (fun x hx => by simp at hx; omega)
          have hL3 : w2.heap[wo.heap.size]? = some (.cells LL.toArray 24 (0, 0)) := by
            rw [gr2.block wo.heap.size (by simp; omega) (by simp; omega), Below.heap_alloc _ _ _ (by omega)]; exact HL2.out
          have HL3 : Hid (w2.heap[wo.heap.size]? = some (.cells LL.toArray 24 (0, 0))) := hL3
          have hsz3 : wo.heap.size < w2.heap.size := lt_of_heap hL3
          have m2 := run_makeW (k + 1) (k + 1) (Nat.le_refl _) (by omega)
          have m3 := run_makeB (k + 1) (k + 1) (Nat.le_refl _) (by omega)
          rw [show ((k + 1 : Nat) : Int) = (k : Int) + 1 from by omega] at m2 m3
          clear hra hs1 h1c HL2 own2 belr gr2 hL3 hsz2
          go_wp2
          go_cut [14] (fun s wc => ∃ p h, s = .pointer (some ⟨p, 0, none⟩) ∧ h.N = .slice (some ⟨w.heap.size, 0, none⟩) (k + 1) (k + 1) ∧ TA wc w.heap.size p h (k + 1) (k + 1) (k + 1) (TB.map (Value.int .i64) ++ LL) (List.replicate (k + 1) (.bool false)) (List.replicate (k + 1) (.int .i64 0)) ∧ Below w2.heap.size w2 wc)
          case first =>
            go_region
            all_goals
              go_wp2
              go_meet
              case rel =>
                refine ⟨_, _, rfl, rfl, ta_e own3 (heap3 w2 _ _ _).2.2 ?_ ?_ (by omega) (by omega) (by omega) h, ?_⟩
                all_goals first
                  | exact (heap3 w2 _ _ _).1
                  | exact (heap3 w2 _ _ _).2.1
                  | exact (((((Below.refl _ w2).alloc (Nat.le_refl _) _).alloc (by simp) _).alloc (by simp; omega) _)).drew
          case rest =>
            clear m2 m3
            obtain ⟨p, ⟨vN, vW, vB⟩, rfl, hvN, t0, b0⟩ := hcut
            dsimp only at hvN
            subst hvN
            obtain ⟨gW, kW, rfl, _, _⟩ := t0.rW.form (by omega)
            obtain ⟨gB, kB, rfl, _, _⟩ := t0.rB.form (by omega)
            obtain ⟨nn, hnn, hnk⟩ : ∃ nn : Nat, wrap64 (sel.tmod ((k : Int) + 1)) = (nn : Int) ∧ nn ≤ k := by
              have e := Int.emod_lt_of_pos sel (show (0 : Int) < (k : Int) + 1 by omega)
              have e0 := Int.emod_nonneg sel (show (k : Int) + 1 ≠ 0 by omega)
              refine ⟨(sel % ((k : Int) + 1)).toNat, ?_, by omega⟩
              rw [Int.tmod_eq_emod_of_nonneg HS.out.1, IntWalk.wrap64_in _ ⟨by omega, by omega⟩]
              omega
            have HNN : Hid (wrap64 (sel.tmod ((k : Int) + 1)) = (nn : Int)) := hnn
            clear hnn
            go_wp2_with fail
            rw [HNN.out]
            clear HNN
            refine (ebyte_calls raw high _).mono ?_
            rintro e wc ⟨rfl, rfl⟩
            have hcc : 0 ≤ byteE raw high ∧ byteE raw high ≤ 255 := by unfold byteE; omega
            generalize byteE raw high = cc at *
            obtain ⟨hcc0, hcc1⟩ := hcc
            have hlen : (TB ++ lastL).length = (k + 1) * 26 := by rw [List.length_append, HT.out, lastL_len]; omega
            have hxN : TB.map (Value.int .i64) ++ LL = (TB ++ lastL).map (Value.int .i64) := by rw [List.map_append, HLL.out]
            rw [hxN] at t0
            have hrow := row26_len (TB ++ lastL) nn (k + 1) hlen (by omega)
            have hra : wc.rangeAt w.heap.size (nn * 26) ((row26 (TB ++ lastL) nn).map (.int .i64)) := own_range t0.rN (nn * 26) _ (row_at _ nn _ rfl)
            have hs1 : (Yblm.prog.info? 24).map (·.size) = some ((row26 (TB ++ lastL) nn).map (Value.int .i64)).length := by rw [List.length_map, hrow]; exact sizeRow
            have hs2 : (Yblm.prog.info? 24).map (·.size) = some ((row26 (TB ++ lastL) nn).map (Value.int .i64)).toArray.size := hs1
            have ho : ((row26 (TB ++ lastL) nn).map (Value.int .i64)).toArray.all (·.oneCell') = true := all_oneCell_toArray (ints_one _)
            have hth : ∀ Z : World, Z.heap[wc.heap.size]? = some (.cells (List.replicate 26 (Value.int .i64 0)).toArray 24 (0, 0)) → Z.there wc.heap.size 0 ((row26 (TB ++ lastL) nn).map (Value.int .i64)).toArray.size := fun Z hZ => there_of (A := []) (M := List.replicate 26 (Value.int .i64 0)) (C := []) (by simpa using hZ) 0 _ rfl (by simp [hrow])
            have hst : ∀ Z : World, Z.heap[wc.heap.size]? = some (.cells (List.replicate 26 (Value.int .i64 0)).toArray 24 (0, 0)) → (Z.setCells wc.heap.size 0 ((row26 (TB ++ lastL) nn).map (Value.int .i64))).heap[wc.heap.size]? = some (.cells ((row26 (TB ++ lastL) nn).map (Value.int .i64)).toArray 24 (0, 0)) := fun Z hZ => by
              have := setCells_splice (A := []) (M := List.replicate 26 (Value.int .i64 0)) (C := []) ((row26 (TB ++ lastL) nn).map (Value.int .i64)) 0 (by simpa using hZ) (by simp [hrow]) rfl
              simpa using this
            have HTH := hide2 hth
            have HST := hide2 hst
            clear hth hst hxN hlen
            have HR : Hid ((row26 (TB ++ lastL) nn).length = 26) := hrow
            clear hrow
            generalize hRR : (row26 (TB ++ lastL) nn).map (Value.int .i64) = RR at hra hs1 hs2 ho HTH HST
            have HRR : Hid ((row26 (TB ++ lastL) nn).map (Value.int .i64) = RR) := hRR
            clear hRR
            go_wp2_with (first
              | (refine wpList_load_mid rfl 24 (.tmp 74) rfl w.heap.size (nn * 26) rfl _ _ hra Yblm.underlying24 rfl hs1 ?_)
              | (refine wpList_store_mid rfl 24 (.tmp 17) (.tmp 75) rfl wc.heap.size 0 _ rfl rfl (HTH.out _ (by rw [heap_alloc_new]; rfl)) hs2 ho ?_))
            obtain ⟨w5, hw5⟩ : ∃ w5, w5 = (wc.alloc (.cells #[.int .i64 0, .int .i64 0, .int .i64 0, .int .i64 0, .int .i64 0, .int .i64 0, .int .i64 0, .int .i64 0, .int .i64 0, .int .i64 0, .int .i64 0, .int .i64 0, .int .i64 0, .int .i64 0, .int .i64 0, .int .i64 0, .int .i64 0, .int .i64 0, .int .i64 0, .int .i64 0, .int .i64 0, .int .i64 0, .int .i64 0, .int .i64 0, .int .i64 0, .int .i64 0] 24)).setCells wc.heap.size 0 RR := ⟨_, rfl⟩
            rw [← hw5]
            have b5 : Below wc.heap.size wc w5 := by rw [hw5]; exact below_setCells ((Below.refl _ wc).alloc (Nat.le_refl _) _) (Nat.le_refl _) _ _
            have h5 : w5.heap[wc.heap.size]? = some (.cells RR.toArray 24 (0, 0)) := by rw [hw5]; exact HST.out _ (by rw [heap_alloc_new]; rfl)
            have H5 : Hid (w5.heap[wc.heap.size]? = some (.cells RR.toArray 24 (0, 0))) := h5
            clear hw5 h5 HST HTH hra hs1 hs2 ho
            go_loop [18, 19] (fun v i => ∃ j : Nat, i = .int .i64 j ∧ j ≤ 26 ∧ v = .int .i64 (wantTo (row26 (TB ++ lastL) nn) cc j)) (fun _ i => 26 - (intOf i).toNat)
            case atStart => exact ⟨0, rfl, Nat.zero_le _, by rw [wantTo_zero]⟩
            case round =>
              obtain ⟨j, rfl, hj, rfl⟩ := hrel
              by_cases hj26 : j < 26
              · have hix := fun W => run_alpha j hj26 W
                have hcell : w5.cell? ⟨wc.heap.size, j, none⟩ = some (.int .i64 ((row26 (TB ++ lastL) nn).getD j 0)) := cell_st H5.out j _ (by rw [← HRR.out]; exact map_get _ j (by rw [HR.out]; exact hj26))
                by_cases hcj : 97 + (j : Int) = cc
                · have hb : ((97 + (j : Int)) == cc) = true := beq_iff_eq.2 hcj
                  have hw := wantTo_hit (row26 (TB ++ lastL) nn) cc j hcj
                  generalize (row26 (TB ++ lastL) nn).getD j 0 = rj at hcell hw
                  have HW : Hid (wantTo (row26 (TB ++ lastL) nn) cc (j + 1) = rj) := hw
                  clear hw
                  clear hcj
                  go_wp2
                  go_round
                  case rel => exact ⟨j + 1, by go_num, by omega, by rw [HW.out]⟩
                  case measure => simp [intOf]; omega
                · have hb : ((97 + (j : Int)) == cc) = false := beq_eq_false_iff_ne.2 hcj
                  have HW : Hid (wantTo (row26 (TB ++ lastL) nn) cc (j + 1) = wantTo (row26 (TB ++ lastL) nn) cc j) := wantTo_miss _ cc j hcj
                  clear hcj
                  go_wp2
                  go_round
                  case rel => exact ⟨j + 1, by go_num, by omega, by rw [HW.out]⟩
                  case measure => simp [intOf]; omega
              · have t5 := t0.below b5
                have hchild : Calls Yblm.prog 16 #[.pointer (some ⟨p, 0, none⟩), .int .i64 (nn : Int), .int .u8 cc] w5 fun e w' => e = .returned (.tuple #[.int .i64 (wantTo (row26 (TB ++ lastL) nn) cc j), .bool (wantTo (row26 (TB ++ lastL) nn) cc j != 0)]) ∧ w' = w5 := by
                  have hj2 : j = 26 := by omega
                  by_cases hcc : 97 ≤ cc ∧ cc ≤ 122
                  · refine child_ok p w.heap.size (k + 1) (k + 1) nn cc _ w5 (by omega) (by omega) hcc.1 hcc.2 t5.mid.c0 ?_
                    have hl := row26_len (TB ++ lastL) nn (k + 1) (by rw [List.length_append, HT.out, lastL_len]; omega) (by omega)
                    refine own_cell t5.rN _ _ ?_
                    have := row_at (TB ++ lastL) nn _ rfl (cc - 97).toNat (.int .i64 (wantTo (row26 (TB ++ lastL) nn) cc j)) ?_
                    · simpa using this
                    · unfold wantTo
                      rw [if_pos (by omega), List.getElem?_map, List.getElem?_eq_getElem (by omega)]
                      simp [List.getD, List.getElem?_eq_getElem (show (cc - 97).toNat < (row26 (TB ++ lastL) nn).length by omega)]
                  · have h0 : wantTo (row26 (TB ++ lastL) nn) cc j = 0 := by unfold wantTo; rw [if_neg (by omega)]
                    rw [h0]
                    exact child_bad p nn cc w5 (by omega)
                have HCH := hide2 hchild
                clear hchild
                go_wp2_with fail
                generalize wantTo (row26 (TB ++ lastL) nn) cc j = mm at *
                refine HCH.out.mono ?_
                rintro e w6 ⟨rfl, rfl⟩
                have e1 : (mm != mm) = false := by simp
                have e2 : ((mm != 0) != (mm != 0)) = false := by simp
                have e3 : ((k : Int) + 1 != (k : Int) + 1) = false := by simp
                obtain ⟨c0, c1, c2, _, _, _⟩ := t5.mid
                dsimp only at c0 c1 c2
                have hjd : decide ((j : Int) < 26) = false := decide_eq_false (by omega)
                have hw2s : w.heap.size ≤ w2.heap.size := bel3.size
                have hwcs : w2.heap.size ≤ wc.heap.size := b0.size
                have bel6 : Below w.heap.size w w6 := bel3.trans ((b0.mono hw2s).trans (b5.mono (by omega)))
                have hL6 : w6.heap[wo.heap.size]? = some (.cells LL.toArray 24 (0, 0)) := by rw [b5.block _ (by omega), b0.block _ hsz3]; exact HL3.out
                have HL6 := hide2 hL6
                clear HCH t0 hL6
                go_wp2
                go_loopw [22] (fun i wx => ∃ j : Nat, i = .int .i64 j ∧ j ≤ k ∧ ∃ m, wx = w6.drewN m) (fun i _ => k - (intOf i).toNat)
                case atStart => exact ⟨0, rfl, Nat.zero_le _, 0, rfl⟩
                case round =>
                  obtain ⟨t, rfl, ht, m, rfl⟩ := hrel
                  by_cases htk : t < k
                  · have hea := HA.out (by omega)
                    subst hea
                    have hrl := row26_len TB t k HT.out htk
                    have g1 := own_range t5.rN (t * 26) ((row26 TB t).map (.int .i64)) (row_at (TB ++ lastL) t _ (row26_app_left TB lastL t k HT.out htk).symm)
                    have g2 : w6.rangeAt b (off + t * 26) ((row26 TB t).map (.int .i64)) := fun i v hv => (bel6.cell (p := ⟨b, off + t * 26 + i, none⟩) (hc.lt (by omega))).trans (hc.nx t htk i v hv)
                    have hs1 : (Yblm.prog.info? 24).map (·.size) = some ((row26 TB t).map (Value.int .i64)).length := by rw [List.length_map, hrl]; exact sizeRow
                    have l1 := fun n => run_loadAt_mid (P := Yblm.prog) (w6.drewN n) w.heap.size (t * 26) 24 _ _ g1 Yblm.underlying24 rfl hs1
                    have l2 := fun n => run_loadAt_mid (P := Yblm.prog) (w6.drewN n) b (off + t * 26) 24 _ _ g2 Yblm.underlying24 rfl hs1
                    have l3 := fun W : World => run_neq_ints (P := Yblm.prog) W 24 3 26 Yblm.underlying24 Yblm.underlying3 sizeInt (row26 TB t) (row26 TB t) hrl hrl
                    rw [show (row26 TB t != row26 TB t) = false from by simp] at l3
                    have z1 : (0 : Int) ≤ (t : Int) := by omega
                    have z2 : (t : Int) < (k : Int) := by omega
                    have z3 : (t : Int) < (k : Int) + 1 := by omega
                    have z6 := guardRow
                    generalize ((row26 TB t).map (Value.int .i64)).toArray = R at l1 l2 l3
                    clear g1 g2 hs1 hrl
                    go_wp2
                    refine wp_region_quiet_lit (by kernel_rfl) (by kernel_rfl) ?_
                    repeat (first
                      | (go_big_quiet_step (fail))
                      | (go_big_quiet_want; refine quiet_load_row 24 (.tmp 139) rfl ⟨w.heap.size, t * 26, none⟩ rfl R (fun _ ⟨n, hn⟩ => hn ▸ by simpa using l1 (m + n)) ?_; go_simp; go_big_quiet_on)
                      | (go_big_quiet_want; refine quiet_load_row 24 (.tmp 143) rfl ⟨b, off + t * 26, none⟩ rfl R (fun _ ⟨n, hn⟩ => hn ▸ by simpa using l2 (m + n)) ?_; go_simp; go_big_quiet_on)
                      | (go_big_quiet_want; refine quiet_cmp_row .neq 24 (.tmp 140) (.tmp 144) rfl R R rfl rfl (.bool false) z6 l3 ?_; go_simp; go_big_quiet_on))
                    refine wpQuiet_nil ?_
                    intro _ hw'
                    obtain ⟨nq, hw''⟩ := hw'
                    subst hw''
                    go_wp2
                    go_roundw
                    case rel => exact ⟨t + 1, by go_num, by omega, _, rfl⟩
                    case measure => simp [intOf]; omega
                  · have htk' : t = k := by omega
                    have g1 := own_range t5.rN (k * 26) LL (by rw [← HLL.out]; exact row_at (TB ++ lastL) k _ (row26_app_right TB lastL k HT.out lastL_len).symm)
                    have g2 : w6.rangeAt wo.heap.size 0 LL := rangeAt_of (A := []) (C := []) (by simpa using HL6.out) 0 rfl
                    have hs1 : (Yblm.prog.info? 24).map (·.size) = some LL.length := by rw [← HLL.out]; exact sizeRow
                    have l1 := fun n => run_loadAt_mid (P := Yblm.prog) (w6.drewN n) w.heap.size (k * 26) 24 _ _ g1 Yblm.underlying24 rfl hs1
                    have l2 := fun n => run_loadAt_mid (P := Yblm.prog) (w6.drewN n) wo.heap.size 0 24 _ _ g2 Yblm.underlying24 rfl hs1
                    have l3 := fun W : World => run_eql_ints (P := Yblm.prog) W 24 3 26 Yblm.underlying24 Yblm.underlying3 sizeInt lastL lastL lastL_len lastL_len
                    rw [show (lastL == lastL) = true from by simp, HLL.out] at l3
                    have z1 : (0 : Int) ≤ (k : Int) := by omega
                    have z3 : (k : Int) < (k : Int) + 1 := by omega
                    have z6 := guardRow
                    generalize LL.toArray = R at l1 l2 l3
                    clear g1 g2 hs1 htk'
                    go_wp2
                    refine wp_region_quiet_lit (by kernel_rfl) (by kernel_rfl) ?_
                    repeat (first
                      | (go_big_quiet_step (fail))
                      | (go_big_quiet_want; refine quiet_load_row 24 (.tmp 152) rfl ⟨w.heap.size, k * 26, none⟩ rfl R (fun _ ⟨n, hn⟩ => hn ▸ by simpa using l1 (m + n)) ?_; go_simp; go_big_quiet_on)
                      | (go_big_quiet_want; refine quiet_load_row 24 (.tmp 11) rfl ⟨wo.heap.size, 0, none⟩ rfl R (fun _ ⟨n, hn⟩ => hn ▸ by simpa using l2 (m + n)) ?_; go_simp; go_big_quiet_on)
                      | (go_big_quiet_want; refine quiet_cmp_row .eql 24 (.tmp 153) (.tmp 154) rfl R R rfl rfl (.bool true) z6 l3 ?_; go_simp; go_big_quiet_on))
                    refine wpQuiet_nil ?_
                    intro _ hw'
                    obtain ⟨nq, hw''⟩ := hw'
                    subst hw''
                    go_wp2
                    go_ret
                    exact ⟨rfl, bel6.trans ⟨rfl, rfl, rfl, Nat.le_refl _, fun _ _ => rfl⟩⟩
end Go.Proofs.Ymbrbl
