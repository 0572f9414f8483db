/-
  (*Trie).weight, (*Trie).collect over a Trie as plain data: the contracts. Own text.
-/
import Derived.Test.YmbrbmStrs
import Derived.Deep.RegionWith
import Derived.Deep.DrawnRows
import Derived.Deep.DeepCutAuto
import Derived.Laws.BytesString
namespace Go.Proofs.Ymbrbm
open Go.RowKit

/-- The byte of letter l. -/
def ltr (l : Nat) : UInt8 := UInt8.ofNat (97 + l)
/-- The child of node n by letter l, or 0. -/
def TT.nxt (T : TT) (n l : Nat) : Int := T.nx.getD (n * 26 + l) 0
/-- How many words lie at or under that child. -/
def TT.wgt (T : TT) (n l : Nat) : Int := if T.nxt n l = 0 then 0 else T.bl.getD (T.nxt n l).toNat 0
/-- Every link of node n leads to a node, or is 0. -/
def TT.okRow (T : TT) (n : Nat) : Prop := ∀ l, l < 26 → 0 ≤ T.nxt n l ∧ T.nxt n l < T.wd.length

theorem cellN {w : World} {B p : Nat} {h : Hd} {T : TT} {gN cN : Nat} (t : TrieAt w B p h T) (hN : h.N = .slice (some ⟨gN, 0, none⟩) T.wd.length cN) (n l : Nat) (hn : n < T.wd.length) (hl : l < 26) : w.cell? ⟨gN, n * 26 + l, none⟩ = some (.int .i64 (T.nxt n l)) := by
  have r := t.rN
  rw [hN] at r
  refine own_cell r _ _ ?_
  have hlen : n * 26 + l < T.nx.length := by rw [nxlen t]; omega
  rw [List.getElem?_map, List.getElem?_eq_getElem hlen]
  simp [TT.nxt, List.getD, List.getElem?_eq_getElem hlen]
theorem cellB {w : World} {B p : Nat} {h : Hd} {T : TT} {gB cB : Nat} (t : TrieAt w B p h T) (hB : h.B = .slice (some ⟨gB, 0, none⟩) T.wd.length cB) (n : Nat) (hn : n < T.wd.length) : w.cell? ⟨gB, n, none⟩ = some (.int .i64 (T.bl.getD n 0)) := by
  have r := t.rB
  rw [hB] at r
  refine own_cell r _ _ ?_
  have hlen : n < T.bl.length := by rw [bllen t]; omega
  rw [List.getElem?_map, List.getElem?_eq_getElem hlen]
  simp [List.getD, List.getElem?_eq_getElem hlen]
theorem cellW {w : World} {B p : Nat} {h : Hd} {T : TT} {gW cW : Nat} (t : TrieAt w B p h T) (hW : h.W = .slice (some ⟨gW, 0, none⟩) T.wd.length cW) (n : Nat) (hn : n < T.wd.length) : w.cell? ⟨gW, n, none⟩ = some (.bool (T.wd.getD n false)) := by
  have r := t.rW
  rw [hW] at r
  refine own_cell r _ _ ?_
  rw [List.getElem?_map, List.getElem?_eq_getElem hn]
  simp [List.getD, List.getElem?_eq_getElem hn]

/-- The handles of a Trie that has a node. -/
theorem handles {w : World} {B p : Nat} {h : Hd} {T : TT} (t : TrieAt w B p h T) (h0 : 0 < T.wd.length) : ∃ gN cN gW cW gB cB, h = ⟨.slice (some ⟨gN, 0, none⟩) T.wd.length cN, .slice (some ⟨gW, 0, none⟩) T.wd.length cW, .slice (some ⟨gB, 0, none⟩) T.wd.length cB⟩ := by
  obtain ⟨vN, vW, vB⟩ := h
  obtain ⟨gN, cN, e1, _, _⟩ := t.rN.form h0
  obtain ⟨gW, cW, e2, _, _⟩ := t.rW.form h0
  obtain ⟨gB, cB, e3, _, _⟩ := t.rB.form h0
  dsimp only at e1 e2 e3
  subst e1 e2 e3
  exact ⟨gN, cN, gW, cW, gB, cB, rfl⟩

theorem weight_T (B p : Nat) (h : Hd) (T : TT) (n l : Nat) (w : World) (t : TrieAt w B p h T) (hn : n < T.wd.length) (hl : l < 26) (hok : T.okRow n) :
    Calls Ybmm.prog 46 #[.pointer (some ⟨p, 0, none⟩), .int .i64 n, .int .i64 l] w fun e w' => e = .returned (.int .i64 (T.wgt n l)) ∧ w' = w := by
  obtain ⟨gN, cN, gW, cW, gB, cB, rfl⟩ := handles t (by omega)
  have c0 := t.mid.c0
  have c2 := t.mid.c2
  have hc := cellN t rfl n l hn hl
  obtain ⟨h0, h1⟩ := hok l hl
  by_cases hz : T.nxt n l = 0
  · have e : T.wgt n l = 0 := by unfold TT.wgt; rw [if_pos hz]
    rw [e]
    rw [hz] at hc
    exact weight_zero p gN T.wd.length cN n l w (by omega) (by omega) (by omega) (by omega) c0 (by simpa using hc)
  · have e : T.wgt n l = T.bl.getD (T.nxt n l).toNat 0 := by unfold TT.wgt; rw [if_neg hz]
    rw [e]
    refine weight_some p gN T.wd.length cN gB T.wd.length cB (T.nxt n l).toNat n l _ w (by omega) (by omega) (by omega) (by omega) (by omega) (by omega) c0 c2 ?_ (cellB t rfl _ (by omega))
    rw [Int.toNat_of_nonneg h0]
    simpa using hc

/-- The words that collect appends. -/
def TT.coll (T : TT) : Nat → Nat → Str → List Str
  | 0, _, _ => []
  | f + 1, n, s => (if T.wd.getD n false then [s] else []) ++ (List.range 26).flatMap (fun l => if T.wgt n l > 0 then T.coll f (T.nxt n l).toNat (s ++ [ltr l]) else [])
/-- .. up to letter k. -/
def TT.collTo (T : TT) (f n : Nat) (s : Str) (k : Nat) : List Str := (if T.wd.getD n false then [s] else []) ++ (List.range k).flatMap (fun l => if T.wgt n l > 0 then T.coll f (T.nxt n l).toNat (s ++ [ltr l]) else [])
/-- Node n is a node, its links are in order, and every road down from it (along positive counts) is shorter than f. -/
def TT.deep (T : TT) : Nat → Nat → Prop
  | 0, _ => False
  | f + 1, n => n < T.wd.length ∧ T.okRow n ∧ ∀ l, l < 26 → T.wgt n l > 0 → T.deep f (T.nxt n l).toNat

theorem sv_append1 (a : Str) (c : UInt8) : (⟨a.toArray⟩ : ByteArray) ++ ⟨#[c]⟩ = ⟨(a ++ [c]).toArray⟩ := sv_append a [c]
theorem run_letter (k : Nat) (H : Nat) (W : World) (hc : W.cell? ⟨H, 0, none⟩ = some (.int .u8 (97 + (k : Int)))) : (convert 45 9 (.slice (some ⟨H, 0, none⟩) 1 1)).run Ybmm.prog W = .ok (Sv [ltr k]) W := by
  rw [run_convert_bytes_string W 45 9 5 _ _ _ Ybmm.underlying45 Ybmm.underlying5 Ybmm.underlying9]
  rw [run_bytesToString W ⟨H, 0, none⟩ 1 1 [97 + (k : Int)] (run_loadCells_list (P := Ybmm.prog) W ⟨H, 0, none⟩ [.int .u8 (97 + (k : Int))] (fun j v hv => by
    match j, hv with
    | 0, hv => simp at hv; subst hv; simpa [Addr.add] using hc))]
  simp only [List.foldl_cons, List.foldl_nil]
  rw [show (97 + (k : Int)).toNat = 97 + k by omega]
  rfl

theorem TT.collTo_full (T : TT) (f n : Nat) (s : Str) : T.collTo f n s 26 = T.coll (f + 1) n s := rfl
theorem TT.collTo_no (T : TT) (f n : Nat) (s : Str) (k : Nat) (h : ¬ T.wgt n k > 0) : T.collTo f n s (k + 1) = T.collTo f n s k := by
  unfold TT.collTo; rw [List.range_succ, List.flatMap_append]; simp [h]
theorem TT.collTo_yes (T : TT) (f n : Nat) (s : Str) (k : Nat) (h : T.wgt n k > 0) : T.collTo f n s (k + 1) = T.collTo f n s k ++ T.coll f (T.nxt n k).toNat (s ++ [ltr k]) := by
  unfold TT.collTo; rw [List.range_succ, List.flatMap_append, ← List.append_assoc]; simp [h]
theorem TT.collTo_le (T : TT) (f n : Nat) (s : Str) (k : Nat) (h : k ≤ 26) : (T.collTo f n s k).length ≤ (T.coll (f + 1) n s).length := by
  rw [← TT.collTo_full]
  have : T.collTo f n s k <+: T.collTo f n s 26 := by
    unfold TT.collTo
    rw [show 26 = k + (26 - k) by omega, List.range_add, List.flatMap_append, ← List.append_assoc]
    exact List.prefix_append _ _
  exact this.length_le

attribute [local go_sem ↓] Go.wp_at_zero Go.wp_at_succ

set_option maxRecDepth 100000 in
set_option maxHeartbeats 1000000 in
theorem collect_calls (B p : Nat) (h : Hd) (T : TT) (f : Nat) : ∀ (n : Nat) (s : Str) (v : Value) (m : Nat) (xs : List Value) (w : World), T.deep f n → TrieAt w B p h T → w.ownsRow B 9 1 v m xs → s.length + f ≤ 1000000 → m + (T.coll f n s).length ≤ 1000000000 → B ≤ w.heap.size →
    Calls Ybmm.prog 45 #[.pointer (some ⟨p, 0, none⟩), .int .i64 n, Sv s, v] w fun e w' => ∃ v', e = .returned v' ∧ w'.ownsRow B 9 1 v' (m + (T.coll f n s).length) (xs ++ (T.coll f n s).map Sv) ∧ Lst v w v' w' ∧ (v.ownBlock.isSome = true → v'.ownBlock.isSome = true) := by
  induction f with
  | zero => intro n s v m xs w hd; exact hd.elim
  | succ f ih =>
    intro n s v m xs w hd t own hs hm hB
    obtain ⟨hn, hok, hdeep⟩ := hd
    obtain ⟨gN, cN, gW, cW, gB, cB, rfl⟩ := handles t (by omega)
    obtain ⟨a0, k0, rfl⟩ := ownsRow_slice own
    have IH := hide2 ih
    have HD := hide2 hdeep
    have HO := hide2 hok
    have HM := hide2 hm
    have hm0 : m ≤ 1000000000 := by omega
    clear ih hdeep hok hm
    have c0 := t.mid.c0
    have c1 := t.mid.c1
    dsimp only at c0 c1
    have cw := cellW t rfl n hn
    have hn0 : (n : Int) < (T.wd.length : Int) := by omega
    generalize hwd : T.wd.getD n false = bw at cw
    have HW : Hid (T.wd.getD n false = bw) := hwd
    clear hwd
    go_enter Ybmm.func45, Ybmm.ntmps45
    go_upto_if 16 with (fail)
    go_cut [3] (fun v1 w1 => (∃ x y, v1 = .slice x (m + (T.collTo f n s 0).length) y) ∧ w1.ownsRow B 9 1 v1 (m + (T.collTo f n s 0).length) (xs ++ (T.collTo f n s 0).map Sv) ∧ Lst (.slice a0 m k0) w v1 w1 ∧ ((Value.slice a0 m k0).ownBlock.isSome = true → v1.ownBlock.isSome = true))
    case first =>
      cases bw
      · go_wp2
        go_meet
        case rel =>
          have e : T.collTo f n s 0 = [] := by unfold TT.collTo; rw [HW.out]; rfl
          rw [e]
          exact ⟨⟨_, _, rfl⟩, by simpa using own, Lst.refl _ _, id⟩
      · go_wp2_with (at_builtin; go_must (refine wpList_app_str (.tmp 17) (.tmp 19) rfl rfl B m _ _ rfl own s w.heap.size rfl rfl (by omega) hB ?_))
        intro g cap w1 own1 st
        go_wp2
        go_meet
        case rel =>
          have e : T.collTo f n s 0 = [s] := by unfold TT.collTo; rw [HW.out]; rfl
          rw [e]
          exact ⟨⟨_, _, rfl⟩, own1, st, fun _ => rfl⟩
    case rest =>
      obtain ⟨⟨x0, y0, rfl⟩, own1, st1, hsome⟩ := hcut
      clear c0 c1 cw
      have T0 := hide2 t
      have OW := hide2 own
      clear t own
      go_wp2
      go_loopw [3, 9] (fun v1 i w1 => ∃ k : Nat, i = .int .i64 k ∧ k ≤ 26 ∧ (∃ x y, v1 = .slice x (m + (T.collTo f n s k).length) y) ∧ w1.ownsRow B 9 1 v1 (m + (T.collTo f n s k).length) (xs ++ (T.collTo f n s k).map Sv) ∧ Lst (.slice a0 m k0) w v1 w1 ∧ ((Value.slice a0 m k0).ownBlock.isSome = true → v1.ownBlock.isSome = true)) (fun _ i _ => 26 - (intOf i).toNat)
      case atStart => exact ⟨0, rfl, Nat.zero_le _, ⟨_, _, rfl⟩, own1, st1, hsome⟩
      case round =>
        obtain ⟨k, rfl, hk, ⟨x1, y1, rfl⟩, own2, st2, hsome2⟩ := hrel
        have HS2 := hide2 hsome2
        clear hsome hsome2 st1 own1
        by_cases hk26 : k < 26
        · have t2 := T0.out.lst OW.out st2
          have hle := TT.collTo_le T f n s k hk
          have wt := weight_T B p _ T n k wr t2 hn hk26 HO.out
          have WT := hide2 wt
          clear wt
          by_cases hpos : T.wgt n k > 0
          · have HE : Hid (T.collTo f n s (k + 1) = T.collTo f n s k ++ T.coll f (T.nxt n k).toNat (s ++ [ltr k])) := TT.collTo_yes T f n s k hpos
            have hd2 := HD.out k hk26 hpos
            obtain ⟨x2, x3⟩ := HO.out k hk26
            have hle2 : m + (T.collTo f n s k).length + (T.coll f (T.nxt n k).toNat (s ++ [ltr k])).length ≤ 1000000000 := by
              have := TT.collTo_le T f n s (k + 1) (by omega)
              rw [HE.out, List.length_append] at this
              have := HM.out
              omega
            have hbs := st2.t.size
            have cc := cellN t2 rfl n k hn hk26
            have c0 := t2.mid.c0
            dsimp only at c0
            have ih2 := fun W tW oW hW => IH.out (T.nxt n k).toNat (s ++ [ltr k]) (.slice x1 (m + (T.collTo f n s k).length) y1) (m + (T.collTo f n s k).length) (xs ++ (T.collTo f n s k).map Sv) W hd2 tW oW (by rw [List.length_append]; simp; omega) hle2 hW
            rw [Int.toNat_of_nonneg x2] at ih2
            have IH2 := hide2 ih2
            have rl := run_letter k wr.heap.size ((wr.alloc (.cells #[.int .u8 (97 + (k : Int))] 5)).drew) (by simp)
            have hcl : ¬ (9223372036854775807 < List.length s + 1) := by omega
            have rw1 : IntKind.i64.wrap (97 + (k : Int)) = 97 + (k : Int) := by rw [IntKind.wrap_i64]; omega
            have rw2 : IntKind.u8.wrap (97 + (k : Int)) = 97 + (k : Int) := by rw [IntKind.wrap_u8]; omega
            have HL2 := hide2 hle2
            have OW2 := hide2 own2
            have q1 : p < wr.heap.size := t2.plt
            have q2 : gN < wr.heap.size := (t2.rN.lt gN rfl).2
            have T2 := hide2 t2
            clear ih2 hd2 hle2 hle
            have z1 : (0 : Int) ≤ (n : Int) := by omega
            have z2 : (n : Int) < (T.wd.length : Int) := by omega
            have z3 : (0 : Int) ≤ (k : Int) := by omega
            have z4 : (k : Int) < 26 := by omega
            generalize T.wgt n k = wk at WT hpos
            generalize hnk : T.nxt n k = nk at cc IH2 HE x2 x3
            have HNK := hide2 hnk
            clear hnk
            go_wp2_with (go_at_call 46; refine WT.out.mono ?_; rintro e wr ⟨rfl, rfl⟩)
            go_region_with
              ((go_at_call 45; rw [sv_append1]; refine (IH2.out _ ((T2.out.alloc _).drew) ((OW2.out.alloc _).drew) (by simp; omega)).mono ?_; rintro e w1 ⟨v', rfl, own3, st3, hs3⟩; obtain ⟨x4, y4, rfl⟩ := ownsRow_slice own3))
            all_goals
              have st4 : Lst (.slice a0 m k0) w (.slice x4 (m + (T.collTo f n s k).length + (T.coll f nk.toNat (s ++ [ltr k])).length) y4) w1 := st2.trans (Lst.after (((Below.refl _ wr).alloc (Nat.le_refl _) (.cells #[.int .u8 (97 + (k : Int))] 5)).drew) st3)
              have e4 : m + (T.collTo f n s (k + 1)).length = m + (T.collTo f n s k).length + (T.coll f nk.toNat (s ++ [ltr k])).length := by rw [HE.out, List.length_append]; omega
              have e5 : xs ++ (T.collTo f n s (k + 1)).map Sv = xs ++ (T.collTo f n s k).map Sv ++ (T.coll f nk.toNat (s ++ [ltr k])).map Sv := by rw [HE.out, List.map_append, List.append_assoc]
              have E4 := hide2 e4
              have E5 := hide2 e5
              clear e4 e5
              go_wp2
              go_roundw
              case rel => exact ⟨k + 1, by go_num, by omega, by rw [E4.out, E5.out]; exact ⟨⟨_, _, rfl⟩, own3, st4, fun h => hs3 (HS2.out h)⟩⟩
              case measure => simp [intOf]; omega
          · have HE : Hid (T.collTo f n s (k + 1) = T.collTo f n s k) := TT.collTo_no T f n s k hpos
            generalize T.wgt n k = wk at WT hpos
            go_wp2_with (go_at_call 46; refine WT.out.mono ?_; rintro e w' ⟨rfl, rfl⟩)
            go_roundw
            case rel => exact ⟨k + 1, by go_num, by omega, by rw [HE.out]; exact ⟨⟨_, _, rfl⟩, own2, st2, HS2.out⟩⟩
            case measure => simp [intOf]; omega
        · obtain rfl : k = 26 := by omega
          go_wp2
          go_ret
          exact ⟨_, rfl, own2, st2, HS2.out⟩
end Go.Proofs.Ymbrbm
