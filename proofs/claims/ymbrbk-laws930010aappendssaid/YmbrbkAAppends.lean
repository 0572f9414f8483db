/-
  The walk of LawS930010AAppends. Own text.
-/
import Derived.Test.YmbrbkMake
import Derived.Test.YmbrbkGrow
import Derived.Deep.QuietTactic
import Derived.BigQuiet
namespace Go.Proofs.Ymbrbk
open Go.RowKit

/-- The nodes that came in: their links (26 a node), marks, counts. -/
structure Nodes (w : World) (b off len : Nat) (NX : List Int) (WD : List Bool) (BL : List Int) : Prop where
  lt : 0 < len → b < w.heap.size
  nx : ∀ i, i < len → w.rangeAt b (off + i * 28) (((NX.drop (i * 26)).take 26).map (.int .i64))
  wd : ∀ i, i < len → w.cell? ⟨b, off + i * 28 + 26, none⟩ = some (.bool (WD.getD i false))
  bl : ∀ i, i < len → w.cell? ⟨b, off + i * 28 + 27, none⟩ = some (.int .i64 (BL.getD i 0))

set_option maxRecDepth 100000 in
set_option maxHeartbeats 400000 in
theorem aapp_zero (a : Option Addr) (len cap : Nat) (d : Int) (h : 1024 < len) (w : World) : Calls Ybkm.prog 3 #[.slice a len cap, .int .u16 d] w fun e w' => e = .returned (.bool true) ∧ Below w.heap.size w w' := by
  go_enter Ybkm.func3, Ybkm.ntmps3
  go_wp2
  go_ret
  exact ⟨rfl, Below.refl _ _⟩

theorem heap_new (w : World) (o : Obj) (H : Nat) (h : w.heap.size = H) : (w.alloc o).heap[H]? = some o := by subst h; exact heap_alloc_new w o
theorem take_map_succ {α β : Type} (l : List α) (f : α → β) (d : α) (k : Nat) (h : k < l.length) (R : List β) : (l.take k).map f ++ f (l.getD k d) :: R = (l.take (k + 1)).map f ++ R := by
  rw [List.take_succ_eq_append_getElem h, List.map_append, List.append_assoc]
  simp only [List.getD, List.getElem?_eq_getElem h, List.map_cons, List.map_nil, Option.getD_some, List.singleton_append]

/-- After k rounds of the copying loop. -/
structure L1 (w wr : World) (N0 len k : Nat) (NX : List Int) (WD : List Bool) (BL : List Int) : Prop where
  bel : Below N0 w wr
  sz : N0 + 3 ≤ wr.heap.size
  n : wr.heap[N0]? = some (.cells ((NX.take (k * 26)).map (Value.int .i64) ++ List.replicate ((len - k) * 26) (Value.int .i64 0)).toArray 27 (0, 0))
  wd : wr.heap[N0 + 1]? = some (.cells ((WD.take k).map Value.bool ++ List.replicate (len - k) (Value.bool false)).toArray 4 (0, 0))
  bl : wr.heap[N0 + 1 + 1]? = some (.cells ((BL.take k).map (Value.int .i64) ++ List.replicate (len - k) (Value.int .i64 0)).toArray 3 (0, 0))

theorem L1.start (w : World) (len : Nat) (NX : List Int) (WD : List Bool) (BL : List Int) :
    L1 w (((w.alloc (.cells (zers (len * 26)) 27)).alloc (.cells (falses len) 4)).alloc (.cells (zers len) 3)) w.heap.size len 0 NX WD BL := by
  refine ⟨(((Below.refl _ w).alloc (Nat.le_refl _) _).alloc (by simp) _).alloc (by simp; omega) _, by simp, ?_, ?_, ?_⟩
  · rw [Below.heap_alloc _ _ _ (by simp; omega), Below.heap_alloc _ _ _ (by simp), heap_alloc_new]; simp [zers]
  · rw [Below.heap_alloc _ _ _ (by simp)]
    rw [heap_new _ _ (w.heap.size + 1) (by simp)]; simp [falses]
  · rw [heap_new _ _ (w.heap.size + 1 + 1) (by simp)]; simp [zers]

theorem take_add26 (NX : List Int) (k : Nat) : NX.take ((k + 1) * 26) = NX.take (k * 26) ++ (NX.drop (k * 26)).take 26 := by
  rw [show (k + 1) * 26 = k * 26 + 26 by omega, List.take_add]

def row26 (NX : List Int) (k : Nat) : List Int := (NX.drop (k * 26)).take 26
theorem row26_len (NX : List Int) (k n : Nat) (h : NX.length = n * 26) (hk : k < n) : (row26 NX k).length = 26 := by
  unfold row26; rw [List.length_take, List.length_drop]; omega

theorem replicate_split {α : Type} (a b : Nat) (v : α) (h : b ≤ a) : List.replicate a v = List.replicate b v ++ List.replicate (a - b) v := by
  rw [List.replicate_append_replicate]; congr 1; omega

section
variable {w wr : World} {N0 len k : Nat} {NX : List Int} {WD : List Bool} {BL : List Int}
theorem L1.form (h : L1 w wr N0 len k NX WD BL) (hk : k < len) : wr.heap[N0]? = some (.cells ((NX.take (k * 26)).map (Value.int .i64) ++ List.replicate 26 (Value.int .i64 0) ++ List.replicate ((len - (k + 1)) * 26) (Value.int .i64 0)).toArray 27 (0, 0)) := by
  rw [h.n, List.append_assoc, replicate_split ((len - k) * 26) 26 _ (by omega), show (len - k) * 26 - 26 = (len - (k + 1)) * 26 by omega]

theorem L1.cells (h : L1 w wr N0 len k NX WD BL) (hk : k < len) (hW : WD.length = len) (hB : BL.length = len) (vs : List Value) :
    (wr.setCells N0 (k * 26) vs).cell? ⟨N0 + 1, k, none⟩ = some (.bool false) ∧ (wr.setCells N0 (k * 26) vs).frozen? ⟨N0 + 1, k, none⟩ = false ∧
    (wr.setCells N0 (k * 26) vs).cell? ⟨N0 + 1 + 1, k, none⟩ = some (.int .i64 0) ∧ (wr.setCells N0 (k * 26) vs).frozen? ⟨N0 + 1 + 1, k, none⟩ = false := by
  have e1 : (wr.setCells N0 (k * 26) vs).heap[N0 + 1]? = _ := (heap_setCells_other (by omega) vs wr (k * 26)).trans h.wd
  have e2 : (wr.setCells N0 (k * 26) vs).heap[N0 + 1 + 1]? = _ := (heap_setCells_other (by omega) vs wr (k * 26)).trans h.bl
  refine ⟨cell_st e1 k _ ?_, frozen_st e1 k, cell_st e2 k _ ?_, frozen_st e2 k⟩
  · rw [List.getElem?_toArray, List.getElem?_append_right (by simp; omega), List.getElem?_replicate, if_pos (by simp; omega)]
  · rw [List.getElem?_toArray, List.getElem?_append_right (by simp; omega), List.getElem?_replicate, if_pos (by simp; omega)]

/-- The three stores of a round. -/
theorem L1.step (h : L1 w wr N0 len k NX WD BL) (hk : k < len) (hN : NX.length = len * 26) (hW : WD.length = len) (hB : BL.length = len) :
    L1 w (((wr.setCells N0 (k * 26) ((row26 NX k).map (Value.int .i64))).setCell ⟨N0 + 1, k, none⟩ (.bool (WD.getD k false))).setCell ⟨N0 + 1 + 1, k, none⟩ (.int .i64 (BL.getD k 0))) N0 len (k + 1) NX WD BL := by
  have hr := row26_len NX k len hN hk
  refine ⟨((below_setCells h.bel (Nat.le_refl _) _ _).setCell (by simp) _).setCell (by simp; omega) _, by simp [World.setCell, size_setCells']; exact h.sz, ?_, ?_, ?_⟩
  · rw [Below.heap_setCell _ _ _ _ (by simp; omega), Below.heap_setCell _ _ _ _ (by simp)]
    have := setCells_splice ((row26 NX k).map (Value.int .i64)) (k * 26) (h.form hk) (by simp [hr]) (by simp; omega)
    rw [this, take_add26]
    simp [row26]
  · rw [Below.heap_setCell _ _ _ _ (by simp)]
    have e : (wr.setCells N0 (k * 26) ((row26 NX k).map (Value.int .i64))).heap[N0 + 1]? = some (.cells ((WD.take k).map Value.bool ++ Value.bool false :: List.replicate (len - (k + 1)) (Value.bool false)).toArray 4 (0, 0)) := by
      rw [heap_setCells_other (by omega), h.wd, show len - k = (len - (k + 1)) + 1 by omega, List.replicate_succ]
    rw [setCell_splice e _ k (by simp; omega), take_map_succ WD _ false k (by omega)]
  · have e : ((wr.setCells N0 (k * 26) ((row26 NX k).map (Value.int .i64))).setCell ⟨N0 + 1, k, none⟩ (.bool (WD.getD k false))).heap[N0 + 1 + 1]? = some (.cells ((BL.take k).map (Value.int .i64) ++ Value.int .i64 0 :: List.replicate (len - (k + 1)) (Value.int .i64 0)).toArray 3 (0, 0)) := by
      rw [Below.heap_setCell _ _ _ _ (by simp), heap_setCells_other (by omega), h.bl, show len - k = (len - (k + 1)) + 1 by omega, List.replicate_succ]
    rw [setCell_splice e _ k (by simp; omega), take_map_succ BL _ 0 k (by omega)]
end

theorem TA.drew {w : World} {B p : Nat} {h : Hd} {nN nW nB : Nat} {xN xW xB : List Value} (t : TA w B p h nN nW nB xN xW xB) : TA w.drew B p h nN nW nB xN xW xB := ⟨t.base, t.st, t.rN, t.rW, t.rB⟩

theorem own_take {w : World} {B g n k sz : Nat} {e : TypeId} {L : List Value} (hg : B ≤ g) (h : w.heap[g]? = some (.cells L.toArray e (0, 0))) (hL : L.length = k * sz) (hn : n ≤ k) (hk : k ≤ 1000000) :
    w.ownsRow B e sz (.slice (some ⟨g, 0, none⟩) n k) n (L.take (n * sz)) :=
  ⟨by rw [List.length_take, hL]; have := Nat.mul_le_mul_right sz hn; omega, .inr ⟨g, k, _, rfl, hg, h, hn, by unfold maxLen; omega, by simpa using hL, by simp⟩⟩

theorem L1.trie {w wr : World} {N0 len : Nat} {NX : List Int} {WD : List Bool} {BL : List Int} (h : L1 w wr N0 len len NX WD BL) {q : Nat} (hq : q ≤ len) (hN : NX.length = len * 26) (hW : WD.length = len) (hB : BL.length = len) (hlen : len ≤ 1024) :
    TA ((wr.alloc (.cells #[.slice (some ⟨N0, 0, none⟩) q len, .slice (some ⟨N0 + 1, 0, none⟩) q len, .slice (some ⟨N0 + 1 + 1, 0, none⟩) q len] 32)).drew) N0 wr.heap.size
      ⟨.slice (some ⟨N0, 0, none⟩) q len, .slice (some ⟨N0 + 1, 0, none⟩) q len, .slice (some ⟨N0 + 1 + 1, 0, none⟩) q len⟩ q q q ((NX.take (q * 26)).map (.int .i64)) ((WD.take q).map .bool) ((BL.take q).map (.int .i64)) := by
  have hs := h.sz
  refine TA.drew ⟨by omega, heap_alloc_new _ _, ?_, ?_, ?_⟩
  · have e := h.n
    rw [Nat.sub_self, Nat.zero_mul, List.replicate_zero, List.append_nil, ← hN, List.take_length] at e
    have := own_take (w := wr) (B := N0) (n := q) (k := len) (sz := 26) (Nat.le_refl _) e (by simpa using hN) hq (by omega)
    rw [← List.map_take] at this
    exact this.alloc _
  · have e := h.wd
    rw [Nat.sub_self, List.replicate_zero, List.append_nil, ← hW, List.take_length] at e
    have := own_take (w := wr) (B := N0) (n := q) (k := len) (sz := 1) (by omega) e (by simpa using hW) hq (by omega)
    rw [← List.map_take, Nat.mul_one] at this
    exact this.alloc _
  · have e := h.bl
    rw [Nat.sub_self, List.replicate_zero, List.append_nil, ← hB, List.take_length] at e
    have := own_take (w := wr) (B := N0) (n := q) (k := len) (sz := 1) (by omega) e (by simpa using hB) hq (by omega)
    rw [← List.map_take, Nat.mul_one] at this
    exact this.alloc _

theorem own_range {w : World} {B g n c sz : Nat} {e : TypeId} {xs : List Value} (h : w.ownsRow B e sz (.slice (some ⟨g, 0, none⟩) n c) n xs) (o : Nat) (M : List Value) (hM : ∀ i v, M[i]? = some v → xs[o + i]? = some v) : w.rangeAt g o M := by
  intro i v hv
  have := h.cells (g := g) rfl (o + i) v (hM i v hv)
  rwa [Addr.add_mid, Nat.zero_add] at this
theorem own_cell {w : World} {B g n c sz : Nat} {e : TypeId} {xs : List Value} (h : w.ownsRow B e sz (.slice (some ⟨g, 0, none⟩) n c) n xs) (i : Nat) (v : Value) (hv : xs[i]? = some v) : w.cell? ⟨g, i, none⟩ = some v := by
  have := h.cells (g := g) rfl i v hv
  rwa [Addr.add_mid, Nat.zero_add] at this
theorem row_in (NX : List Int) (q j : Nat) (hj : j < q) : ∀ i v, ((row26 NX j).map (Value.int .i64))[i]? = some v → ((NX.take (q * 26)).map (Value.int .i64) ++ zrow)[j * 26 + i]? = some v := by
  intro i v hv
  simp only [row26, List.getElem?_map, List.getElem?_take, List.getElem?_drop] at hv
  by_cases h26 : i < 26
  · rw [if_pos h26] at hv
    have hl : j * 26 + i < NX.length := by
      cases h : NX[j * 26 + i]? with
      | none => simp [h] at hv
      | some z => exact (List.getElem?_eq_some_iff.1 h).1
    rw [List.getElem?_append_left (by rw [List.length_map, List.length_take]; omega), List.getElem?_map, List.getElem?_take, if_pos (by omega)]
    exact hv
  · rw [if_neg h26] at hv; cases hv
theorem cell_in {α : Type} (l : List α) (q j : Nat) (d : α) (f : α → Value) (R : List Value) (hj : j < q) (hl : j < l.length) : ((l.take q).map f ++ R)[j]? = some (f (l.getD j d)) := by
  rw [List.getElem?_append_left (by rw [List.length_map, List.length_take]; omega), List.getElem?_map, List.getElem?_take, if_pos hj]
  simp [List.getD, List.getElem?_eq_getElem hl]
theorem cell_last {α : Type} (l : List α) (q : Nat) (f : α → Value) (v : Value) (hl : q ≤ l.length) : ((l.take q).map f ++ [v])[q]? = some v := by
  have e : ((l.take q).map f).length = q := by simp; omega
  rw [List.getElem?_append_right (by omega), e]; simp
theorem guardRow : Ybkm.prog.eqGuardType Ybkm.prog.depth 27 = false := by kernel_rfl

set_option maxRecDepth 100000 in
set_option maxHeartbeats 400000 in
theorem aapp_some (a : Option Addr) (b off len cap : Nat) (ha : 0 < len → a = some ⟨b, off, none⟩) (d : Int) (NX : List Int) (WD : List Bool) (BL : List Int) (w : World) (h : len ≤ 1024) (hd0 : 0 ≤ d) (hd1 : d ≤ 65535) (hN : NX.length = len * 26) (hW : WD.length = len) (hB : BL.length = len)
    (hc : Nodes w b off len NX WD BL) :
    Calls Ybkm.prog 3 #[.slice a len cap, .int .u16 d] w fun e w' => e = .returned (.bool true) ∧ Below w.heap.size w w' := by
  have HC : Hid (NX.length = len * 26 ∧ WD.length = len ∧ BL.length = len) := ⟨hN, hW, hB⟩
  clear hN hW hB
  have HA : Hid (0 < len → a = some ⟨b, off, none⟩) := ha
  clear ha
  have m1 := run_makeN len len (Nat.le_refl _) (by omega)
  have m2 := run_makeW len len (Nat.le_refl _) (by omega)
  have m3 := run_makeB len len (Nat.le_refl _) (by omega)
  have hdec : decide ((1024 : Int) < (len : Int)) = false := decide_eq_false (by omega)
  go_enter Ybkm.func3, Ybkm.ntmps3
  go_wp2
  clear m1 m2 m3
  go_loopw [8] (fun i wr => ∃ k : Nat, i = .int .i64 k ∧ k ≤ len ∧ L1 w wr w.heap.size len k NX WD BL) (fun i _ => len - (intOf i).toNat)
  case atStart => exact ⟨0, rfl, Nat.zero_le _, L1.start w len NX WD BL⟩
  case round =>
    obtain ⟨k, rfl, hk, hl⟩ := hrel
    by_cases hlt : k < len
    · have hea := HA.out (by omega)
      subst hea
      have hrow := row26_len NX k len HC.out.1 hlt
      have hra : wr.rangeAt b (off + k * 28) ((row26 NX k).map (.int .i64)) := fun j v hv => (hl.bel.cell (p := ⟨b, off + k * 28 + j, none⟩) (hc.lt (by omega))).trans (hc.nx k hlt j v hv)
      have hth : wr.there w.heap.size (k * 26) ((row26 NX k).map (Value.int .i64)).toArray.size := there_of (hl.form hlt) (k * 26) _ (by simp; have := HC.out.1; omega) (by simp [hrow])
      have hs1 : (Ybkm.prog.info? 27).map (·.size) = some ((row26 NX k).map (Value.int .i64)).length := by rw [List.length_map, hrow]; exact sizeRow
      have hs2 : (Ybkm.prog.info? 27).map (·.size) = some ((row26 NX k).map (Value.int .i64)).toArray.size := hs1
      have ho : ((row26 NX k).map (Value.int .i64)).toArray.all (·.oneCell') = true := all_oneCell_toArray (fun v hv => by obtain ⟨z, _, rfl⟩ := List.mem_map.1 hv; rfl)
      have HR : Hid ((row26 NX k).length = 26) := hrow
      clear hrow
      have HS := hl.step hlt HC.out.1 HC.out.2.1 HC.out.2.2
      generalize hrw : (row26 NX k).map (Value.int .i64) = rw0 at hra hth hs1 hs2 ho HS
      have hbl : b < w.heap.size := hc.lt (by omega)
      have b1 := below_setCells hl.bel (Nat.le_refl _) (k * 26) rw0
      have q1 := (b1.cell (p := ⟨b, off + k * 28 + 26, none⟩) hbl).trans (hc.wd k hlt)
      have q2 := (b1.cell (p := ⟨b, off + k * 28 + 27, none⟩) hbl).trans (hc.bl k hlt)
      obtain ⟨q3, q4, q5, q6⟩ := hl.cells hlt HC.out.2.1 HC.out.2.2 rw0
      clear b1
      go_wp2_with (first
        | (refine wpList_load_mid rfl 27 (.tmp 36) rfl b (off + k * 28) rfl _ _ hra Ybkm.underlying27 rfl hs1 ?_)
        | (refine wpList_store_mid rfl 27 (.tmp 38) (.tmp 37) rfl w.heap.size (k * 26) _ rfl rfl hth hs2 ho ?_))
      go_roundw
      case rel => exact ⟨k + 1, by go_num, by omega, HS⟩
      case measure => simp [intOf]; omega
    · obtain rfl : k = len := by omega
      obtain ⟨q, hq⟩ : ∃ q : Nat, (q : Int) = (k : Int) - d % ((k : Int) + 1) := ⟨((k : Int) - d % ((k : Int) + 1)).toNat, by have := Int.emod_lt_of_pos d (show (0 : Int) < (k : Int) + 1 by omega); omega⟩
      have hqk : q ≤ k := by have := Int.emod_nonneg d (show (k : Int) + 1 ≠ 0 by omega); omega
      have HQ : Hid ((q : Int) = (k : Int) - d % ((k : Int) + 1)) := hq
      have HN : Hid (Nodes w b off k NX WD BL) := hc
      clear hq hc
      go_wp2
      rw [← HQ.out]
      have h1 : (0 : Int) ≤ (q : Int) := by omega
      have h2 : (q : Int) ≤ (k : Int) := by omega
      have hqw : wrap64 (q : Int) = (q : Int) := IntWalk.wrap64_in _ ⟨by omega, by omega⟩
      go_region
      have T0 := hl.trie hqk HC.out.1 HC.out.2.1 HC.out.2.2 h
      have hsz := hl.sz
      go_wp2_with fail
      refine (grow_core w.heap.size wr.heap.size q _ _ _ _ _ _ _ _ _ _ T0 (by omega) (by simp; omega)).mono ?_
      rintro e w4 ⟨rfl, h4, t4, s4⟩
      have bel4 : Below w.heap.size w w4 := (((hl.bel.alloc (by omega) _).drew).trans (s4.t.below (fun k hk => (T0.foot_lt k hk).1) (by simp; omega)))
      obtain ⟨vN, vW, vB⟩ := h4
      obtain ⟨gN, kN, rfl, _, _⟩ := t4.rN.form (by omega)
      obtain ⟨gW, kW, rfl, _, _⟩ := t4.rW.form (by omega)
      obtain ⟨gB, kB, rfl, _, _⟩ := t4.rB.form (by omega)
      obtain ⟨c0, c1, c2, _, _, _⟩ := t4.mid
      dsimp only at c0 c1 c2
      have hqe : ((q : Int) != (q : Int)) = false := by simp
      have hqe1 : ((q : Int) + 1 != (q : Int) + 1) = false := by simp
      clear s4 T0 hl
      go_wp2
      go_loopw [11] (fun i wx => ∃ j : Nat, i = .int .i64 j ∧ j ≤ q ∧ ∃ m, wx = w4.drewN m) (fun i _ => q - (intOf i).toNat)
      case atStart => exact ⟨0, rfl, Nat.zero_le _, 0, rfl⟩
      case round =>
        obtain ⟨j, rfl, hj, m, rfl⟩ := hrel
        by_cases hjq : j < q
        · have hea := HA.out (by omega)
          subst hea
          have g1 := own_range t4.rN (j * 26) ((row26 NX j).map (.int .i64)) (row_in NX q j hjq)
          have g2 : w4.rangeAt b (off + j * 28) ((row26 NX j).map (.int .i64)) := fun i v hv => (bel4.cell (p := ⟨b, off + j * 28 + i, none⟩) (HN.out.lt (by omega))).trans (HN.out.nx j (by omega) i v hv)
          have hs1 : (Ybkm.prog.info? 27).map (·.size) = some ((row26 NX j).map (Value.int .i64)).length := by rw [List.length_map, row26_len NX j k HC.out.1 (by omega)]; exact sizeRow
          have l1 := fun n => run_loadAt_mid (P := Ybkm.prog) (w4.drewN n) gN (j * 26) 27 _ _ g1 Ybkm.underlying27 rfl hs1
          have l2 := fun n => run_loadAt_mid (P := Ybkm.prog) (w4.drewN n) b (off + j * 28) 27 _ _ g2 Ybkm.underlying27 rfl hs1
          have l3 := fun W : World => run_neq_ints (P := Ybkm.prog) W 27 3 26 Ybkm.underlying27 Ybkm.underlying3 sizeInt (row26 NX j) (row26 NX j) (row26_len NX j k HC.out.1 (by omega)) (row26_len NX j k HC.out.1 (by omega))
          rw [show (row26 NX j != row26 NX j) = false from by simp] at l3
          have d1 := own_cell t4.rW j (.bool (WD.getD j false)) (cell_in WD q j false _ _ hjq (by have := HC.out.2.1; omega))
          have d2 := own_cell t4.rB j (.int .i64 (BL.getD j 0)) (cell_in BL q j 0 _ _ hjq (by have := HC.out.2.2; omega))
          have d3 := (bel4.cell (p := ⟨b, off + j * 28 + 26, none⟩) (HN.out.lt (by omega))).trans (HN.out.wd j (by omega))
          have d4 := (bel4.cell (p := ⟨b, off + j * 28 + 27, none⟩) (HN.out.lt (by omega))).trans (HN.out.bl j (by omega))
          have z1 : (0 : Int) ≤ (j : Int) := by omega
          have z2 : (j : Int) < (k : Int) := by omega
          have z3 : (j : Int) < (q : Int) + 1 := by omega
          have z4 : (WD.getD j false != WD.getD j false) = false := by simp
          have z5 : (BL.getD j 0 != BL.getD j 0) = false := by simp
          have z6 := guardRow
          generalize ((row26 NX j).map (Value.int .i64)).toArray = R at l1 l2 l3
          generalize WD.getD j false = wj at d1 d3 z4
          generalize BL.getD j 0 = bj at d2 d4 z5
          clear g1 g2 hs1 bel4 t4
          go_wp2
          refine wp_region_quiet_lit (by kernel_rfl) (by kernel_rfl) ?_
          repeat (first
            | (go_big_quiet_step (fail))
            | (go_big_quiet_want; refine quiet_load_row 27 (.tmp 117) rfl ⟨gN, j * 26, none⟩ rfl R (fun _ ⟨n, hn⟩ => hn ▸ by simpa using l1 (m + n)) ?_; go_simp; go_big_quiet_on)
            | (go_big_quiet_want; refine quiet_load_row 27 (.tmp 122) rfl ⟨b, off + j * 28, none⟩ rfl R (fun _ ⟨n, hn⟩ => hn ▸ by simpa using l2 (m + n)) ?_; go_simp; go_big_quiet_on)
            | (go_big_quiet_want; refine quiet_cmp_row .neq 27 (.tmp 118) (.tmp 123) rfl R R rfl rfl (.bool false) z6 l3 ?_; go_simp; go_big_quiet_on))
          refine wpQuiet_nil ?_
          intro _ hw'
          obtain ⟨nq, hw''⟩ := hw'
          subst hw''
          go_wp2
          go_roundw
          case rel => exact ⟨j + 1, by go_num, by omega, _, rfl⟩
          case measure => simp [intOf]; omega
        · obtain rfl : j = q := by omega
          have d1 := own_cell t4.rW j (.bool false) (cell_last WD j _ _ (by have := HC.out.2.1; omega))
          have d2 := own_cell t4.rB j (.int .i64 0) (cell_last BL j _ _ (by have := HC.out.2.2; omega))
          have d3 : ∀ l, l < 26 → w4.cell? ⟨gN, j * 26 + l, none⟩ = some (.int .i64 0) := fun l hl26 => own_cell t4.rN (j * 26 + l) _ (by
            have hn := HC.out.1
            rw [List.getElem?_append_right (by simp; omega), List.length_map, List.length_take]
            simp only [zrow, List.getElem?_replicate]
            rw [if_pos (by omega)])
          have D3 : Hid (∀ l, l < 26 → w4.cell? ⟨gN, j * 26 + l, none⟩ = some (.int .i64 0)) := d3
          clear d3 t4
          go_wp2
          go_loopw [12] (fun i wx => ∃ l : Nat, i = .int .i64 l ∧ l ≤ 26 ∧ ∃ m, wx = w4.drewN m) (fun i _ => 26 - (intOf i).toNat)
          case atStart => exact ⟨0, rfl, Nat.zero_le _, _, rfl⟩
          case round =>
            obtain ⟨l, rfl, hl, m', rfl⟩ := hrel
            by_cases hl26 : l < 26
            · have d4 := D3.out l hl26
              go_wp2
              go_roundw
              case rel => exact ⟨l + 1, by go_num, by omega, _, rfl⟩
              case measure => simp [intOf]; omega
            · go_wp2
              go_ret
              exact ⟨rfl, bel4.trans ⟨rfl, rfl, rfl, Nat.le_refl _, fun _ _ => rfl⟩⟩
end Go.Proofs.Ymbrbk
