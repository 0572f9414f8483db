/-
  LawS930010GStep: the plain part: the Trie that the law builds, what collect finds in it. Own text.
-/
import Derived.Test.YmbrblCollect
import Derived.Test.YmbrblGrow
namespace Go.Proofs.Ymbrbl
open Go.RowKit

def T27 (k : Nat) : TT := ⟨List.replicate (k * 26) 0, List.replicate k false, List.replicate k 0⟩
theorem T27_grow (k : Nat) : (T27 k).grow = T27 (k + 1) := by
  unfold T27 TT.grow
  congr 1
  · rw [List.replicate_append_replicate, show (k + 1) * 26 = k * 26 + 26 by omega]
  · rw [List.replicate_succ']
  · rw [List.replicate_succ']

section
variable (root : Bool) (has word : List Bool) (below : List Int)
def nxK (k : Nat) : List Int := (List.range (27 * 26)).map (fun i => if i < 26 ∧ i < k ∧ has.getD i false = true then 26 - (i : Int) else 0)
def wdK (k : Nat) : List Bool := (List.range 27).map (fun c => if c = 0 then root else if 26 - c < k then word.getD (26 - c) false else false)
def blK (k : Nat) : List Int := (List.range 27).map (fun c => if c = 0 then 0 else if 26 - c < k then below.getD (26 - c) 0 else 0)
def TK (k : Nat) : TT := ⟨nxK has k, wdK root word k, blK below k⟩

theorem TK_len (k : Nat) : (TK root has word below k).wd.length = 27 := by simp [TK, wdK]
theorem nxK_zero : nxK has 0 = List.replicate (27 * 26) 0 := by
  apply List.ext_getElem?
  intro i
  by_cases hi : i < 27 * 26
  · rw [List.getElem?_replicate, if_pos hi]
    simp only [nxK, List.getElem?_map, List.getElem?_range hi, Option.map_some]
    rw [if_neg (by omega)]
  · rw [List.getElem?_eq_none (by simp only [nxK, List.length_map, List.length_range]; omega), List.getElem?_eq_none (by simp only [List.length_replicate]; omega)]
theorem wdK_zero : wdK root word 0 = (List.replicate 27 false).set 0 root := by
  apply List.ext_getElem?
  intro i
  by_cases hi : i < 27
  · by_cases h0 : i = 0
    · subst h0; simp [wdK]
    · simp only [wdK, List.getElem?_map, List.getElem?_range hi, Option.map_some, if_neg h0, Nat.not_lt_zero, if_false]
      rw [List.getElem?_set_ne (by omega), List.getElem?_replicate, if_pos hi]
  · simp [wdK, hi]
theorem blK_zero : blK below 0 = List.replicate 27 0 := by
  apply List.ext_getElem?
  intro i
  by_cases hi : i < 27
  · rw [List.getElem?_replicate, if_pos hi]
    simp only [blK, List.getElem?_map, List.getElem?_range hi, Option.map_some]
    by_cases h0 : i = 0
    · rw [if_pos h0]
    · rw [if_neg h0, if_neg (by omega)]
  · rw [List.getElem?_eq_none (by simp only [blK, List.length_map, List.length_range]; omega), List.getElem?_eq_none (by simp only [List.length_replicate]; omega)]
theorem nxK_yes (k : Nat) (hk : k < 26) (hb : has.getD k false = true) : nxK has (k + 1) = (nxK has k).set k (26 - (k : Int)) := by
  apply List.ext_getElem?
  intro i
  by_cases hi : i < 27 * 26
  · by_cases e : i = k
    · subst e
      rw [List.getElem?_set_self (by simp [nxK]; omega)]
      simp only [nxK, List.getElem?_map, List.getElem?_range hi, Option.map_some]
      rw [if_pos ⟨hk, by omega, hb⟩]
    · rw [List.getElem?_set_ne (by omega)]
      simp only [nxK, List.getElem?_map, List.getElem?_range hi, Option.map_some]
      congr 1
      by_cases h2 : i < 26 ∧ i < k ∧ has.getD i false = true
      · rw [if_pos h2, if_pos ⟨h2.1, by omega, h2.2.2⟩]
      · rw [if_neg h2, if_neg (fun h3 => h2 ⟨h3.1, by omega, h3.2.2⟩)]
  · rw [List.getElem?_eq_none (by simp [nxK]; omega), List.getElem?_eq_none (by simp [nxK]; omega)]
theorem nxK_no (k : Nat) (hb : has.getD k false = false) : nxK has (k + 1) = nxK has k := by
  unfold nxK
  apply List.map_congr_left
  intro i _
  by_cases e : i = k
  · subst e; rw [if_neg (by rw [hb]; simp), if_neg (by omega)]
  · by_cases h2 : i < 26 ∧ i < k ∧ has.getD i false = true
    · rw [if_pos h2, if_pos ⟨h2.1, by omega, h2.2.2⟩]
    · rw [if_neg h2, if_neg (fun h3 => h2 ⟨h3.1, by omega, h3.2.2⟩)]
theorem wdK_succ (k : Nat) (hk : k < 26) : wdK root word (k + 1) = (wdK root word k).set (26 - k) (word.getD k false) := by
  apply List.ext_getElem?
  intro i
  by_cases hi : i < 27
  · by_cases e : i = 26 - k
    · subst e
      rw [List.getElem?_set_self (by simp [wdK]; omega)]
      simp only [wdK, List.getElem?_map, List.getElem?_range hi, Option.map_some]
      rw [if_neg (by omega), if_pos (by omega), show 26 - (26 - k) = k by omega]
    · rw [List.getElem?_set_ne (by omega)]
      simp only [wdK, List.getElem?_map, List.getElem?_range hi, Option.map_some]
      congr 1
      by_cases h0 : i = 0
      · rw [if_pos h0, if_pos h0]
      · rw [if_neg h0, if_neg h0]
        by_cases h2 : 26 - i < k
        · rw [if_pos h2, if_pos (by omega)]
        · rw [if_neg h2, if_neg (by omega)]
  · rw [List.getElem?_eq_none (by simp [wdK]; omega), List.getElem?_eq_none (by simp [wdK]; omega)]
theorem blK_succ (k : Nat) (hk : k < 26) : blK below (k + 1) = (blK below k).set (26 - k) (below.getD k 0) := by
  apply List.ext_getElem?
  intro i
  by_cases hi : i < 27
  · by_cases e : i = 26 - k
    · subst e
      rw [List.getElem?_set_self (by simp [blK]; omega)]
      simp only [blK, List.getElem?_map, List.getElem?_range hi, Option.map_some]
      rw [if_neg (by omega), if_pos (by omega), show 26 - (26 - k) = k by omega]
    · rw [List.getElem?_set_ne (by omega)]
      simp only [blK, List.getElem?_map, List.getElem?_range hi, Option.map_some]
      congr 1
      by_cases h0 : i = 0
      · rw [if_pos h0, if_pos h0]
      · rw [if_neg h0, if_neg h0]
        by_cases h2 : 26 - i < k
        · rw [if_pos h2, if_pos (by omega)]
        · rw [if_neg h2, if_neg (by omega)]
  · rw [List.getElem?_eq_none (by simp [blK]; omega), List.getElem?_eq_none (by simp [blK]; omega)]

/-! ### What collect finds -/
set_option maxRecDepth 100000 in
theorem nxt_TK (n l : Nat) (hn : n < 27) (hl : l < 26) : (TK root has word below 26).nxt n l = if n = 0 ∧ has.getD l false = true then 26 - (l : Int) else 0 := by
  have hlt : n * 26 + l < 27 * 26 := by omega
  show (nxK has 26).getD (n * 26 + l) 0 = _
  rw [List.getD_eq_getElem?_getD]
  simp only [nxK, List.getElem?_map, List.getElem?_range hlt, Option.map_some, Option.getD_some]
  by_cases h0 : n = 0
  · subst h0
    rw [Nat.zero_mul, Nat.zero_add]
    by_cases hb : has.getD l false = true
    · rw [if_pos ⟨hl, hl, hb⟩, if_pos ⟨rfl, hb⟩]
    · rw [if_neg (fun h => hb h.2.2), if_neg (fun h => hb h.2)]
  · rw [if_neg (by omega), if_neg (fun h => h0 h.1)]
theorem wd_TK (n : Nat) (hn : n < 27) : (TK root has word below 26).wd.getD n false = if n = 0 then root else word.getD (26 - n) false := by
  show (wdK root word 26).getD n false = _
  rw [List.getD_eq_getElem?_getD]
  simp only [wdK, List.getElem?_map, List.getElem?_range hn, Option.map_some, Option.getD_some]
  by_cases h0 : n = 0
  · rw [if_pos h0, if_pos h0]
  · rw [if_neg h0, if_neg h0, if_pos (by omega)]
theorem bl_TK (n : Nat) (hn : n < 27) : (TK root has word below 26).bl.getD n 0 = if n = 0 then 0 else below.getD (26 - n) 0 := by
  show (blK below 26).getD n 0 = _
  rw [List.getD_eq_getElem?_getD]
  simp only [blK, List.getElem?_map, List.getElem?_range hn, Option.map_some, Option.getD_some]
  by_cases h0 : n = 0
  · rw [if_pos h0, if_pos h0]
  · rw [if_neg h0, if_neg h0, if_pos (by omega)]
theorem ok_TK (n : Nat) (hn : n < 27) : (TK root has word below 26).okRow n := by
  intro l hl
  rw [nxt_TK root has word below n l hn hl, TK_len]
  split <;> omega
theorem wgt_TK (n l : Nat) (hn : n < 27) (hl : l < 26) : (TK root has word below 26).wgt n l = if n = 0 ∧ has.getD l false = true then below.getD l 0 else 0 := by
  unfold TT.wgt
  rw [nxt_TK root has word below n l hn hl]
  by_cases h : n = 0 ∧ has.getD l false = true
  · rw [if_pos h, if_neg (by omega), if_pos h, show (26 - (l : Int)).toNat = 26 - l by omega, bl_TK root has word below (26 - l) (by omega), if_neg (by omega), show 26 - (26 - l) = l by omega]
  · rw [if_neg h, if_pos rfl, if_neg h]
theorem deep_TK : (TK root has word below 26).deep 2 0 := by
  refine ⟨by rw [TK_len]; omega, ok_TK root has word below 0 (by omega), fun l hl hp => ?_⟩
  rw [wgt_TK root has word below 0 l (by omega) hl] at hp
  have hb : has.getD l false = true := by
    by_cases h : has.getD l false = true
    · exact h
    · rw [if_neg (fun h2 => h h2.2)] at hp; omega
  rw [nxt_TK root has word below 0 l (by omega) hl, if_pos ⟨rfl, hb⟩, show (26 - (l : Int)).toNat = 26 - l by omega]
  refine ⟨by rw [TK_len]; omega, ok_TK root has word below _ (by omega), fun l' hl' hp' => ?_⟩
  rw [wgt_TK root has word below _ l' (by omega) hl', if_neg (by omega)] at hp'
  omega

/-- What the law wants after k letters. -/
def wantK (label : Str) (k : Nat) : List Str := (if root then [label] else []) ++ (List.range k).flatMap (fun l => if has.getD l false = true ∧ word.getD l false = true ∧ below.getD l 0 > 0 then [label ++ [ltr l]] else [])
theorem wantK_yes (label : Str) (k : Nat) (h : has.getD k false = true ∧ word.getD k false = true ∧ below.getD k 0 > 0) : wantK root has word below label (k + 1) = wantK root has word below label k ++ [label ++ [ltr k]] := by
  unfold wantK; rw [List.range_succ, List.flatMap_append, ← List.append_assoc]
  congr 1
  rw [List.flatMap_cons, List.flatMap_nil, List.append_nil, if_pos h]
theorem wantK_no (label : Str) (k : Nat) (h : ¬ (has.getD k false = true ∧ word.getD k false = true ∧ below.getD k 0 > 0)) : wantK root has word below label (k + 1) = wantK root has word below label k := by
  unfold wantK; rw [List.range_succ, List.flatMap_append, ← List.append_assoc, List.flatMap_cons, List.flatMap_nil, List.append_nil, if_neg h, List.append_nil]
theorem wantK_le (label : Str) : ∀ k, (wantK root has word below label k).length ≤ k + 1
  | 0 => by unfold wantK; cases root <;> simp
  | k + 1 => by
    have ih := wantK_le label k
    by_cases h : has.getD k false = true ∧ word.getD k false = true ∧ below.getD k 0 > 0
    · rw [wantK_yes root has word below label k h, List.length_append]; simp; omega
    · rw [wantK_no root has word below label k h]; omega
set_option maxRecDepth 100000 in
theorem coll_TK (label : Str) : (TK root has word below 26).coll 2 0 label = wantK root has word below label 26 := by
  show (if (TK root has word below 26).wd.getD 0 false then [label] else []) ++ (List.range 26).flatMap _ = _
  unfold wantK
  rw [wd_TK root has word below 0 (by omega), if_pos rfl]
  congr 1
  rw [List.flatMap_def, List.flatMap_def]
  congr 1
  apply List.map_congr_left
  intro l hl
  have hl : l < 26 := List.mem_range.1 hl
  have hwg := wgt_TK root has word below 0 l (by omega) hl
  by_cases hb : has.getD l false = true
  · rw [if_pos ⟨rfl, hb⟩] at hwg
    rw [hwg]
    by_cases hp : below.getD l 0 > 0
    · rw [if_pos hp, nxt_TK root has word below 0 l (by omega) hl, if_pos ⟨rfl, hb⟩, show (26 - (l : Int)).toNat = 26 - l by omega]
      show (if (TK root has word below 26).wd.getD (26 - l) false then [label ++ [ltr l]] else []) ++ (List.range 26).flatMap _ = _
      have hwd := wd_TK root has word below (26 - l) (by omega)
      rw [if_neg (by omega), show 26 - (26 - l) = l by omega] at hwd
      rw [hwd]
      have hz : (List.range 26).flatMap (fun l' => if (TK root has word below 26).wgt (26 - l) l' > 0 then (TK root has word below 26).coll 0 ((TK root has word below 26).nxt (26 - l) l').toNat (label ++ [ltr l] ++ [ltr l']) else []) = [] := by
        rw [List.flatMap_eq_nil_iff]
        intro l' _
        split <;> rfl
      rw [hz, List.append_nil]
      by_cases hw : word.getD l false = true
      · rw [if_pos hw, if_pos ⟨hb, hw, hp⟩]
      · rw [if_neg hw, if_neg (fun h => hw h.2.1)]
    · rw [if_neg hp, if_neg (fun h => hp h.2.2)]
  · rw [if_neg (fun h => hb h.2)] at hwg
    rw [hwg, if_neg (by omega), if_neg (fun h => hb h.1)]
end
end Go.Proofs.Ymbrbl
