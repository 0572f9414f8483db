/-
  How many words are smaller: the plain laws. Own text.
-/
import Derived.Test.YmbrblWithP
namespace Go.Proofs.Ymbrbl
open Go.RowKit

/-- How many words of S that start with p are smaller than x. -/
def rk (S : List Str) (p x : Str) : Nat := S.countP (fun y => p.isPrefixOf y && bl y x)
/-- How many words of S start with p and one of the first n letters. -/
def wsum (S : List Str) (p : Str) : Nat → Nat
  | 0 => 0
  | n + 1 => wsum S p n + cnt S (p ++ [ltr n])
/-- How many letters are smaller than the byte c. -/
def lo (c : UInt8) : Nat := min 26 (c.toNat - 97)
theorem lo_le (c : UInt8) : lo c ≤ 26 := Nat.min_le_left _ _
theorem lo_ltr {l : Nat} (h : l < 26) : lo (ltr l) = l := by unfold lo; rw [ltr_toNat h]; omega

def ind (b : Bool) : Nat := if b then 1 else 0
theorem countP_add {f g h : Str → Bool} : ∀ {S : List Str}, (∀ y ∈ S, ind (f y) = ind (g y) + ind (h y)) → S.countP f = S.countP g + S.countP h := by
  intro S
  induction S with
  | nil => intro _; rfl
  | cons a S ih =>
    intro H
    have h1 := H a (by simp)
    have h2 := ih (fun y hy => H y (List.mem_cons_of_mem _ hy))
    rw [List.countP_cons, List.countP_cons, List.countP_cons, h2]
    unfold ind at h1
    omega
theorem countP_same {f g : Str → Bool} {S : List Str} (h : ∀ y ∈ S, f y = g y) : S.countP f = S.countP g := List.countP_congr (fun y hy => by rw [h y hy])
theorem countP_self {S : List Str} (nd : S.Nodup) (p : Str) : S.countP (fun y => y == p) = if p ∈ S then 1 else 0 := by
  induction S with
  | nil => rfl
  | cons a S ih =>
    rw [List.nodup_cons] at nd
    rw [List.countP_cons, ih nd.2]
    by_cases h : a = p
    · subst h
      simp [nd.1]
    · have h2 : p ≠ a := fun e => h e.symm
      simp [h, h2]
/-- y goes on behind p with one of the first n letters. -/
def goesOn (p y : Str) (n : Nat) : Bool := p.isPrefixOf y && (match y[p.length]? with | some d => decide (97 ≤ d.toNat) && decide (d.toNat < 97 + n) | none => false)
theorem goesOn_no {p y : Str} (h : p.isPrefixOf y = false) (n : Nat) : goesOn p y n = false := by unfold goesOn; rw [h]; rfl
theorem goesOn_self (p : Str) (n : Nat) : goesOn p (p ++ []) n = false := by unfold goesOn; simp
theorem goesOn_cons (p : Str) (d : UInt8) (t : Str) (n : Nat) : goesOn p (p ++ d :: t) n = (decide (97 ≤ d.toNat) && decide (d.toNat < 97 + n)) := by
  unfold goesOn
  have h1 : p.isPrefixOf (p ++ d :: t) = true := pre_iff.2 (List.prefix_append _ _)
  have h2 : (p ++ d :: t)[p.length]? = some d := by rw [List.getElem?_append_right (Nat.le_refl _), Nat.sub_self]; rfl
  rw [h1, h2]
  rfl
theorem pre1_no {p y : Str} (h : p.isPrefixOf y = false) (c : UInt8) : (p ++ [c]).isPrefixOf y = false := by
  rw [pre_eq_false] at h ⊢
  exact fun h2 => h (List.IsPrefix.trans (List.prefix_append _ _) h2)
theorem pre1_self (p : Str) (c : UInt8) : (p ++ [c]).isPrefixOf (p ++ []) = false := by
  rw [pre_eq_false]
  intro h
  have := h.length_le
  simp at this
  omega
theorem pre1_cons (p : Str) (c d : UInt8) (t : Str) : (p ++ [c]).isPrefixOf (p ++ d :: t) = (c == d) := by
  rw [Bool.eq_iff_iff, pre_iff, beq_iff_eq, List.prefix_append_right_inj, List.cons_prefix_cons]
  constructor
  · exact fun h => h.1
  · exact fun h => ⟨h, List.nil_prefix⟩
/-- A string is no continuation of p, or p itself, or goes on with a byte. -/
theorem three (p y : Str) : p.isPrefixOf y = false ∨ y = p ++ [] ∨ ∃ d t, y = p ++ d :: t := by
  cases h : p.isPrefixOf y with
  | false => exact .inl rfl
  | true =>
    obtain ⟨t, rfl⟩ := pre_iff.1 h
    cases t with
    | nil => exact .inr (.inl rfl)
    | cons d t => exact .inr (.inr ⟨d, t, rfl⟩)
theorem wsum_goes (S : List Str) (p : Str) : ∀ n, n ≤ 26 → S.countP (fun y => goesOn p y n) = wsum S p n := by
  intro n
  induction n with
  | zero =>
    intro _
    show _ = 0
    rw [List.countP_eq_zero]
    intro y _
    rcases three p y with h | rfl | ⟨d, t, rfl⟩
    · rw [goesOn_no h]; simp
    · rw [goesOn_self]; simp
    · rw [goesOn_cons]; simp
  | succ n ih =>
    intro hn
    show _ = wsum S p n + cnt S (p ++ [ltr n])
    rw [← ih (by omega)]
    unfold cnt
    refine countP_add (fun y _ => ?_)
    rcases three p y with h | rfl | ⟨d, t, rfl⟩
    · rw [goesOn_no h, goesOn_no h, pre1_no h]; rfl
    · rw [goesOn_self, goesOn_self, pre1_self]; rfl
    · rw [goesOn_cons, goesOn_cons, pre1_cons]
      have hl := ltr_toNat (show n < 26 by omega)
      by_cases e : ltr n = d
      · subst e
        rw [hl]
        simp [ind]
      · have e2 : d.toNat ≠ 97 + n := fun h => e (UInt8.toNat_inj.1 (by rw [hl, h]))
        have e3 : (ltr n == d) = false := beq_eq_false_iff_ne.2 e
        rw [e3]
        have e4 : decide (d.toNat < 97 + (n + 1)) = decide (d.toNat < 97 + n) := by
          apply Bool.eq_iff_iff.2
          rw [decide_eq_true_eq, decide_eq_true_eq]
          omega
        rw [e4]
        simp [ind]
/-- One byte down. -/
theorem rk_step {S : List Str} (nd : S.Nodup) (p : Str) (c : UInt8) (r : Str) (hlet : ∀ d t, p ++ d :: t ∈ S → 97 ≤ d.toNat ∧ d.toNat ≤ 122) :
    rk S p (p ++ c :: r) = (if p ∈ S then 1 else 0) + wsum S p (lo c) + rk S (p ++ [c]) (p ++ c :: r) := by
  have h1 : rk S p (p ++ c :: r) = S.countP (fun y => y == p) + S.countP (fun y => p.isPrefixOf y && bl y (p ++ c :: r) && !(y == p)) := by
    unfold rk
    refine countP_add (fun y _ => ?_)
    by_cases e : y = p
    · subst e
      have : bl y (y ++ c :: r) = true := bl_prefix y c r
      have h2 : y.isPrefixOf y = true := pre_iff.2 (List.prefix_refl _)
      simp [this, h2, ind]
    · have e2 : (y == p) = false := beq_eq_false_iff_ne.2 e
      rw [e2]
      simp [ind]
  have h2 : S.countP (fun y => p.isPrefixOf y && bl y (p ++ c :: r) && !(y == p)) = S.countP (fun y => goesOn p y (lo c)) + S.countP (fun y => (p ++ [c]).isPrefixOf y && bl y (p ++ c :: r)) := by
    refine countP_add (fun y hy => ?_)
    rcases three p y with h | rfl | ⟨d, t, rfl⟩
    · rw [goesOn_no h, pre1_no h, h]; simp [ind]
    · rw [goesOn_self, pre1_self]; simp [ind]
    · obtain ⟨g1, g2⟩ := hlet d t hy
      rw [goesOn_cons, pre1_cons, bl_app, bl_cons]
      have k1 : p.isPrefixOf (p ++ d :: t) = true := pre_iff.2 (List.prefix_append _ _)
      have k2 : (p ++ d :: t == p) = false := by
        rw [beq_eq_false_iff_ne]
        intro e
        have := congrArg List.length e
        simp at this
      have k3 : (decide (97 ≤ d.toNat) && decide (d.toNat < 97 + lo c)) = decide (d < c) := by
        rw [Bool.eq_iff_iff, Bool.and_eq_true, decide_eq_true_eq, decide_eq_true_eq, decide_eq_true_eq, UInt8.lt_iff_toNat_lt]
        unfold lo
        omega
      rw [k1, k2, k3]
      by_cases e : c = d
      · subst e
        have : ¬ c < c := by rw [UInt8.lt_iff_toNat_lt]; omega
        simp [this, ind]
      · have e2 : (c == d) = false := beq_eq_false_iff_ne.2 e
        have e3 : (d == c) = false := beq_eq_false_iff_ne.2 (fun h => e h.symm)
        rw [e2, e3]
        simp [ind]
  rw [h1, h2, wsum_goes S p (lo c) (lo_le c), countP_self nd]
  unfold rk
  omega
theorem rk_lt {S : List Str} {p x : Str} (hx : x ∈ S) (hp : p.isPrefixOf x = true) : rk S p x < cnt S p := by
  have h : cnt S p = rk S p x + S.countP (fun y => p.isPrefixOf y && !(bl y x)) := by
    unfold cnt rk
    refine countP_add (fun y _ => ?_)
    cases p.isPrefixOf y <;> cases bl y x <;> simp [ind]
  have h2 : 0 < S.countP (fun y => p.isPrefixOf y && !(bl y x)) := List.countP_pos_iff.2 ⟨x, hx, by rw [hp, bl_irr]; rfl⟩
  omega
theorem rk_self {S : List Str} (p : Str) : rk S p p = 0 := by
  unfold rk
  rw [List.countP_eq_zero]
  intro y _ h
  rw [Bool.and_eq_true] at h
  obtain ⟨t, rfl⟩ := pre_iff.1 h.1
  have h2 := h.2
  cases t with
  | nil => rw [List.append_nil, bl_irr] at h2; cases h2
  | cons c t => rw [bl_asymm (bl_prefix p c t)] at h2; cases h2
/-- The k-th of the sorted list has k smaller ones. -/
theorem Lists.rank {R S : List Str} {q : Str} (h : Lists R S q) (nd : S.Nodup) {k : Nat} (hk : k < R.length) : rk S q (R.getD k []) = k := by
  have e1 : rk S q (R.getD k []) = R.countP (fun y => bl y (R.getD k [])) := by
    rw [(h.perm nd).countP_eq, List.countP_filter]
    unfold rk
    exact countP_same (fun y _ => Bool.and_comm _ _)
  rw [e1]
  generalize hx : R.getD k [] = x
  have e : R = R.take k ++ (x :: R.drop (k + 1)) := by
    conv => lhs; rw [← List.take_append_drop (k + 1) R, take_snoc R k [] hk, hx]
    rw [List.append_assoc]
    rfl
  have hs := h.sorted
  rw [e] at hs
  unfold Sorted at hs
  rw [List.pairwise_append, List.pairwise_cons] at hs
  rw [e, List.countP_append]
  have h1 : (R.take k).countP (fun y => bl y x) = k := by
    rw [List.countP_eq_length.2 (fun y hy => hs.2.2 y hy x (by simp)), List.length_take]
    omega
  have h2 : (x :: R.drop (k + 1)).countP (fun y => bl y x) = 0 := by
    rw [List.countP_eq_zero]
    intro y hy hb
    rcases List.mem_cons.1 hy with rfl | hy
    · rw [bl_irr] at hb; cases hb
    · rw [bl_asymm (hs.2.1.1 y hy)] at hb; cases hb
  rw [h1, h2, Nat.add_zero]
end Go.Proofs.Ymbrbl
