/-
  A Trie whose nodes are the paths of a list: the plain notions; (*Trie).child and (*Trie).find over them. Own text.
-/
import Derived.Test.YmbrbmStore
import Derived.Test.YmbrbmChild
namespace Go.Proofs.Ymbrbm
open Go.RowKit

/-- The place of s in P. -/
def ix (P : List Str) (s : Str) : Option Nat := P.findIdx? (fun t => t == s)
theorem ix_some {P : List Str} {s : Str} {i : Nat} (h : ix P s = some i) : i < P.length ∧ P.getD i [] = s := by
  unfold ix at h
  obtain ⟨hi, h1, _⟩ := List.findIdx?_eq_some_iff_getElem.1 h
  refine ⟨hi, ?_⟩
  simp only [beq_iff_eq] at h1
  simp [List.getD, List.getElem?_eq_getElem hi, h1]
theorem ix_none {P : List Str} {s : Str} : ix P s = none ↔ s ∉ P := by
  unfold ix
  rw [List.findIdx?_eq_none_iff]
  constructor
  · intro h hm
    have := h s hm
    simp at this
  · intro h x hx
    simp only [beq_eq_false_iff_ne]
    intro e
    subst e
    exact h hx
theorem ix_of {P : List Str} (hd : P.Nodup) {i : Nat} (hi : i < P.length) : ix P (P.getD i []) = some i := by
  have e : P.getD i [] = P[i] := by simp [List.getD, List.getElem?_eq_getElem hi]
  rw [e]
  unfold ix
  rw [List.findIdx?_eq_some_iff_getElem]
  refine ⟨hi, by simp, fun j hj => ?_⟩
  simp only [beq_iff_eq]
  intro e2
  have := (List.getElem_inj hd).1 e2
  omega
theorem ix_mem {P : List Str} {s : Str} (h : s ∈ P) : ∃ i, ix P s = some i := by
  cases e : ix P s with
  | none => exact absurd h (ix_none.1 e)
  | some i => exact ⟨i, rfl⟩
theorem mem_getD {P : List Str} {i : Nat} (hi : i < P.length) : P.getD i [] ∈ P := by
  simp [List.getD, List.getElem?_eq_getElem hi]
theorem getD_of_mem {P : List Str} {s : Str} (h : s ∈ P) : ∃ i, i < P.length ∧ P.getD i [] = s := by
  obtain ⟨i, hi⟩ := ix_mem h
  exact ⟨i, ix_some hi⟩
theorem ix_snoc (P : List Str) (x s : Str) : ix (P ++ [x]) s = (ix P s).or (if x == s then some P.length else none) := by
  unfold ix
  rw [List.findIdx?_append]
  congr 1
  by_cases h : (x == s) = true
  · simp [List.findIdx?_cons, h]
  · simp [List.findIdx?_cons, h]

theorem ltr_inj {a b : Nat} (ha : a < 26) (hb : b < 26) (h : ltr a = ltr b) : a = b := by
  have := congrArg UInt8.toNat h
  simp [ltr, UInt8.toNat_ofNat'] at this
  omega
theorem ltr_toNat {l : Nat} (h : l < 26) : (ltr l).toNat = 97 + l := by simp [ltr, UInt8.toNat_ofNat']; omega
theorem ltr_of {c : UInt8} (h0 : 97 ≤ c.toNat) (h1 : c.toNat ≤ 122) : ∃ l, l < 26 ∧ c = ltr l := by
  refine ⟨c.toNat - 97, by omega, ?_⟩
  apply UInt8.toNat_inj.1
  rw [ltr_toNat (by omega)]
  omega

/-- P lists distinct paths, the root's first, each later one a child of an earlier one by a letter. -/
structure Paths (P : List Str) : Prop where
  nodup : P.Nodup
  root : 0 < P.length → P.getD 0 [] = []
  par : ∀ i, 0 < i → i < P.length → ∃ j l, j < i ∧ l < 26 ∧ P.getD i [] = P.getD j [] ++ [ltr l]
/-- The Trie's nodes are the paths of P. -/
structure Tree (T : TT) (P : List Str) : Prop where
  paths : Paths P
  len : T.wd.length = P.length
  link : ∀ i l, i < P.length → l < 26 → T.nxt i l = ((ix P (P.getD i [] ++ [ltr l])).getD 0 : Nat)

theorem Paths.closed {P : List Str} (h : Paths P) : ∀ i, i < P.length → ∀ k, (P.getD i []).take k ∈ P := by
  intro i
  induction i using Nat.strongRecOn with
  | ind i ih =>
    intro hi k
    by_cases h0 : i = 0
    · subst h0
      rw [h.root hi, List.take_nil, ← h.root hi]
      exact mem_getD hi
    · obtain ⟨j, l, hj, _, e⟩ := h.par i (by omega) hi
      by_cases hk : k ≤ (P.getD j []).length
      · rw [e, List.take_append_of_le_length hk]
        exact ih j hj (by omega) k
      · rw [List.take_of_length_le (by rw [e, List.length_append, List.length_singleton]; omega)]
        exact mem_getD hi
theorem Paths.take_mem {P : List Str} (h : Paths P) {s : Str} (hs : s ∈ P) (k : Nat) : s.take k ∈ P := by
  obtain ⟨i, hi, rfl⟩ := getD_of_mem hs
  exact h.closed i hi k
/-- The last byte of a path is a letter. -/
theorem Paths.letter {P : List Str} (h : Paths P) {s : Str} {c : UInt8} (hs : s ++ [c] ∈ P) : ∃ l, l < 26 ∧ c = ltr l := by
  obtain ⟨i, hi, e⟩ := getD_of_mem hs
  have h0 : i ≠ 0 := by
    intro h0
    subst h0
    rw [h.root hi] at e
    simp at e
  obtain ⟨j, l, _, hl, e2⟩ := h.par i (by omega) hi
  refine ⟨l, hl, ?_⟩
  rw [e] at e2
  have := (List.append_inj' e2 rfl).2
  simpa using this
theorem Paths.nonroot {P : List Str} (h : Paths P) {s : Str} {c : UInt8} {m : Nat} (hm : ix P (s ++ [c]) = some m) : 0 < m := by
  obtain ⟨h1, h2⟩ := ix_some hm
  rcases Nat.eq_zero_or_pos m with h0 | h0
  · subst h0
    rw [h.root h1] at h2
    simp at h2
  · exact h0
theorem Tree.ok {T : TT} {P : List Str} (h : Tree T P) (i : Nat) (hi : i < P.length) : T.okRow i := by
  intro l hl
  rw [h.link i l hi hl, h.len]
  cases e : ix P (P.getD i [] ++ [ltr l]) with
  | none => simp; omega
  | some m => have := (ix_some e).1; simp; omega

set_option maxRecDepth 100000 in
theorem child_T (B p : Nat) (h : Hd) (T : TT) (P : List Str) (n : Nat) (s : Str) (c : UInt8) (w : World) (t : TrieAt w B p h T) (tr : Tree T P) (hn : ix P s = some n) :
    Calls Ybmm.prog 21 #[.pointer (some ⟨p, 0, none⟩), .int .i64 n, .int .u8 c.toNat] w fun e w' => e = .returned (.tuple #[.int .i64 ((ix P (s ++ [c])).getD 0 : Nat), .bool (ix P (s ++ [c])).isSome]) ∧ w' = w := by
  obtain ⟨hn1, hn2⟩ := ix_some hn
  have hlen := tr.len
  by_cases hc : 97 ≤ c.toNat ∧ c.toNat ≤ 122
  · obtain ⟨l, hl, rfl⟩ := ltr_of hc.1 hc.2
    obtain ⟨gN, cN, gW, cW, gB, cB, rfl⟩ := to_hd t (by omega)
    have vw := hd_view rfl t
    have hcell := vw.N n l (by omega) hl
    rw [tr.link n l hn1 hl, hn2] at hcell
    have hb : ((((ix P (s ++ [ltr l])).getD 0 : Nat) : Int) != 0) = (ix P (s ++ [ltr l])).isSome := by
      cases e : ix P (s ++ [ltr l]) with
      | none => rfl
      | some m => have := tr.paths.nonroot e; simp; omega
    rw [← hb]
    refine child_ok p gN T.wd.length cN n _ _ w (by omega) (by omega) (by omega) (by omega) vw.c0 ?_
    rw [ltr_toNat hl, Int.toNat_natCast, show (((97 + l : Nat) : Int) - 97).toNat = l by omega]
    exact hcell
  · have e : ix P (s ++ [c]) = none := by
      cases e : ix P (s ++ [c]) with
      | none => rfl
      | some m =>
        obtain ⟨h1, h2⟩ := ix_some e
        obtain ⟨l, hl, e2⟩ := tr.paths.letter (h2 ▸ mem_getD h1 : s ++ [c] ∈ P)
        subst e2
        rw [ltr_toNat hl] at hc
        omega
    rw [e]
    exact child_bad p n _ w (by omega)

set_option maxRecDepth 100000 in
set_option maxHeartbeats 400000 in
theorem find_T (B p : Nat) (h : Hd) (T : TT) (P : List Str) (q : Str) (w : World) (t : TrieAt w B p h T) (tr : Tree T P) (hq : q.length ≤ maxLen) :
    Calls Ybmm.prog 19 #[.pointer (some ⟨p, 0, none⟩), Sv q] w fun e w' => e = .returned (.tuple #[.int .i64 ((ix P q).getD 0 : Nat), .bool (ix P q).isSome]) ∧ w' = w := by
  unfold maxLen at hq
  have hlen := tr.len
  by_cases h0 : P.length = 0
  · obtain ⟨vN, vW, vB⟩ := h
    obtain ⟨aN, cN, e1⟩ := ownsRow_slice t.rN
    dsimp only at e1
    subst e1
    have c0 := t.mid.c0
    dsimp only at c0
    have hb : ((T.wd.length : Int) == 0) = true := beq_iff_eq.2 (by omega)
    have e : ix P q = none := by rw [List.length_eq_zero_iff.1 h0]; rfl
    have HE := hide2 e
    clear e tr t hlen h0
    go_enter Ybmm.func19, Ybmm.ntmps19
    go_wp2
    go_ret2
    exact ⟨by rw [HE.out]; rfl, rfl⟩
  · obtain ⟨gN, cN, gW, cW, gB, cB, rfl⟩ := to_hd t (by omega)
    have vw := hd_view rfl t
    have c0 := vw.c0
    have hb : ((T.wd.length : Int) == 0) = false := beq_eq_false_iff_ne.2 (by omega)
    have hr := tr.paths.root (by omega)
    have TR := hide2 tr
    have T0 := hide2 t
    have VW := hide2 vw
    have HL := hide2 hlen
    have HR := hide2 hr
    clear tr t vw hlen hr
    go_enter Ybmm.func19, Ybmm.ntmps19
    go_wp2
    clear c0
    go_loop [6, 7] (fun x i => ∃ k n : Nat, i = .int .i64 k ∧ k ≤ q.length ∧ x = .int .i64 n ∧ ix P (q.take k) = some n) (fun _ i => q.length - (intOf i).toNat)
    case atStart =>
      refine ⟨0, 0, rfl, Nat.zero_le _, rfl, ?_⟩
      have := ix_of TR.out.paths.nodup (show 0 < P.length by omega)
      rw [HR.out] at this
      simpa using this
    case round =>
      obtain ⟨k, n, rfl, hk, rfl, hn⟩ := hrel
      have HN := hide2 hn
      clear hn
      by_cases hlt : k < q.length
      · have ch := child_T B p _ T P n (q.take k) (q[k]) w T0.out TR.out HN.out
        have et : q.take k ++ [q[k]] = q.take (k + 1) := (List.take_succ_eq_append_getElem hlt).symm
        rw [et] at ch
        have CH := hide2 ch
        clear ch et
        cases hm : ix P (q.take (k + 1)) with
        | none =>
          have hno : ix P q = none := by
            rw [ix_none]
            intro hmem
            exact ix_none.1 hm (TR.out.paths.take_mem hmem (k + 1))
          have HNO := hide2 hno
          clear hno
          rw [hm] at CH
          have HM := hide2 hm
          clear hm
          go_wp2_with (go_at_call 21; refine CH.out.mono ?_; rintro e w' ⟨rfl, rfl⟩)
          go_ret2
          exact ⟨by rw [HNO.out]; rfl, rfl⟩
        | some m =>
          rw [hm] at CH
          have HM := hide2 hm
          clear hm
          go_wp2_with (go_at_call 21; refine CH.out.mono ?_; rintro e w' ⟨rfl, rfl⟩)
          go_round
          case rel => exact ⟨k + 1, m, by go_num, by omega, by simp, HM.out⟩
          case measure => simp [intOf]; omega
      · obtain rfl : k = q.length := by omega
        have hn := HN.out
        rw [List.take_length] at hn
        have HN2 := hide2 hn
        clear hn
        go_wp2
        go_ret2
        exact ⟨by rw [HN2.out]; rfl, rfl⟩
end Go.Proofs.Ymbrbm
