/-
  What an insertion that adds a word does to the three rows: the plain law. Own text.
-/
import Derived.Test.YmbrbmCopies
namespace Go.Proofs.Ymbrbm
open Go.RowKit

theorem insTo_app (P : List Str) (q : Str) (k : Nat) : ∃ R, insTo P q k = P ++ R ∧ ∀ r ∈ R, r <+: q := by
  induction k with
  | zero =>
    show ∃ R, addP P [] = P ++ R ∧ _
    by_cases h : ([] : Str) ∈ P
    · exact ⟨[], by rw [addP_in h, List.append_nil], fun r hr => by cases hr⟩
    · exact ⟨[[]], addP_out h, fun r hr => by rw [List.mem_singleton.1 hr]; exact List.nil_prefix⟩
  | succ k ih =>
    obtain ⟨R, e, hR⟩ := ih
    show ∃ R, addP (insTo P q k) (q.take (k + 1)) = P ++ R ∧ _
    by_cases h : q.take (k + 1) ∈ insTo P q k
    · exact ⟨R, by rw [addP_in h, e], hR⟩
    · refine ⟨R ++ [q.take (k + 1)], by rw [addP_out h, e, List.append_assoc], fun r hr => ?_⟩
      rcases List.mem_append.1 hr with h1 | h1
      · exact hR r h1
      · rw [List.mem_singleton.1 h1]; exact List.take_prefix _ _
theorem getD_inj {P : List Str} (hd : P.Nodup) {i j : Nat} (hi : i < P.length) (hj : j < P.length) (h : P.getD i [] = P.getD j []) : i = j := by
  have e1 := ix_of hd hi
  rw [h, ix_of hd hj] at e1
  exact (Option.some.inj e1).symm
/-- The rows with k new empty nodes behind them. -/
def TT.ext (T : TT) (k : Nat) : TT := ⟨T.nx ++ List.replicate (k * 26) 0, T.wd ++ List.replicate k false, T.bl ++ List.replicate k 0⟩
/-- The letter by which the path of the first i letters of q leaves the node p, or -1. -/
def stp (q : Str) (i : Nat) (p : Str) : Int := if p.isPrefixOf (q.take i) = true ∧ p.length < i then ((q.getD p.length 0).toNat : Int) - 97 else -1

theorem ext_old {T : TT} {k n old : Nat} (hw : T.wd.length = old) (hN : T.nx.length = T.wd.length * 26) (hB : T.bl.length = T.wd.length) (h : n < old) :
    (∀ l, l < 26 → (T.ext k).nxt n l = T.nxt n l) ∧ (T.ext k).wd.getD n false = T.wd.getD n false ∧ (T.ext k).bl.getD n 0 = T.bl.getD n 0 := by
  refine ⟨fun l hl => ?_, ?_, ?_⟩
  · unfold TT.nxt TT.ext
    simp only [List.getD_eq_getElem?_getD]
    rw [List.getElem?_append_left (by omega)]
  · unfold TT.ext
    simp only [List.getD_eq_getElem?_getD]
    rw [List.getElem?_append_left (by omega)]
  · unfold TT.ext
    simp only [List.getD_eq_getElem?_getD]
    rw [List.getElem?_append_left (by omega)]
theorem ext_new {T : TT} {k n old : Nat} (hw : T.wd.length = old) (hN : T.nx.length = T.wd.length * 26) (hB : T.bl.length = T.wd.length) (h : old ≤ n) :
    (∀ l, (T.ext k).nxt n l = 0) ∧ (T.ext k).wd.getD n false = false ∧ (T.ext k).bl.getD n 0 = 0 := by
  refine ⟨fun l => ?_, ?_, ?_⟩
  · unfold TT.nxt TT.ext
    simp only [List.getD_eq_getElem?_getD]
    rw [List.getElem?_append_right (by omega), List.getElem?_replicate]
    split <;> rfl
  · unfold TT.ext
    simp only [List.getD_eq_getElem?_getD]
    rw [List.getElem?_append_right (by omega), List.getElem?_replicate]
    split <;> rfl
  · unfold TT.ext
    simp only [List.getD_eq_getElem?_getD]
    rw [List.getElem?_append_right (by omega), List.getElem?_replicate]
    split <;> rfl

/-- The law of the frame, as plain data: T before, T' behind. -/
structure LFr (T T' : TT) (P' : List Str) (old : Nat) (q : Str) : Prop where
  on : ∀ n, old ≤ n → n < P'.length → (P'.getD n []).isPrefixOf q = true
  bl : ∀ n, n < P'.length → T'.bl.getD n 0 = (T.ext (P'.length - old)).bl.getD n 0 + (if (P'.getD n []).isPrefixOf q = true then 1 else 0)
  wd : ∀ n e, n < P'.length → e < P'.length → P'.getD e [] = q → T'.wd.getD n false = ((T.ext (P'.length - old)).wd.getD n false || decide (n = e))
  nx : ∀ n l, n < P'.length → l < 26 → T'.nxt n l = (T.ext (P'.length - old)).nxt n l ∨ ((T.ext (P'.length - old)).nxt n l = 0 ∧ stp q q.length (P'.getD n []) = (l : Int) ∧ (old : Int) ≤ T'.nxt n l)
  last : ∀ e, e < P'.length → P'.getD e [] = q → (T.ext (P'.length - old)).wd.getD e false = false
  rise : ∀ i e, i < q.length → e < P'.length → P'.getD e [] = q.take i → ∃ l m : Nat, l < 26 ∧ (q.getD i 0).toNat = 97 + l ∧ T'.nxt e l = (m : Int) ∧ e < m ∧ m < P'.length ∧ P'.getD m [] = q.take (i + 1)
  root : 0 < P'.length ∧ P'.getD 0 [] = []

theorem lframe {T T' : TT} {P S : List Str} {q : Str} (G : Good T P S) (G' : Good T' (insPs P q) (insS S q)) (hv : Go.Proofs.Ymbrbm.valid q = true) (hq : q ∉ S) (hN : T.nx.length = T.wd.length * 26) (hB : T.bl.length = T.wd.length) : LFr T T' (insPs P q) P.length q ∧ P.length ≤ (insPs P q).length := by
  have hS : insS S q = S ++ [q] := by unfold insS; rw [if_pos ⟨hv, hq⟩]
  have hP : insPs P q = insTo P q q.length := by unfold insPs insP; rw [if_pos hv]
  obtain ⟨R, eR, hR⟩ := insTo_app P q q.length
  rw [hS] at G'
  rw [hP] at G' ⊢
  have hqm : q ∈ insTo P q q.length := by have := insTo_mem P q q.length; rwa [List.take_length] at this
  have hpre : ∀ k, q.take k ∈ insTo P q q.length := fun k => G'.tree.paths.take_mem hqm k
  generalize insTo P q q.length = P' at G' eR hqm hpre
  subst eR
  have hlen := G.tree.len
  have nd := G'.tree.paths.nodup
  have hold : ∀ n, n < P.length → (P ++ R).getD n [] = P.getD n [] := fun n hn => by
    simp only [List.getD_eq_getElem?_getD]; rw [List.getElem?_append_left hn]
  have hnew : ∀ n, P.length ≤ n → n < (P ++ R).length → (P ++ R).getD n [] ∈ R := fun n h1 h2 => by
    rw [List.length_append] at h2
    simp only [List.getD_eq_getElem?_getD]
    rw [List.getElem?_append_right h1, List.getElem?_eq_getElem (by omega)]
    exact List.getElem_mem _
  have hdis : ∀ x, x ∈ R → x ∉ P := fun x h1 h2 => (List.nodup_append.1 nd).2.2 x h2 x h1 rfl
  have hP0 : 0 < (P ++ R).length := List.length_pos_of_mem hqm
  refine ⟨⟨?_, ?_, ?_, ?_, ?_, ?_, ⟨hP0, G'.tree.paths.root hP0⟩⟩, by rw [List.length_append]; omega⟩
  · intro n h1 h2
    exact pre_iff.2 (hR _ (hnew n h1 h2))
  · intro n hn
    rw [G'.bl n hn, cnt_snoc]
    by_cases h : n < P.length
    · rw [(ext_old hlen hN hB h).2.2, hold n h, G.bl n h]
      split <;> simp
    · have h0 : cnt S ((P ++ R).getD n []) = 0 := cnt_zero G.tree.paths G.sub (hdis _ (hnew n (by omega) hn))
      rw [(ext_new hlen hN hB (by omega)).2.2, h0]
      split <;> simp
  · intro n e hn he hqe
    rw [G'.wd n hn]
    have h3 : (P ++ R).getD n [] = q ↔ n = e := ⟨fun h => getD_inj nd hn he (h.trans hqe.symm), fun h => by rw [h, hqe]⟩
    have h4 : decide ((P ++ R).getD n [] ∈ S ++ [q]) = (decide ((P ++ R).getD n [] ∈ S) || decide (n = e)) := by
      rw [Bool.eq_iff_iff]
      simp only [Bool.or_eq_true, decide_eq_true_eq, List.mem_append, List.mem_singleton, h3]
    rw [h4]
    congr 1
    by_cases h : n < P.length
    · rw [(ext_old hlen hN hB h).2.1, hold n h, G.wd n h]
    · rw [(ext_new hlen hN hB (by omega)).2.1]
      exact decide_eq_false (fun hs => hdis _ (hnew n (by omega) hn) (G.sub _ hs))
  · intro n l hn hl
    rw [G'.tree.link n l hn hl]
    generalize hx : (P ++ R).getD n [] = p
    by_cases h1 : p ++ [ltr l] ∈ P
    · left
      have h2 : p ∈ P := by have := G.tree.paths.take_mem h1 p.length; rwa [List.take_left] at this
      obtain ⟨j, hj, ej⟩ := getD_of_mem h2
      have hnj : n = j := getD_inj nd hn (by rw [List.length_append]; omega) (by rw [hx, hold j hj, ej])
      subst hnj
      obtain ⟨m, hm⟩ := ix_mem h1
      obtain ⟨hm1, hm2⟩ := ix_some hm
      have hm3 : ix (P ++ R) (p ++ [ltr l]) = some m := by
        have := ix_of nd (i := m) (by rw [List.length_append]; omega)
        rwa [hold m hm1, hm2] at this
      rw [hm3, (ext_old hlen hN hB hj).1 l hl, G.tree.link n l hj hl, ej, hm]
    · have hz : (T.ext ((P ++ R).length - P.length)).nxt n l = 0 := by
        by_cases h : n < P.length
        · rw [(ext_old hlen hN hB h).1 l hl, G.tree.link n l h hl, ← hold n h, hx, ix_none.2 h1]
          rfl
        · exact (ext_new hlen hN hB (by omega)).1 l
      by_cases h2 : p ++ [ltr l] ∈ P ++ R
      · right
        have h3 : p ++ [ltr l] ∈ R := by
          rcases List.mem_append.1 h2 with h | h
          · exact absurd h h1
          · exact h
        obtain ⟨m, hm⟩ := ix_mem h2
        obtain ⟨hm1, hm2⟩ := ix_some hm
        refine ⟨hz, ?_, ?_⟩
        · obtain ⟨u, hu⟩ := hR _ h3
          unfold stp
          rw [List.take_length, ← hu, if_pos ⟨pre_iff.2 ⟨[ltr l] ++ u, by simp⟩, by simp⟩]
          simp only [List.getD_eq_getElem?_getD]
          rw [List.append_assoc, List.getElem?_append_right (Nat.le_refl _)]
          simp [ltr_toNat hl]
          omega
        · rw [hm]
          have : P.length ≤ m := by
            rcases Nat.lt_or_ge m P.length with h | h
            · rw [hold m h] at hm2
              exact absurd (hm2 ▸ mem_getD h) h1
            · exact h
          simpa using this
      · left
        rw [hz, ix_none.2 h2]
        rfl
  · intro e he hqe
    by_cases h : e < P.length
    · rw [(ext_old hlen hN hB h).2.1, G.wd e h, ← hold e h, hqe]
      exact decide_eq_false hq
    · exact (ext_new hlen hN hB (by omega)).2.1
  · intro i e hi he hte
    obtain ⟨l, hl, hql⟩ := valid_get hv hi
    have ht : q.take (i + 1) = q.take i ++ [ltr l] := by rw [List.take_succ_eq_append_getElem hi, hql]
    obtain ⟨m, hm⟩ := ix_mem (hpre (i + 1))
    obtain ⟨hm1, hm2⟩ := ix_some hm
    refine ⟨l, m, hl, ?_, ?_, ?_, hm1, hm2⟩
    · simp only [List.getD_eq_getElem?_getD]
      rw [List.getElem?_eq_getElem hi, Option.getD_some, hql, ltr_toNat hl]
    · rw [G'.tree.link e l he hl, hte, ← ht, hm]
      rfl
    · have hm0 : 0 < m := by
        rcases Nat.eq_zero_or_pos m with h | h
        · subst h
          rw [G'.tree.paths.root hP0, ht] at hm2
          exact absurd hm2 (by simp)
        · exact h
      obtain ⟨j, l2, hj, _, ej⟩ := G'.tree.paths.par m hm0 hm1
      rw [hm2, ht] at ej
      have := (List.append_inj' ej rfl).1
      have hje : e = j := getD_inj nd he (by omega) (hte.trans this)
      omega

/-- Which nodes lie on the path of the first i letters. -/
def onL (P' : List Str) (q : Str) (i : Nat) : List Bool := P'.map (fun p => p.isPrefixOf (q.take i))
def stL (P' : List Str) (q : Str) (i : Nat) : List Int := P'.map (stp q i)
theorem set_map {α : Type} (P' : List Str) (hd : P'.Nodup) (f g : Str → α) (m : Nat) (hm : m < P'.length) (v : α) (hv : g (P'.getD m []) = v) (hg : ∀ p, p ≠ P'.getD m [] → g p = f p) : (P'.map f).set m v = P'.map g := by
  apply List.ext_getElem (by simp)
  intro j h1 h2
  have hj : j < P'.length := by simpa using h2
  have ej : P'.getD j [] = P'[j] := by simp [List.getD, List.getElem?_eq_getElem hj]
  rw [List.getElem_set]
  split
  · rename_i e
    subst e
    rw [List.getElem_map, ← ej, hv]
  · rename_i e
    rw [List.getElem_map, List.getElem_map, hg]
    intro e2
    exact e (getD_inj hd hm hj (by rw [ej]; exact e2.symm))
theorem onL_zero (P' : List Str) (q : Str) (hd : P'.Nodup) (h0 : 0 < P'.length) (hr : P'.getD 0 [] = []) : (List.replicate P'.length false).set 0 true = onL P' q 0 := by
  have := set_map P' hd (fun _ => false) (fun p => p.isPrefixOf (q.take 0)) 0 h0 true (by rw [hr]; rfl) (fun p hp => by
    rw [hr] at hp
    rw [List.take_zero, pre_eq_false]
    intro h
    exact hp (List.prefix_nil.1 h))
  rw [onL, ← this]
  congr 1
  apply List.ext_getElem (by simp)
  intro j h1 h2
  simp
theorem stL_zero (P' : List Str) (q : Str) : stL P' q 0 = List.replicate P'.length (-1) := by
  apply List.ext_getElem (by simp [stL])
  intro j h1 h2
  simp [stL, stp]
theorem pre_snoc {p q : Str} {i : Nat} (hi : i < q.length) : p.isPrefixOf (q.take (i + 1)) = (p.isPrefixOf (q.take i) || (p == q.take (i + 1))) := by
  rw [Bool.eq_iff_iff, Bool.or_eq_true, pre_iff, pre_iff, beq_iff_eq, List.take_succ_eq_append_getElem hi, List.prefix_concat_iff]
  exact or_comm
theorem onL_next {P' : List Str} {q : Str} {i m : Nat} (hd : P'.Nodup) (hi : i < q.length) (hm : m < P'.length) (he : P'.getD m [] = q.take (i + 1)) : (onL P' q i).set m true = onL P' q (i + 1) := by
  unfold onL
  refine set_map P' hd _ _ m hm true ?_ (fun p hp => ?_)
  · rw [he]; exact pre_iff.2 (List.prefix_refl _)
  · rw [he] at hp
    rw [pre_snoc hi, beq_eq_false_iff_ne.2 hp, Bool.or_false]
theorem stL_next {P' : List Str} {q : Str} {i e l : Nat} (hd : P'.Nodup) (hi : i < q.length) (hm : e < P'.length) (he : P'.getD e [] = q.take i) (hl : (q.getD i 0).toNat = 97 + l) : (stL P' q i).set e (l : Int) = stL P' q (i + 1) := by
  unfold stL
  have hti : (q.take i).length = i := by rw [List.length_take]; omega
  refine set_map P' hd _ _ e hm _ ?_ (fun p hp => ?_)
  · rw [he]
    unfold stp
    have hpp : (q.take i).isPrefixOf (q.take (i + 1)) = true := by rw [pre_snoc hi, pre_iff.2 (List.prefix_refl _)]; rfl
    rw [hti, if_pos ⟨hpp, by omega⟩, hl]
    omega
  · rw [he] at hp
    unfold stp
    have hiff : (p.isPrefixOf (q.take (i + 1)) = true ∧ p.length < i + 1) ↔ (p.isPrefixOf (q.take i) = true ∧ p.length < i) := by
      rw [pre_snoc hi, Bool.or_eq_true, beq_iff_eq, pre_iff]
      constructor
      · rintro ⟨h | h, hl2⟩
        · refine ⟨h, ?_⟩
          have h1 := h.length_le
          rw [hti] at h1
          rcases Nat.lt_or_ge p.length i with h2 | h2
          · exact h2
          · exact absurd (h.eq_of_length_le (by rw [hti]; exact h2)) hp
        · rw [h, List.length_take] at hl2
          omega
      · rintro ⟨h, hl2⟩
        exact ⟨.inl h, by omega⟩
    simp only [hiff]
end Go.Proofs.Ymbrbm
