/-
  The walk of LawS930010JRanks. Own text.
-/
import Derived.Test.YmbrbmJBuild
import Derived.Test.YmbrbmRank
import Derived.BigQuiet
namespace Go.Proofs.Ymbrbm
open Go.RowKit

set_option maxRecDepth 100000 in
set_option maxHeartbeats 400000 in
theorem jranks_big (a : Option Addr) (m c : Nat) (p : Str) (raw : Bool) (pick : Int) (w : World) (h : 256 < m) :
    Calls Ybmm.prog 6 #[.slice a m c, Sv p, .bool raw, .int .u8 pick] w fun e w' => e = .returned (.bool true) ∧ Below w.heap.size w w' := by
  have hd : decide ((256 : Int) < (m : Int)) = true := decide_eq_true (by omega)
  go_enter Ybmm.func6, Ybmm.ntmps6
  go_wp2
  go_ret
  exact ⟨rfl, Below.refl _ _⟩

/-- What lies between q and a continuation of q is a continuation of q. -/
theorem between : ∀ (q y t : Str), bl y q = false → bl y (q ++ t) = true → q.isPrefixOf y = true := by
  intro q
  induction q with
  | nil => intro y t _ _; exact pre_iff.2 List.nil_prefix
  | cons c q ih =>
    intro y t h1 h2
    cases y with
    | nil => cases h1
    | cons d y =>
      rw [List.cons_append, bl_cons] at h2
      rw [bl_cons] at h1
      simp only [Bool.or_eq_true, decide_eq_true_eq, Bool.and_eq_true, beq_iff_eq, Bool.or_eq_false_iff, decide_eq_false_iff_not] at h1 h2
      rcases h2 with h2 | ⟨rfl, h2⟩
      · exact absurd h2 h1.1
      · have h3 : bl y q = false := by
          have := h1.2
          simpa using this
        have := ih y t h3 h2
        rw [pre_iff] at this ⊢
        exact (List.cons_prefix_cons).2 ⟨rfl, this⟩
theorem rk_add {S : List Str} {q x : Str} (h : q.isPrefixOf x = true) : rk S [] x = rk S [] q + rk S q x := by
  obtain ⟨t, rfl⟩ := pre_iff.1 h
  unfold rk
  refine countP_add (fun y _ => ?_)
  have hn : ([] : Str).isPrefixOf y = true := pre_iff.2 List.nil_prefix
  rw [hn]
  cases h1 : bl y q with
  | true =>
    have h2 : bl y (q ++ t) = true := by
      cases t with
      | nil => rw [List.append_nil]; exact h1
      | cons c t => exact bl_trans h1 (bl_prefix q c t)
    have h3 : q.isPrefixOf y = false := by
      rw [pre_eq_false]
      rintro ⟨u, rfl⟩
      cases u with
      | nil => rw [List.append_nil, bl_irr] at h1; cases h1
      | cons c u => rw [bl_asymm (bl_prefix q c u)] at h1; cases h1
    rw [h2, h3]
    rfl
  | false =>
    cases h2 : bl y (q ++ t) with
    | false => simp [ind]
    | true => rw [between q y t h1 h2]; rfl
theorem lists_self {S : List Str} (h : Sorted S) : Lists S S [] := ⟨h, fun _ => ⟨fun hx => ⟨hx, pre_iff.2 List.nil_prefix⟩, fun hx => hx.1⟩⟩
/-- The i-th of the words that start with q is the one of rank rank(q) + i. -/
theorem Lists.at {R S : List Str} {q : Str} (li : Lists R S q) (so : Sorted S) {i : Nat} (hi : i < R.length) : rk S [] (R.getD i []) = rk S [] q + i ∧ rk S [] q + i < S.length ∧ S.getD (rk S [] q + i) [] = R.getD i [] := by
  obtain ⟨h1, h2⟩ := (li.mem _).1 (mem_getD hi)
  have h3 := rk_add (S := S) h2
  rw [li.rank so.nodup hi] at h3
  refine ⟨h3, ?_⟩
  obtain ⟨j, hj, e⟩ := getD_of_mem h1
  have h4 := (lists_self so).rank so.nodup hj
  rw [e, h3] at h4
  rw [h4]
  exact ⟨hj, e⟩

set_option maxRecDepth 100000 in
set_option maxHeartbeats 1000000 in
theorem jranks_walk (a : Option Addr) (b off m c : Nat) (O : List (Nat × Str)) (p : Str) (raw : Bool) (pick : Nat) (w : World) (ha : 0 < m → a = some ⟨b, off, none⟩) (hs : OpsB w b off m O) (hm : m ≤ 256) (hpk : pick ≤ 255) (hpl : p.length ≤ maxLen) :
    Calls Ybmm.prog 6 #[.slice a m c, Sv p, .bool raw, .int .u8 pick] w fun e w' => e = .returned (.bool true) ∧ Below w.heap.size w w' := by
  have hd : decide ((256 : Int) < (m : Int)) = false := decide_eq_false (by omega)
  have HA := hide2 ha
  have HS := hide2 hs
  clear ha hs
  go_enter Ybmm.func6, Ybmm.ntmps6
  go_wp2_with fail
  refine (jbuild_calls a b off m c O w HA.out HS.out hm).mono ?_
  rintro e w1 ⟨v, rfl, h, T, t, P, S, G, so, own, hP, hS, bel⟩
  generalize hB : w.heap.size = B at *
  have HB := hide2 hB
  clear hB
  have hw1 : B ≤ w1.heap.size := by have := bel.size; have := HB.out; omega
  obtain ⟨x0, y0, rfl⟩ := ownsRow_slice own
  have hls : ∀ s ∈ S, s.length ≤ 100000 := fun s hs => by have := G.tree.paths.lenM (G.sub _ hs); omega
  have jq := jquery_calls B _ _ S p raw pick w1 rfl own (by omega) hpk hls hpl
  have T0 := hide2 t
  have HG := hide2 G
  have SO := hide2 so
  have JQ := hide2 jq
  have HPL := hide2 hpl
  have HLS := hide2 hls
  clear t G so own jq hls hpl
  go_wp2_with fail
  refine JQ.out.mono ?_
  rintro e w2 ⟨q, rfl, hq, b2⟩
  have hql : q.length ≤ maxLen := by
    rcases hq with rfl | hq
    · exact HPL.out
    · unfold maxLen; omega
  have hw2 : B ≤ w2.heap.size := by have := b2.size; omega
  have wc := withp_calls B B h T P S q w2 (T0.out.below b2) HG.out hql (by omega) (by omega) hw2
  have WC := hide2 wc
  have HQL := hide2 hql
  unfold maxLen at hql
  clear wc hq
  go_wp2_with fail
  refine WC.out.mono ?_
  rintro e w3 ⟨g3, k3, R, rfl, own3, hg3, li, b3⟩
  have b4 : Below B w w3 := (bel.trans (b2.mono hw1)).trans (b3.mono hw2)
  have t3 := (T0.out.below b2).below b3
  have hw3 : B ≤ w3.heap.size := by have := b3.size; omega
  have hRl := li.len HG.out.nodup
  have cc := count_calls B B h T P S q w3 t3 HG.out HQL.out
  rw [← hRl] at cc
  have rc := rank_calls B B h T P S q w3 t3 HG.out HQL.out (by omega)
  have hRS : R.length ≤ S.length := by rw [hRl]; exact cnt_le S q
  obtain ⟨r, hr⟩ : ∃ r, rk S [] q = r := ⟨_, rfl⟩
  rw [hr] at rc
  have hrS : r ≤ S.length := by rw [← hr]; exact Nat.le_trans (rk_le S [] q) (cnt_le S [])
  have O3 := hide2 own3
  have LI := hide2 li
  have T3 := hide2 t3
  have CC := hide2 cc
  have RC := hide2 rc
  have HR := hide2 hr
  have hne : ((R.length : Int) != (R.length : Int)) = false := by simp
  clear own3 li hg3 t3 cc rc hr hRl
  go_wp2_with (first | (go_at_call 25; refine CC.out.mono ?_; rintro e w' ⟨rfl, he⟩; obtain rfl := he.symm) | (go_at_call 26; refine RC.out.mono ?_; rintro e w' ⟨rfl, he⟩; obtain rfl := he.symm))
  go_loopw [14] (fun iv wr => ∃ i : Nat, iv = .int .i64 i ∧ i ≤ R.length ∧ Below w3.heap.size w3 wr) (fun iv _ => R.length - (intOf iv).toNat)
  case atStart => exact ⟨0, rfl, Nat.zero_le _, Below.refl _ _⟩
  case round =>
    obtain ⟨i, rfl, hi, br⟩ := hrel
    have hwr : B ≤ wr.heap.size := by have := br.size; omega
    by_cases hlt : i < R.length
    · obtain ⟨e1, e2, e3⟩ := LI.out.at SO.out hlt
      rw [HR.out] at e1 e2 e3
      have hxm := ((LI.out.mem _).1 (mem_getD hlt)).1
      have hxl := HLS.out _ hxm
      have si := select_in B B h T P S S (r + i) wr (T3.out.below br) HG.out (lists_self SO.out) e2 (by omega) (by omega) hwr
      rw [e3] at si
      have SI := hide2 si
      have E1 := hide2 e1
      clear si e1 e2 e3 hxm
      have hc0 := fun (wx : World) (bx : Below w3.heap.size w3 wx) => own_cell (own_below O3.out bx) i _ (getD_map_sv R i hlt)
      have HC0 := hide2 hc0
      clear hc0
      generalize R.getD i [] = x at SI E1 HC0 hxl
      obtain ⟨ri, hri⟩ : ∃ ri, r + i = ri := ⟨_, rfl⟩
      have hri2 : (r : Int) + (i : Int) = (ri : Int) := by omega
      have hrib : ri ≤ 1000000 := by omega
      rw [hri] at SI E1
      have hwrp : IntKind.i64.wrap (ri : Int) = (ri : Int) := by rw [IntKind.wrap_i64]; omega
      clear hri
      go_wp2_with fail
      refine SI.out.mono ?_
      rintro e w5 ⟨rfl, b5⟩
      have br5 : Below w3.heap.size w3 w5 := br.trans (b5.mono br.size)
      have hc := HC0.out w5 br5
      have rc2 := rank_calls B B h T P S x w5 (T3.out.below br5) HG.out (by unfold maxLen; omega) (by omega)
      rw [E1.out] at rc2
      have RC2 := hide2 rc2
      have hx2 : (x != x) = false := by simp
      have hn2 : ((ri : Int) != (ri : Int)) = false := by simp
      clear rc2
      go_wp2_with (go_at_call 26; refine RC2.out.mono ?_; rintro e w' ⟨rfl, he⟩; obtain rfl := he.symm)
      go_roundw
      case rel => exact ⟨i + 1, by go_num, by omega, br5⟩
      case measure => simp [intOf]; omega
    · go_wp2
      go_ret
      exact ⟨rfl, by rw [HB.out]; exact b4.trans (br.mono hw3)⟩
end Go.Proofs.Ymbrbm
