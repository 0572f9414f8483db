/-
  The walk of LawS930010JModel. Own text.
-/
import Derived.Test.YmbrbmJBuild
import Derived.BigQuiet
namespace Go.Proofs.Ymbrbm
open Go.RowKit

set_option maxRecDepth 100000 in
set_option maxHeartbeats 400000 in
theorem jmodel_big (a : Option Addr) (m c : Nat) (p : Str) (raw : Bool) (pick : Int) (w : World) (h : 256 < m) :
    Calls Ybmm.prog 5 #[.slice a m c, Sv p, .bool raw, .int .u8 pick] w fun e w' => e = .returned (.bool true) ∧ Below w.heap.size w w' := by
  have hd : decide ((256 : Int) < (m : Int)) = true := decide_eq_true (by omega)
  go_enter Ybmm.func5, Ybmm.ntmps5
  go_wp2
  go_ret
  exact ⟨rfl, Below.refl _ _⟩

theorem filter_snoc (f : Str → Bool) (l : List Str) (x : Str) : (l ++ [x]).filter f = l.filter f ++ if f x then [x] else [] := by
  rw [List.filter_append]; congr 1; by_cases h : f x = true <;> simp [h]
theorem pre_slice (x q : Str) : (decide ((q.length : Int) ≤ (x.length : Int)) && (x.take q.length == q)) = q.isPrefixOf x := by
  rw [Bool.eq_iff_iff, pre_iff, Bool.and_eq_true, decide_eq_true_eq, beq_iff_eq, List.prefix_iff_eq_take]
  constructor
  · rintro ⟨_, h⟩; exact h.symm
  · intro h
    refine ⟨?_, h.symm⟩
    have := congrArg List.length h
    rw [List.length_take] at this
    omega
theorem getD_filter_take {S : List Str} {f : Str → Bool} {k : Nat} (hk : k < S.length) (hf : f (S.getD k []) = true) : ((S.take k).filter f).length < (S.filter f).length ∧ (S.filter f).getD ((S.take k).filter f).length [] = S.getD k [] := by
  have e : S.filter f = (S.take k).filter f ++ (S.getD k [] :: (S.drop (k + 1)).filter f) := by
    conv => lhs; rw [← List.take_append_drop (k + 1) S, take_snoc S k [] hk]
    rw [List.filter_append, filter_snoc, if_pos hf, List.append_assoc]
    rfl
  rw [e]
  constructor
  · rw [List.length_append, List.length_cons]; omega
  · rw [List.getD_eq_getElem?_getD, List.getElem?_append_right (Nat.le_refl _), Nat.sub_self]; rfl

set_option maxRecDepth 100000 in
set_option maxHeartbeats 1000000 in
theorem jmodel_walk (a : Option Addr) (b off m c : Nat) (O : List (Nat × Str)) (p : Str) (raw : Bool) (pick : Nat) (w : World) (ha : 0 < m → a = some ⟨b, off, none⟩) (hs : OpsB w b off m O) (hm : m ≤ 256) (hpk : pick ≤ 255) (hpl : p.length ≤ maxLen) :
    Calls Ybmm.prog 5 #[.slice a m c, Sv p, .bool raw, .int .u8 pick] w fun e w' => e = .returned (.bool true) ∧ Below w.heap.size w w' := by
  have hd : decide ((256 : Int) < (m : Int)) = false := decide_eq_false (by omega)
  have HA := hide2 ha
  have HS := hide2 hs
  clear ha hs
  go_enter Ybmm.func5, Ybmm.ntmps5
  go_wp2_with fail
  refine (jbuild_calls a b off m c O w HA.out HS.out hm).mono ?_
  rintro e w1 ⟨v, rfl, h, T, t, P, S, G, so, own, hP, hS, bel⟩
  generalize hB : w.heap.size = B at *
  have HB := hide2 hB
  clear hB
  have hw1 : B ≤ w1.heap.size := by have := bel.size; have := HB.out; omega
  obtain ⟨x0, y0, rfl⟩ := ownsRow_slice own
  have hls : ∀ s ∈ S, s.length ≤ 100000 := fun s hs => by have := G.tree.paths.lenM (G.sub _ hs); omega
  have jq := jquery_calls B _ _ S p raw pick w1 rfl own (by omega) hpk hls hpl
  have T0 := hide2 t
  have HG := hide2 G
  have SO := hide2 so
  have OW := hide2 own
  have JQ := hide2 jq
  have HPL := hide2 hpl
  clear t G so own jq hls hpl
  go_wp2_with fail
  refine JQ.out.mono ?_
  rintro e w2 ⟨q, rfl, hq, b2⟩
  have hql : q.length ≤ maxLen := by
    rcases hq with rfl | hq
    · exact HPL.out
    · unfold maxLen; omega
  have hw2 : B ≤ w2.heap.size := by have := b2.size; omega
  have wc := withp_calls B B h T P S q w2 (T0.out.below b2) HG.out hql (by omega) (by omega) hw2
  have WC := hide2 wc
  unfold maxLen at hql
  clear wc hq
  go_wp2_with fail
  refine WC.out.mono ?_
  rintro e w3 ⟨g3, k3, R, rfl, own3, hg3, li, b3⟩
  have hR := li.eq SO.out
  have hRl : R.length ≤ S.length := by rw [hR]; exact List.length_filter_le _ _
  have hown := own_below (own_below OW.out b2) b3
  have b4 : Below B w w3 := (bel.trans (b2.mono hw1)).trans (b3.mono hw2)
  have O3 := hide2 own3
  have OS := hide2 hown
  have HR := hide2 hR
  have qn := Lib.run_eql_slice_nil (P := Ybmm.prog) w3 30 9 (some ⟨g3, 0, none⟩) R.length k3 0 0 Ybmm.underlying30
  clear own3 hown hR li hg3
  go_wp2
  go_loopw [13, 14] (fun jv iv wr => ∃ k : Nat, iv = .int .i64 k ∧ k ≤ S.length ∧ jv = .int .i64 (((S.take k).filter (fun x => q.isPrefixOf x)).length : Nat) ∧ Below w3.heap.size w3 wr) (fun _ iv _ => S.length - (intOf iv).toNat)
  case atStart => exact ⟨0, rfl, Nat.zero_le _, rfl, Below.refl _ _⟩
  case round =>
    obtain ⟨k, rfl, hk, rfl, br⟩ := hrel
    have osr := own_below OS.out br
    have o3r := own_below O3.out br
    by_cases hlt : k < S.length
    · obtain ⟨g, cap, he, _, _⟩ := osr.form (by omega)
      obtain ⟨rfl, rfl⟩ : x0 = some ⟨g, 0, none⟩ ∧ y0 = cap := by simpa using he
      have hc := own_cell osr k _ (getD_map_sv S k hlt)
      have ht := take_snoc S k [] hlt
      have hsn := filter_snoc (fun x => q.isPrefixOf x) (S.take k) (S.getD k [])
      rw [← ht] at hsn
      have hps := pre_slice (S.getD k []) q
      have hgf := getD_filter_take (f := fun x => q.isPrefixOf x) hlt
      rw [← HR.out] at hgf
      obtain ⟨j, hj⟩ : ∃ j, ((S.take k).filter (fun x => q.isPrefixOf x)).length = j := ⟨_, rfl⟩
      rw [hj] at hgf
      have hsl : ((S.take (k + 1)).filter (fun x => q.isPrefixOf x)).length = if q.isPrefixOf (S.getD k []) then j + 1 else j := by
        rw [hsn, List.length_append, hj]
        split <;> simp
      have HSL := hide2 hsl
      have HGF := hide2 hgf
      have HPS := hide2 hps
      have HJ := hide2 hj
      have O3R := hide2 o3r
      clear he ht hsn hsl hgf hps osr o3r
      rw [hj]
      clear hj
      generalize S.getD k [] = sk at hc HSL HGF HPS
      obtain ⟨st, hst⟩ : ∃ st, sk.take q.length = st := ⟨_, rfl⟩
      have te := arr_take sk q.length
      rw [hst] at te HPS
      clear hst
      by_cases h1 : q.length ≤ sk.length
      · cases h2 : (st == q)
        · have hno : q.isPrefixOf sk = false := by rw [← HPS.out, h2, Bool.and_false]
          have hsl := HSL.out
          rw [hno, if_neg (by simp)] at hsl
          have HSL2 := hide2 hsl
          clear hsl hno
          go_wp2
          go_roundw
          case rel => exact ⟨k + 1, by go_num, by omega, by rw [HSL2.out], br⟩
          case measure => simp [intOf]; omega
        · have hyes : q.isPrefixOf sk = true := by rw [← HPS.out, h2, Bool.and_true]; exact decide_eq_true (by omega)
          have hsl := HSL.out
          rw [hyes, if_pos rfl] at hsl
          obtain ⟨hjl, hjg⟩ := HGF.out hyes
          have hc2 := own_cell O3R.out j _ (getD_map_sv R j hjl)
          rw [hjg] at hc2
          have HSL2 := hide2 hsl
          have hne : (sk != sk) = false := by simp
          clear hsl hyes hjg
          go_wp2
          go_quiet (fail)
          go_wp2
          go_roundw
          case rel => exact ⟨k + 1, by go_num, by omega, by rw [HSL2.out]; go_num, Below.drewN br _⟩
          case measure => simp [intOf]; omega
      · have hno : q.isPrefixOf sk = false := by rw [← HPS.out, Bool.and_eq_false_iff]; left; exact decide_eq_false (by omega)
        have hsl := HSL.out
        rw [hno, if_neg (by simp)] at hsl
        have HSL2 := hide2 hsl
        clear hsl hno
        go_wp2
        go_roundw
        case rel => exact ⟨k + 1, by go_num, by omega, by rw [HSL2.out], br⟩
        case measure => simp [intOf]; omega
    · have hall : S.take k = S := List.take_of_length_le (by omega)
      have hlen : ((S.take k).filter (fun x => q.isPrefixOf x)).length = R.length := by rw [hall, HR.out]
      rw [hlen]
      have hbb : ((R.length : Int) == (R.length : Int)) = true := by simp
      clear hall hlen osr o3r
      go_wp2
      go_ret
      exact ⟨rfl, by rw [HB.out]; exact b4.trans (br.mono (by have := b3.size; omega))⟩
end Go.Proofs.Ymbrbm
