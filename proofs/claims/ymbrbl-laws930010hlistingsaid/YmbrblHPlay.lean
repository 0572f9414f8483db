/-
  zzs930010hplay: its contract. Own text.
-/
import Derived.Test.YmbrblHFns
import Derived.Test.YmbrblRemove
import Derived.Test.YmbrblWithP
namespace Go.Proofs.Ymbrbl
open Go.RowKit

theorem TA.setStr {w : World} {B p : Nat} {h : Hd} {nN nW nB : Nat} {xN xW xB : List Value} (t : TA w B p h nN nW nB xN xW xB) {B' g n c : Nat} {xs : List Value} (own : w.ownsRow B' 9 1 (.slice (some ⟨g, 0, none⟩) n c) n xs) (j : Nat) (u : Value) :
    TA (w.setCell ⟨g, j, none⟩ u) B p h nN nW nB xN xW xB := by
  refine t.kept (fun k hk => Below.heap_setCell _ _ _ _ (fun e => ?_))
  obtain ⟨_, cs, hc⟩ := ownsRow_type own (k := g) rfl
  subst e
  exact t.not_foot hc (by decide) (by decide) (by decide) (by decide) hk

/-- The last word put in the place of the j-th, the list less its last. -/
def swapDrop (S : List Str) (j : Nat) : List Str := (S.set j (S.getD (S.length - 1) [])).take (S.length - 1)
theorem swapDrop_len (S : List Str) (j : Nat) : (swapDrop S j).length = S.length - 1 := by
  unfold swapDrop
  rw [List.length_take, List.length_set]
  omega
theorem swapDrop_perm {S : List Str} {j : Nat} (hj : j < S.length) : (S.eraseIdx j).Perm (swapDrop S j) := by
  obtain ⟨A, x, C, rfl, rfl⟩ : ∃ A x C, S = A ++ x :: C ∧ A.length = j :=
    ⟨S.take j, S[j], S.drop (j + 1), by rw [List.getElem_cons_drop, List.take_append_drop], by rw [List.length_take]; omega⟩
  unfold swapDrop
  have e1 : (A ++ x :: C).eraseIdx A.length = A ++ C := by simp [List.eraseIdx_append_of_length_le]
  rw [e1]
  rcases List.eq_nil_or_concat C with rfl | ⟨D, l, rfl⟩
  · simp
  · rw [List.concat_eq_append]
    have e2 : (A ++ x :: (D ++ [l])).length - 1 = A.length + (D.length + 1) := by simp
    have e3 : (A ++ x :: (D ++ [l])).getD (A.length + (D.length + 1)) [] = l := by
      simp [List.getD]
    rw [e2, e3]
    have e4 : (A ++ x :: (D ++ [l])).set A.length l = (A ++ l :: D) ++ [l] := by simp
    rw [e4, List.take_append_of_le_length (by simp), List.take_of_length_le (by simp)]
    refine List.Perm.append_left A ?_
    simp

set_option maxRecDepth 100000 in
set_option maxHeartbeats 1000000 in
theorem hplay_calls (B p : Nat) (h0 : Hd) (a : Option Addr) (b off m c : Nat) (O : List (Nat × Str)) (w : World) (t0 : TrieAt w B p h0 TT.none) (hB : B ≤ w.heap.size) (ha : 0 < m → a = some ⟨b, off, none⟩) (hbB : 0 < m → b < B) (hs : OpsB w b off m O) (hm : m ≤ 256) (hl : ∀ i, i < m → (O.getD i (0, [])).2.length ≤ 256) :
    Calls Yblm.prog 37 #[.pointer (some ⟨p, 0, none⟩), .slice a m c] w fun e w' => ∃ v, e = .returned v ∧ ∃ h T, TrieAt w' B p h T ∧ ∃ P S, Good T P S ∧ w'.ownsRow B 9 1 v S.length (S.map Sv) ∧ P.length ≤ 257 * m ∧ S.length ≤ m ∧ Below B w w' := by
  have HA := hide2 ha
  have HS := hide2 hs
  have HL := hide2 hl
  have HBB := hide2 hbB
  have T00 := hide2 t0
  clear ha hs hl hbB t0
  go_enter Yblm.func37, Yblm.ntmps37
  go_wp2
  go_loopw [5, 6] (fun v i wr => ∃ (k : Nat) (x : Option Addr) (n y : Nat) (h : Hd) (T : TT) (P S : List Str), i = .int .i64 k ∧ k ≤ m ∧ v = .slice x n y ∧ TrieAt wr B p h T ∧ Good T P S ∧ wr.ownsRow B 9 1 v n (S.map Sv) ∧ S.length = n ∧ P.length ≤ 257 * k ∧ n ≤ k ∧ Below B w wr) (fun _ i _ => m - (intOf i).toNat)
  case atStart =>
    exact ⟨0, _, _, _, h0, TT.none, [], [], rfl, Nat.zero_le _, rfl, T00.out.alloc _, good_none, own_empty w B hB, rfl, Nat.zero_le _, Nat.zero_le _, (Below.refl _ w).alloc hB _⟩
  case round =>
    obtain ⟨k, x0, n, y0, h, T, P, S, rfl, hk, rfl, t, G, own, hSn, hP, hn, bel⟩ := hrel
    have hwr : B ≤ wr.heap.size := by have := bel.size; omega
    have T0 := hide2 t
    have HG := hide2 G
    have OW := hide2 own
    have HSN := hide2 hSn
    clear t G own hSn
    by_cases hlt : k < m
    · have hea := HA.out (by omega)
      subst hea
      have hbb := HBB.out (by omega)
      have d0 := (bel.cell (p := ⟨b, off + k * 2, none⟩) hbb).trans (HS.out.c0 k hlt)
      have d1 := (bel.cell (p := ⟨b, off + k * 2 + 1, none⟩) hbb).trans (HS.out.c1 k hlt)
      have r0 := HS.out.r0 k hlt
      have l1 := HL.out k hlt
      generalize (O.getD k (0, [])).1 = kd at d0 r0
      generalize (O.getD k (0, [])).2 = raw at d1 l1
      obtain ⟨z, hz, hz2, hz3⟩ : ∃ z : Nat, (kd : Int) % 4 = (z : Int) ∧ Int.tmod (kd : Int) 4 = (z : Int) ∧ z < 4 := ⟨kd % 4, by simp, by rw [Int.tmod_eq_emod_of_nonneg (by omega)]; simp, by omega⟩
      by_cases hrem : z = 3
      · subst hrem
        by_cases h0 : 0 < n
        · obtain ⟨g, cap, he, _, _⟩ := OW.out.form h0
          obtain ⟨rfl, rfl⟩ : x0 = some ⟨g, 0, none⟩ ∧ y0 = cap := by simpa using he
          obtain ⟨hnc, hcm⟩ := own_cap OW.out
          unfold maxLen at hcm
          obtain ⟨d, hd, hd2, hd3⟩ : ∃ d : Nat, (kd : Int) / 4 = (d : Int) ∧ Int.tdiv (kd : Int) 4 = (d : Int) ∧ d ≤ 63 := ⟨kd / 4, by simp, by rw [Int.tdiv_eq_ediv_of_nonneg (by omega)]; simp, by omega⟩
          obtain ⟨j, hj, hj2, hj3⟩ : ∃ j : Nat, (d : Int) % (n : Int) = (j : Int) ∧ Int.tmod (d : Int) (n : Int) = (j : Int) ∧ j < n := ⟨d % n, by simp, by rw [Int.tmod_eq_emod_of_nonneg (by omega)]; simp, Nat.mod_lt _ h0⟩
          have hjS : j < S.length := by have := HSN.out; omega
          have hcell := own_cell OW.out j _ (getD_map_sv S j hjS)
          have hmem := mem_getD hjS
          have hql : (S.getD j []).length ≤ 1000000 := by have := HG.out.tree.paths.lenM (HG.out.sub _ hmem); omega
          have her := erase_nodup HG.out.nodup hjS
          have rc := remove_calls B p h T P S (S.getD j []) wr T0.out HG.out hql (by have := HSN.out; omega)
          rw [her] at rc
          have RC := hide2 rc
          have hn1 : ((n : Int) == 0) = false := beq_eq_false_iff_ne.2 (by omega)
          clear he rc her hmem hql hjS
          generalize S.getD j [] = q at hcell RC
          generalize decide (q ∈ S) = bb at RC
          go_wp2_with fail
          refine RC.out.mono ?_
          rintro e w2 ⟨rfl, T2, t2, G2, s2⟩
          have hjS : j < S.length := by have := HSN.out; omega
          have o2 := own_stp T0.out OW.out s2
          have b2 := bel.trans (s2.t.below (fun k hk => (T0.out.foot_lt k hk).1) hwr)
          have hgB : B ≤ g := (OW.out.lt g rfl).1
          have G3 := G2.perm (swapDrop_perm hjS)
          obtain ⟨n1, hn1e⟩ : ∃ n1, n = n1 + 1 := ⟨n - 1, by omega⟩
          have hn1l : n1 < n := by omega
          have hn1i : (n : Int) - 1 = (n1 : Int) := by omega
          have hlast := own_cell o2 n1 _ (getD_map_sv S n1 (by have := HSN.out; omega))
          have hold := own_cell o2 j _ (getD_map_sv S j hjS)
          have hfr := o2.frozenAt j
          have hsd : (S.map Sv).set j (Sv (S.getD n1 [])) = (S.set j (S.getD n1 [])).map Sv := by rw [List.map_set]
          have o3 := (o2.stored j (Sv (S.getD n1 []))).1
          have t3 := TA.setStr t2 o2 j (Sv (S.getD n1 []))
          have b3 : Below B w (w2.setCell ⟨g, j, none⟩ (Sv (S.getD n1 []))) := b2.setCell hgB _
          have o4 : (w2.setCell ⟨g, j, none⟩ (Sv (S.getD n1 []))).ownsRow B 9 1 (.slice (some ⟨g, 0, none⟩) n1 y0) n1 ((swapDrop S j).map Sv) := by
            have h5 := o3
            rw [hn1e] at h5
            have h6 := own_short h5
            have e5 : ((S.map Sv).set j (Sv (S.getD n1 []))).take (n1 * 1) = (swapDrop S j).map Sv := by
              unfold swapDrop
              rw [show S.length - 1 = n1 by have := HSN.out; omega, hsd, Nat.mul_one, List.map_take]
            rw [e5] at h6
            exact h6
          have hsl : (swapDrop S j).length = n1 := by rw [swapDrop_len]; have := HSN.out; omega
          have T3 := hide2 t3
          have G3h := hide2 G3
          have O4 := hide2 o4
          have B3 := hide2 b3
          have HSL := hide2 hsl
          have hwp : IntKind.i64.wrap (n1 : Int) = (n1 : Int) := by rw [IntKind.wrap_i64]; omega
          have hn1c : n1 ≤ y0 := by omega
          clear t2 G2 o2 s2 hcell o3 t3 b3 o4 hsl hsd G3 hn1e
          generalize S.getD n1 [] = lst at *
          generalize S.getD j [] = qo at *
          go_wp2
          go_roundw
          case rel => exact ⟨k + 1, _, n1, _, h, T2, P, swapDrop S j, by go_num, by omega, rfl, T3.out, G3h.out, O4.out, HSL.out, by omega, by omega, B3.out⟩
          case measure => simp [intOf]; omega
        · go_wp2
          go_roundw
          case rel => exact ⟨k + 1, x0, n, y0, h, T, P, S, by go_num, by omega, rfl, T0.out, HG.out, OW.out, HSN.out, by omega, by omega, bel⟩
          case measure => simp [intOf]; omega
      · have hzf : ((z : Int) == 3) = false := beq_eq_false_iff_ne.2 (by omega)
        have hw := hword_calls raw wr l1
        have HW := hide2 hw
        clear hw
        go_wp2_with fail
        refine HW.out.mono ?_
        rintro e w1 ⟨q, rfl, hqv, hql, b1⟩
        have t1 := T0.out.below b1
        have o1 := own_below OW.out b1
        have bel1 := bel.trans (b1.mono hwr)
        have hw1 : B ≤ w1.heap.size := by have := bel1.size; omega
        have T1 := hide2 t1
        have O1 := hide2 o1
        have hpl := insPs_len P q
        have ic := insert_calls B p h T P S q w1 T1.out HG.out (by omega) (by omega) (by have := HSN.out; omega) hw1
        have IC := hide2 ic
        have vc := fun w => valid_calls q w (by unfold maxLen; omega)
        simp only [hqv] at vc
        have VC := hide2 vc
        have HQV := hide2 hqv
        clear t1 o1 d0 d1 ic hqv vc
        generalize codeI S q = cd at *
        go_wp2_with fail
        refine IC.out.mono ?_
        rintro e w2 ⟨rfl, h2, T2, t2, G2, s2⟩
        have o2 := own_stp T1.out O1.out s2
        have b2 := bel1.trans (s2.t.below (fun k hk => (T1.out.foot_lt k hk).1) hw1)
        have hw2 : B ≤ w2.heap.size := by have := b2.size; omega
        have hic := hin_calls B _ n S q w2 HSN.out o2 (by omega)
        have HIC := hide2 hic
        have T2h := hide2 t2
        have G2h := hide2 G2
        have O2 := hide2 o2
        clear t2 G2 o2 s2 hic
        by_cases hin : q ∈ S
        · rw [decide_eq_true hin] at HIC
          have hsi : insS S q = S := by unfold insS; rw [if_neg (fun h => h.2 hin)]
          rw [hsi] at G2h
          clear hsi hin
          go_wp2_with (first | (go_at_call 46; refine (VC.out _).mono ?_; rintro e w' ⟨rfl, he⟩; obtain rfl := he.symm) | (go_at_call 38; refine HIC.out.mono ?_; rintro e w' ⟨rfl, he⟩; obtain rfl := he.symm))
          go_roundw
          case rel => exact ⟨k + 1, _, n, _, h2, T2, insPs P q, S, by go_num, by omega, rfl, T2h.out, G2h.out, O2.out, HSN.out, by omega, by omega, b2⟩
          case measure => simp [intOf]; omega
        · rw [decide_eq_false hin] at HIC
          have hsi : insS S q = S ++ [q] := by unfold insS; rw [if_pos ⟨HQV.out, hin⟩]
          rw [hsi] at G2h
          clear hsi hin
          go_wp2_with (first | (go_at_call 46; refine (VC.out _).mono ?_; rintro e w' ⟨rfl, he⟩; obtain rfl := he.symm) | (go_at_call 38; refine HIC.out.mono ?_; rintro e w' ⟨rfl, he⟩; obtain rfl := he.symm) | (at_builtin; go_must (refine wpList_app_str (.tmp 71) (.tmp 73) rfl rfl B _ _ _ rfl O2.out q w2.heap.size rfl rfl (by omega) hw2 ?_)))
          intro g5 k5 w5 ow5 st5
          have t5 := TA.lst T2h.out O2.out st5
          have b5 := b2.trans (st5.toBelow (fun k hk => (O2.out.lt k hk).1) hw2)
          have hmp : (S ++ [q]).map Sv = S.map Sv ++ [Sv q] := by rw [List.map_append]; rfl
          rw [← hmp] at ow5
          have O5 := hide2 ow5
          have T5 := hide2 t5
          clear ow5 st5 t5 hmp
          go_wp2
          go_roundw
          case rel => exact ⟨k + 1, _, n + 1, _, h2, T2, insPs P q, S ++ [q], by go_num, by omega, rfl, T5.out, G2h.out, O5.out, by rw [List.length_append, HSN.out]; rfl, by omega, by omega, b5⟩
          case measure => simp [intOf]; omega
    · have hsn := HSN.out
      subst hsn
      go_wp2
      go_ret
      exact ⟨_, rfl, h, T, T0.out, P, S, HG.out, OW.out, by omega, by omega, bel⟩
end Go.Proofs.Ymbrbl
