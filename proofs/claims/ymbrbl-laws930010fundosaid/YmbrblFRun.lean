/-
  zzs930010frun: its contract. Own text.
-/
import Derived.Test.YmbrblFFns
import Derived.Test.YmbrblRemove
import Derived.Test.YmbrblWithP
import Derived.Deep.DeepCutAuto
namespace Go.Proofs.Ymbrbl
open Go.RowKit

theorem erase_filter {S : List Str} (h : S.Nodup) (q : Str) : S.erase q = S.filter (fun x => x != q) := by rw [h.erase_eq_filter]

set_option maxRecDepth 100000 in
set_option maxHeartbeats 1000000 in
theorem frun_calls (B p : Nat) (h0 : Hd) (a : Option Addr) (b off m c : Nat) (O : List (Nat × Nat × Str)) (w : World) (t0 : TrieAt w B p h0 TT.none) (hB : B ≤ w.heap.size) (ha : 0 < m → a = some ⟨b, off, none⟩) (hbB : 0 < m → b < B) (hs : OpsF w b off m O) (hm : m ≤ 256) (hl : ∀ i, i < m → (O.getD i (0, 0, [])).2.2.length ≤ 256) :
    Calls Yblm.prog 19 #[.pointer (some ⟨p, 0, none⟩), .slice a m c] w fun e w' => ∃ v, e = .returned (.tuple #[v, .bool true]) ∧ ∃ h T, TrieAt w' B p h T ∧ ∃ P S, Good T P S ∧ w'.ownsRow B 9 1 v S.length (S.map Sv) ∧ P.length ≤ 257 * m ∧ S.length ≤ m ∧ Below B w w' := by
  have HA := hide2 ha
  have HS := hide2 hs
  have HL := hide2 hl
  have HBB := hide2 hbB
  have T00 := hide2 t0
  clear ha hs hl hbB t0
  go_enter Yblm.func19, Yblm.ntmps19
  go_wp2
  go_loopw [6, 7, 8] (fun v gd i wr => ∃ (k : Nat) (x : Option Addr) (n y : Nat) (h : Hd) (T : TT) (P S : List Str), i = .int .i64 k ∧ k ≤ m ∧ gd = .bool true ∧ v = .slice x n y ∧ TrieAt wr B p h T ∧ Good T P S ∧ wr.ownsRow B 9 1 v n (S.map Sv) ∧ S.length = n ∧ P.length ≤ 257 * k ∧ n ≤ k ∧ Below B w wr) (fun _ _ i _ => m - (intOf i).toNat)
  case atStart =>
    exact ⟨0, _, _, _, h0, TT.none, [], [], rfl, Nat.zero_le _, rfl, rfl, T00.out.alloc _, good_none, own_empty w B hB, rfl, Nat.zero_le _, Nat.zero_le _, (Below.refl _ w).alloc hB _⟩
  case round =>
    obtain ⟨k, x0, n, y0, h, T, P, S, rfl, hk, rfl, rfl, t, G, own, hSn, hP, hn, bel⟩ := hrel
    have hwr : B ≤ wr.heap.size := by have := bel.size; omega
    have T0 := hide2 t
    have HG := hide2 G
    have OW := hide2 own
    have HSN := hide2 hSn
    clear t G own hSn
    by_cases hlt : k < m
    · have hea := HA.out (by omega)
      subst hea
      have hbb := HBB.out (by omega)
      have d0 := (bel.cell (p := ⟨b, off + k * 3, none⟩) hbb).trans (HS.out.c0 k hlt)
      have d1 := (bel.cell (p := ⟨b, off + k * 3 + 1, none⟩) hbb).trans (HS.out.c1 k hlt)
      have d2 := (bel.cell (p := ⟨b, off + k * 3 + 2, none⟩) hbb).trans (HS.out.c2 k hlt)
      have r0 := HS.out.r0 k hlt
      have r1 := HS.out.r1 k hlt
      have l1 := HL.out k hlt
      generalize (O.getD k (0, 0, [])).1 = kd at d0 r0
      generalize (O.getD k (0, 0, [])).2.1 = pk at d1 r1
      generalize (O.getD k (0, 0, [])).2.2 = raw at d2 l1
      obtain ⟨z, hz, hz2, hz3⟩ : ∃ z : Nat, (kd : Int) % 3 = (z : Int) ∧ Int.tmod (kd : Int) 3 = (z : Int) ∧ z < 3 := ⟨kd % 3, by simp, by rw [Int.tmod_eq_emod_of_nonneg (by omega)]; simp, by omega⟩
      by_cases hins : z = 0
      · subst hins
        have hw := fword_calls raw wr l1
        have HW := hide2 hw
        clear hw d1
        go_wp2_with fail
        refine HW.out.mono ?_
        rintro e w1 ⟨q, rfl, hqv, hql, b1⟩
        have t1 := T0.out.below b1
        have o1 := own_below OW.out b1
        have bel1 := bel.trans (b1.mono hwr)
        have hw1 : B ≤ w1.heap.size := by have := bel1.size; omega
        have T1 := hide2 t1
        have O1 := hide2 o1
        have hpl := insPs_len P q
        have ic := insert_calls B p h T P S q w1 T1.out HG.out (by omega) (by omega) (by have := HSN.out; omega) hw1
        have IC := hide2 ic
        have HQV := hide2 hqv
        clear t1 o1 d0 d2 ic hqv
        by_cases hin : q ∈ S
        · have hcd : codeI S q = 1 := by unfold codeI; rw [if_pos HQV.out, if_pos hin]
          have hsi : insS S q = S := by unfold insS; rw [if_neg (fun h => h.2 hin)]
          rw [hcd, hsi] at IC
          clear hsi hcd hin
          go_wp2_with fail
          refine IC.out.mono ?_
          rintro e w2 ⟨rfl, h2, T2, t2, G2, s2⟩
          have o2 := own_stp T1.out O1.out s2
          have b2 := bel1.trans (s2.t.below (fun k hk => (T1.out.foot_lt k hk).1) hw1)
          have T2h := hide2 t2
          have G2h := hide2 G2
          have O2 := hide2 o2
          clear t2 G2 o2 s2
          go_wp2
          go_roundw
          case rel => exact ⟨k + 1, _, n, _, h2, T2, insPs P q, S, by go_num, by omega, rfl, rfl, T2h.out, G2h.out, O2.out, HSN.out, by omega, by omega, b2⟩
          case measure => simp [intOf]; omega
        · have hcd : codeI S q = 0 := by unfold codeI; rw [if_pos HQV.out, if_neg hin]
          have hsi : insS S q = S ++ [q] := by unfold insS; rw [if_pos ⟨HQV.out, hin⟩]
          rw [hcd, hsi] at IC
          clear hsi hcd hin
          go_wp2_with fail
          refine IC.out.mono ?_
          rintro e w2 ⟨rfl, h2, T2, t2, G2, s2⟩
          have o2 := own_stp T1.out O1.out s2
          have b2 := bel1.trans (s2.t.below (fun k hk => (T1.out.foot_lt k hk).1) hw1)
          have hw2 : B ≤ w2.heap.size := by have := b2.size; omega
          have T2h := hide2 t2
          have G2h := hide2 G2
          have O2 := hide2 o2
          clear t2 G2 o2 s2
          go_wp2_with (at_builtin; go_must (refine wpList_app_str (.tmp 38) (.tmp 40) rfl rfl B _ _ _ rfl O2.out q w2.heap.size rfl rfl (by omega) hw2 ?_))
          intro g5 k5 w5 ow5 st5
          have t5 := TA.lst T2h.out O2.out st5
          have b5 := b2.trans (st5.toBelow (fun k hk => (O2.out.lt k hk).1) hw2)
          have hmp : (S ++ [q]).map Sv = S.map Sv ++ [Sv q] := by rw [List.map_append]; rfl
          rw [← hmp] at ow5
          have O5 := hide2 ow5
          have T5 := hide2 t5
          clear ow5 st5 t5 hmp
          go_wp2
          go_roundw
          case rel => exact ⟨k + 1, _, n + 1, _, h2, T2, insPs P q, S ++ [q], by go_num, by omega, rfl, rfl, T5.out, G2h.out, O5.out, by rw [List.length_append, HSN.out]; rfl, by omega, by omega, b5⟩
          case measure => simp [intOf]; omega
      · have hzf : ((z : Int) == 0) = false := beq_eq_false_iff_ne.2 (by omega)
        go_upto_region 12 with (fail)
        go_cut [53] (fun s53 wc => ∃ cc, s53 = .bool cc ∧ (cc = true → 0 < n) ∧ wc = wr)
        case first =>
          by_cases hz1 : z = 1
          · subst hz1
            by_cases h0 : 0 < n
            · go_wp2
              go_meet
              case rel => exact ⟨true, rfl, fun _ => h0, rfl⟩
            · go_wp2
              go_meet
              case rel => exact ⟨false, rfl, (fun h => by cases h), rfl⟩
          · have hzg : ((z : Int) == 1) = false := beq_eq_false_iff_ne.2 (by omega)
            go_wp2
            go_meet
            case rel => exact ⟨false, rfl, (fun h => by cases h), rfl⟩
        case rest =>
          obtain ⟨cc, rfl, hcc, hwo⟩ := hcut
          obtain rfl := hwo.symm
          have HCC := hide2 hcc
          clear hcc
          go_upto_if 53 with (fail)
          go_cut [11] (fun s11 wc => ∃ q, s11 = Sv q ∧ q.length ≤ 100000 ∧ wc = wr)
          case first =>
            cases cc
            · go_wp2
              go_meet
              case rel => exact ⟨raw, rfl, by omega, rfl⟩
            · have h0 := HCC.out rfl
              obtain ⟨g, cap, he, _, _⟩ := OW.out.form h0
              obtain ⟨rfl, rfl⟩ : x0 = some ⟨g, 0, none⟩ ∧ y0 = cap := by simpa using he
              obtain ⟨j, hj, hj2, hj3⟩ : ∃ j : Nat, (pk : Int) % (n : Int) = (j : Int) ∧ Int.tmod (pk : Int) (n : Int) = (j : Int) ∧ j < n := ⟨pk % n, by simp, by rw [Int.tmod_eq_emod_of_nonneg (by omega)]; simp, Nat.mod_lt _ h0⟩
              have hjS : j < S.length := by have := HSN.out; omega
              have hcell := own_cell OW.out j _ (getD_map_sv S j hjS)
              have hql : (S.getD j []).length ≤ 100000 := by have := HG.out.tree.paths.lenM (HG.out.sub _ (mem_getD hjS)); omega
              have hn1 : ((n : Int) == 0) = false := beq_eq_false_iff_ne.2 (by omega)
              generalize S.getD j [] = sk at hcell hql
              clear he hjS
              go_wp2
              go_meet
              case rel => exact ⟨sk, rfl, hql, rfl⟩
          case rest =>
            obtain ⟨q, rfl, hql, hwo⟩ := hcut
            obtain rfl := hwo.symm
            have fh := fhas_calls B _ n S q wr HSN.out OW.out (by omega)
            have fw := fwithout_calls B _ n S q wr HSN.out OW.out (by omega)
            have her := erase_filter HG.out.nodup q
            have hno : decide (q ∈ S.erase q) = false := decide_eq_false (fun h => (HG.out.nodup.mem_erase_iff.1 h).1 rfl)
            have rc := fun w t => remove_calls B p h T P S q w t HG.out (by omega) (by have := HSN.out; omega)
            rw [her] at hno
            simp only [her] at rc
            have FH := hide2 fh
            have FW := hide2 fw
            have RC := hide2 rc
            have HNO := hide2 hno
            have hle : (S.filter (fun x => x != q)).length ≤ n := by rw [← HSN.out]; exact List.length_filter_le _ _
            clear fh fw her hno rc d0 d1 d2
            generalize decide (q ∈ S) = bb at FH RC
            generalize S.filter (fun x => x != q) = F at FW RC HNO hle
            have hbb2 : (bb != bb) = false := by simp
            have hbb3 : (bb == bb) = true := by simp
            go_wp2_with fail
            refine FH.out.mono ?_
            rintro e w' ⟨rfl, he⟩
            obtain rfl := he.symm
            go_wp2_with fail
            refine FW.out.mono ?_
            rintro e w2 ⟨g3, k3, rfl, own3, b3⟩
            have t2 := T0.out.below b3
            have o2 := own_mono own3 hwr
            have b4 := bel.trans (b3.mono hwr)
            have hw2 : B ≤ w2.heap.size := by have := b4.size; omega
            have T2 := hide2 t2
            have O2 := hide2 o2
            have RC2 := hide2 (RC.out w2 t2)
            clear t2 o2 own3 b3 RC FW FH
            go_wp2_with fail
            refine RC2.out.mono ?_
            rintro e w3 ⟨rfl, T3, t3, G3, s3⟩
            have o3 := own_stp T2.out O2.out s3
            have b5 := b4.trans (s3.t.below (fun k hk => (T2.out.foot_lt k hk).1) hw2)
            have hc := has_calls B p h T3 P F q w3 t3 G3 (by unfold maxLen; omega)
            rw [HNO.out] at hc
            have cc := count_calls B p h T3 P F q w3 t3 G3 (by unfold maxLen; omega)
            have fc := fcount_calls B _ F.length F q w3 rfl o3 (by omega) (by omega) (fun s hs => by have := G3.tree.paths.lenM (G3.sub _ hs); omega)
            have HC := hide2 hc
            have CC := hide2 cc
            have FC := hide2 fc
            have T3h := hide2 t3
            have G3h := hide2 G3
            have O3 := hide2 o3
            clear hc cc fc t3 G3 o3 s3 RC2
            generalize cnt F q = ct at CC FC
            have hct : ((ct : Int) != (ct : Int)) = false := by simp
            go_wp2_with (first | (go_at_call 24; refine HC.out.mono ?_; rintro e w' ⟨rfl, he⟩; obtain rfl := he.symm) | (go_at_call 25; refine CC.out.mono ?_; rintro e w' ⟨rfl, he⟩; obtain rfl := he.symm) | (go_at_call 26; refine FC.out.mono ?_; rintro e w' ⟨rfl, he⟩; obtain rfl := he.symm))
            go_roundw
            case rel => exact ⟨k + 1, _, F.length, _, h, T3, P, F, by go_num, by omega, rfl, rfl, T3h.out, G3h.out, O3.out, rfl, by omega, by omega, b5⟩
            case measure => simp [intOf]; omega
    · have hsn := HSN.out
      subst hsn
      go_wp2
      go_ret2
      exact ⟨_, rfl, h, T, T0.out, P, S, HG.out, OW.out, by omega, by omega, bel⟩
end Go.Proofs.Ymbrbl
