/-
  The walk of LawS930010FUndo. Own text.
-/
import Derived.Test.YmbrblFRun
import Derived.Test.YmbrblFSame
namespace Go.Proofs.Ymbrbl
open Go.RowKit

set_option maxRecDepth 100000 in
set_option maxHeartbeats 1000000 in
theorem fundo_walk (a : Option Addr) (b off m c : Nat) (O : List (Nat × Nat × Str)) (sel : Nat) (raw : Str) (w : World) (ha : 0 < m → a = some ⟨b, off, none⟩) (hs : OpsF w b off m O) (hsel : sel ≤ 255) :
    Calls Yblm.prog 7 #[.slice a m c, .int .u8 sel, Sv raw] w fun e w' => e = .returned (.bool true) ∧ Below w.heap.size w w' := by
  have hb := fbig_calls a b off m c O w ha hs
  have HA := hide2 ha
  have HS := hide2 hs
  have HBG := hide2 hb
  clear ha hs hb
  go_enter Yblm.func7, Yblm.ntmps7
  go_wp2_with fail
  refine HBG.out.mono ?_
  rintro e w' ⟨⟨bb, rfl, hbb⟩, he⟩
  obtain rfl := he.symm
  cases bb
  · obtain ⟨hm2, hl⟩ := hbb rfl
    by_cases hr : 1024 < raw.length
    · have hd : decide ((1024 : Int) < (raw.length : Int)) = true := decide_eq_true (by omega)
      clear hl hbb
      go_wp2
      go_ret
      exact ⟨rfl, Below.refl _ _⟩
    · have hd : decide ((1024 : Int) < (raw.length : Int)) = false := decide_eq_false (by omega)
      obtain ⟨B, hB⟩ : ∃ B, w.heap.size = B := ⟨_, rfl⟩
      have HB := hide2 hB
      clear hB
      have t0 := trie_new w w.heap.size (Nat.le_refl _)
      have hs1 : OpsF (w.alloc (.cells #[.slice none 0 0, .slice none 0 0, .slice none 0 0] 29)) b off m O := HS.out.below ((Below.refl w.heap.size w).alloc (Nat.le_refl _) _)
      have hp := frun_calls w.heap.size w.heap.size _ a b off m c O _ t0 (by simp) HA.out (fun h => HS.out.lt h) hs1 hm2 hl
      have HP := hide2 hp
      clear hp t0 hs1 hl hbb
      go_wp2_with fail
      refine HP.out.mono ?_
      rintro e w1 ⟨v, rfl, h, T, t, P, S, G, own, hP, hS, bel0⟩
      have bel : Below w.heap.size w w1 := ((Below.refl w.heap.size w).alloc (Nat.le_refl _) _).trans bel0
      rw [HB.out] at t own bel bel0 ⊢
      have hw1 : B ≤ w1.heap.size := by have := bel.size; have := HB.out; omega
      obtain ⟨x0, y0, rfl⟩ := ownsRow_slice own
      have fp := fpick_calls B _ S.length S sel raw w1 rfl own (by omega) hsel
      have hlen := G.tree.len
      have hTl : T.wd.length ≤ 100000 := by omega
      have FP := hide2 fp
      have T1 := hide2 t
      have HG := hide2 G
      clear fp own t G hlen
      go_wp2_with fail
      refine FP.out.mono ?_
      rintro e w' ⟨⟨q, rfl, hq⟩, he⟩
      obtain rfl := he.symm
      have hql : q.length ≤ 100000 := by
        rcases hq with rfl | hq
        · omega
        · have := HG.out.tree.paths.lenM (HG.out.sub _ hq); omega
      clear hq
      obtain ⟨hN, hW, hBv⟩ := h
      have c0 := (T1.out.alloc (.cells #[] 24)).mid.c0
      dsimp only at c0
      go_wp2_with (at_builtin; go_must (refine wpList_copy (.tmp 35) (.tmp 39) 22 24 26 208 _ rfl rfl Yblm.underlying22 infoRow rfl (by decide) (by decide) B _ _ _ T1.out.rN (ints_one' _) rfl w1.heap.size rfl rfl (by omega) ?_))
      intro u1 w2 oN b2
      have t2 := T1.out.below b2
      have T2 := hide2 t2
      have ON := hide2 oN
      have c1 := (t2.alloc (.cells #[] 4)).mid.c1
      dsimp only at c1
      clear t2 oN c0
      go_wp2_with (at_builtin; go_must (refine wpList_copy (.tmp 41) (.tmp 45) 26 4 1 1 _ rfl rfl Yblm.underlying26 infoBool rfl (by decide) (by decide) B _ _ _ T2.out.rW (bools_one' _) rfl w2.heap.size rfl rfl (by omega) ?_))
      intro u2 w3 oW b3
      have t3 := T2.out.below b3
      have T3 := hide2 t3
      have OW := hide2 oW
      have c2 := (t3.alloc (.cells #[] 3)).mid.c2
      dsimp only at c2
      clear t3 oW c1
      go_wp2_with (at_builtin; go_must (refine wpList_copy (.tmp 47) (.tmp 51) 27 3 1 8 _ rfl rfl Yblm.underlying27 infoInt rfl (by decide) (by decide) B _ _ _ T3.out.rB (ints_one' _) rfl w3.heap.size rfl rfl (by omega) ?_))
      intro u3 w4 oB b4
      have t4 := T3.out.below b4
      have cop : Cop w4 w1.heap.size B ⟨hN, hW, hBv⟩ u1 u2 u3 T := by
        refine ⟨own_below (own_below ON.out b3) b4, own_mono (own_below OW.out b4) b2.size, own_mono oB (Nat.le_trans b2.size b3.size), fun k hk => ?_⟩
        have hk1 := (T1.out.foot_lt k hk).2
        have := b2.size
        have := b3.size
        refine ⟨fun e => ?_, fun e => ?_, fun e => ?_⟩
        · have := (ON.out.lt k e).1; omega
        · have := (OW.out.lt k e).1; omega
        · have := (oB.lt k e).1; omega
      have bel4 : Below B w w4 := ((bel.trans (b2.mono hw1)).trans (b3.mono (Nat.le_trans hw1 b2.size))).trans (b4.mono (Nat.le_trans hw1 (Nat.le_trans b2.size b3.size)))
      have hw4 : B ≤ w4.heap.size := by have := b2.size; have := b3.size; have := b4.size; omega
      have T4 := hide2 t4
      have CP := hide2 cop
      clear t4 cop oB c2 b2 b3 b4 ON OW
      have rc := remove_calls B B ⟨hN, hW, hBv⟩ T P S q w4 T4.out HG.out (by omega) (by omega)
      by_cases hqS : q ∈ S
      · rw [decide_eq_true hqS] at rc
        have RC := hide2 rc
        have HQS := hide2 hqS
        clear rc hqS
        go_wp2_with fail
        refine RC.out.mono ?_
        rintro e w5 ⟨rfl, T5, t5, G5, s5⟩
        have cp5 := CP.out.stp s5
        have bel5 := bel4.trans (s5.t.below (fun k hk => (T4.out.foot_lt k hk).1) hw4)
        have hw5 : B ≤ w5.heap.size := by have := bel5.size; have := HB.out; omega
        have hl5 := (List.length_erase_le : (S.erase q).length ≤ S.length)
        have hno : q ∉ S.erase q := fun h => (HG.out.nodup.mem_erase_iff.1 h).1 rfl
        have rc2 := remove_calls B B ⟨hN, hW, hBv⟩ T5 P (S.erase q) q w5 t5 G5 (by omega) (by omega)
        rw [decide_eq_false hno, List.erase_of_not_mem hno] at rc2
        have RC2 := hide2 rc2
        have T5h := hide2 t5
        have CP5 := hide2 cp5
        have HNO := hide2 hno
        clear rc2 t5 cp5 hno G5 s5
        go_wp2_with fail
        refine RC2.out.mono ?_
        rintro e w6 ⟨rfl, T6, t6, G6, s6⟩
        have cp6 := CP5.out.stp s6
        have bel6 := bel5.trans (s6.t.below (fun k hk => (T5h.out.foot_lt k hk).1) hw5)
        have hw6 : B ≤ w6.heap.size := by have := bel6.size; have := HB.out; omega
        have ic := insert_calls B B ⟨hN, hW, hBv⟩ T6 P (S.erase q) q w6 t6 G6 (by omega) (by omega) (by omega) hw6
        have hva := HG.out.valid HQS.out
        have hcd : codeI (S.erase q) q = 0 := by unfold codeI; rw [if_pos hva, if_neg HNO.out]
        have hsi : insS (S.erase q) q = S.erase q ++ [q] := by unfold insS; rw [if_pos ⟨hva, HNO.out⟩]
        rw [hcd, hsi, insPs_same HG.out (HG.out.sub _ HQS.out)] at ic
        have IC := hide2 ic
        have T6h := hide2 t6
        have CP6 := hide2 cp6
        clear ic t6 cp6 G6 s6 hva hcd hsi
        go_wp2_with fail
        refine IC.out.mono ?_
        rintro e w7 ⟨rfl, h7, T7, t7, G7, s7⟩
        have cp7 := CP6.out.stp s7
        have bel7 := bel6.trans (s7.t.below (fun k hk => (T6h.out.foot_lt k hk).1) hw6)
        obtain rfl := HG.out.det G7 (fun x => by
          rw [List.mem_append, List.mem_singleton, HG.out.nodup.mem_erase_iff]
          by_cases e : x = q
          · subst e; simp [HQS.out]
          · simp [e]) (nxlen T4.out) (nxlen t7) (bllen T4.out) (bllen t7)
        have fs := fsame_calls B B w1.heap.size h7 T u1 u2 u3 w7 t7 cp7 (by omega)
        have FS := hide2 fs
        clear fs t7 cp7 G7 s7
        go_wp2_with fail
        refine FS.out.mono ?_
        rintro e w8 ⟨rfl, m8, rfl⟩
        go_wp2
        go_ret
        exact ⟨rfl, by rw [HB.out]; exact Below.drewN bel7 m8⟩
      · rw [decide_eq_false hqS, List.erase_of_not_mem hqS] at rc
        have RC := hide2 rc
        clear rc hqS
        go_wp2_with fail
        refine RC.out.mono ?_
        rintro e w5 ⟨rfl, T5, t5, G5, s5⟩
        have cp5 := CP.out.stp s5
        have bel5 := bel4.trans (s5.t.below (fun k hk => (T4.out.foot_lt k hk).1) hw4)
        obtain rfl := HG.out.det G5 (fun x => Iff.rfl) (nxlen T4.out) (nxlen t5) (bllen T4.out) (bllen t5)
        have fs := fsame_calls B B w1.heap.size _ T u1 u2 u3 w5 t5 cp5 (by omega)
        have FS := hide2 fs
        clear fs t5 cp5 G5 s5
        go_wp2_with fail
        refine FS.out.mono ?_
        rintro e w8 ⟨rfl, m8, rfl⟩
        go_wp2
        go_ret
        exact ⟨rfl, by rw [HB.out]; exact Below.drewN bel5 m8⟩
  · go_wp2
    go_ret
    exact ⟨rfl, Below.refl _ _⟩
end Go.Proofs.Ymbrbl
