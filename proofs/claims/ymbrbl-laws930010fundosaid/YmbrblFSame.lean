/-
  zzs930010fsame over copies of the Trie's own rows: true. Own text.
-/
import Derived.Test.YmbrblCopies
import Derived.Test.YmbrblRowBuild
namespace Go.Proofs.Ymbrbl
open Go.RowKit

set_option maxRecDepth 100000 in
set_option maxHeartbeats 1000000 in
theorem fsame_calls (B p C : Nat) (h : Hd) (T : TT) (uN uW uB : Value) (w : World) (t : TrieAt w B p h T) (cp : Cop w C p h uN uW uB T) (hb : T.wd.length ≤ 1000000) :
    Calls Yblm.prog 28 #[.pointer (some ⟨p, 0, none⟩), uN, uW, uB] w fun e w' => e = .returned (.bool true) ∧ ∃ m, w' = w.drewN m := by
  have hnl := nxlen t
  have hbl := bllen t
  obtain ⟨vN, vW, vB⟩ := h
  obtain ⟨aN, cN, e1⟩ := ownsRow_slice t.rN
  obtain ⟨aW, cW, e2⟩ := ownsRow_slice t.rW
  obtain ⟨aB, cB, e3⟩ := ownsRow_slice t.rB
  obtain ⟨bN, dN, rfl⟩ := ownsRow_slice cp.oN
  obtain ⟨bW, dW, rfl⟩ := ownsRow_slice cp.oW
  obtain ⟨bB, dB, rfl⟩ := ownsRow_slice cp.oB
  dsimp only at e1 e2 e3
  subst e1 e2 e3
  have c0 := t.mid.c0
  have c1 := t.mid.c1
  have c2 := t.mid.c2
  dsimp only at c0 c1 c2
  have rN := t.rN
  have rW := t.rW
  have rB := t.rB
  have oN := cp.oN
  have oW := cp.oW
  have oB := cp.oB
  dsimp only at rN rW rB
  clear t cp
  obtain ⟨NX, WD, BL⟩ := T
  dsimp only at *
  generalize hn : WD.length = n at *
  have RN := hide2 rN
  have RW := hide2 rW
  have RB := hide2 rB
  have ON := hide2 oN
  have OW := hide2 oW
  have OB := hide2 oB
  have HNL := hide2 hnl
  have HBL := hide2 hbl
  have HWL := hide2 hn
  have hne : ((n : Int) != (n : Int)) = false := by simp
  clear rN rW rB oN oW oB hnl hbl hn
  go_enter Yblm.func28, Yblm.ntmps28
  go_wp2
  go_loopw [9] (fun i wr => ∃ k : Nat, i = .int .i64 k ∧ k ≤ n ∧ ∃ m, wr = w.drewN m) (fun i _ => n - (intOf i).toNat)
  case atStart => exact ⟨0, rfl, Nat.zero_le _, 0, rfl⟩
  case round =>
    obtain ⟨j, rfl, hj, m, rfl⟩ := hrel
    by_cases hlt : j < n
    · obtain ⟨gN, kN, f1, _, _⟩ := RN.out.form (by omega)
      obtain ⟨g2, k2, f2, _, _⟩ := ON.out.form (by omega)
      obtain ⟨rfl, rfl⟩ : aN = some ⟨gN, 0, none⟩ ∧ cN = kN := by simpa using f1
      obtain ⟨rfl, rfl⟩ : bN = some ⟨g2, 0, none⟩ ∧ dN = k2 := by simpa using f2
      have g1 := own_range RN.out (j * 26) ((row26 NX j).map (.int .i64)) (row_at NX j _ rfl)
      have g3 := own_range ON.out (j * 26) ((row26 NX j).map (.int .i64)) (row_at NX j _ rfl)
      have hs1 : (Yblm.prog.info? 24).map (·.size) = some ((row26 NX j).map (Value.int .i64)).length := by rw [List.length_map, row26_len NX j n HNL.out hlt]; exact sizeRow
      have l1 := fun n => run_loadAt_mid (P := Yblm.prog) (w.drewN n) gN (j * 26) 24 _ _ g1 Yblm.underlying24 rfl hs1
      have l2 := fun n => run_loadAt_mid (P := Yblm.prog) (w.drewN n) g2 (j * 26) 24 _ _ g3 Yblm.underlying24 rfl hs1
      have l3 := fun W : World => run_neq_ints (P := Yblm.prog) W 24 3 26 Yblm.underlying24 Yblm.underlying3 sizeInt (row26 NX j) (row26 NX j) (row26_len NX j n HNL.out hlt) (row26_len NX j n HNL.out hlt)
      rw [show (row26 NX j != row26 NX j) = false from by simp] at l3
      have z1 : (0 : Int) ≤ (j : Int) := by omega
      have z2 : (j : Int) < (n : Int) := by omega
      have z6 := guardRow
      generalize ((row26 NX j).map (Value.int .i64)).toArray = R at l1 l2 l3
      clear g1 g3 hs1 f1 f2
      go_wp2
      refine wp_region_quiet_lit (by kernel_rfl) (by kernel_rfl) ?_
      repeat (first
        | (go_big_quiet_step (fail))
        | (go_big_quiet_want; refine quiet_load_row 24 (.tmp 51) rfl ⟨gN, j * 26, none⟩ rfl R (fun _ ⟨n, hn⟩ => hn ▸ by simpa using l1 (m + n)) ?_; go_simp; go_big_quiet_on)
        | (go_big_quiet_want; refine quiet_load_row 24 (.tmp 55) rfl ⟨g2, j * 26, none⟩ rfl R (fun _ ⟨n, hn⟩ => hn ▸ by simpa using l2 (m + n)) ?_; go_simp; go_big_quiet_on)
        | (go_big_quiet_want; refine quiet_cmp_row .neq 24 (.tmp 52) (.tmp 56) rfl R R rfl rfl (.bool false) z6 l3 ?_; go_simp; go_big_quiet_on))
      refine wpQuiet_nil ?_
      intro _ hw'
      obtain ⟨nq, hw''⟩ := hw'
      subst hw''
      go_wp2
      go_roundw
      case rel => exact ⟨j + 1, by go_num, by omega, _, rfl⟩
      case measure => simp [intOf]; omega
    · obtain rfl : j = n := by omega
      go_wp2
      go_loopw [10] (fun i wr => ∃ k : Nat, i = .int .i64 k ∧ k ≤ j ∧ ∃ m, wr = w.drewN m) (fun i _ => j - (intOf i).toNat)
      case atStart => exact ⟨0, rfl, Nat.zero_le _, _, rfl⟩
      case round =>
        obtain ⟨k, rfl, hk, m2, rfl⟩ := hrel
        by_cases hlt2 : k < j
        · obtain ⟨gW, kW, f1, _, _⟩ := RW.out.form (by omega)
          obtain ⟨g2, k2, f2, _, _⟩ := OW.out.form (by omega)
          obtain ⟨rfl, rfl⟩ : aW = some ⟨gW, 0, none⟩ ∧ cW = kW := by simpa using f1
          obtain ⟨rfl, rfl⟩ : bW = some ⟨g2, 0, none⟩ ∧ dW = k2 := by simpa using f2
          have hg : (WD.map Value.bool)[k]? = some (.bool (WD.getD k false)) := by
            simp [List.getD, List.getElem?_eq_getElem (show k < WD.length by have := HWL.out; omega)]
          have d1 := own_cell RW.out k _ hg
          have d2 := own_cell OW.out k _ hg
          have z1 : (0 : Int) ≤ (k : Int) := by omega
          have z2 : (k : Int) < (j : Int) := by omega
          have z4 : (WD.getD k false != WD.getD k false) = false := by simp
          clear f1 f2 hg
          generalize WD.getD k false = wj at d1 d2 z4
          go_wp2
          go_quiet (fail)
          go_wp2
          go_roundw
          case rel => exact ⟨k + 1, by go_num, by omega, _, rfl⟩
          case measure => simp [intOf]; omega
        · obtain rfl : k = j := by omega
          go_wp2
          go_loopw [11] (fun i wr => ∃ k' : Nat, i = .int .i64 k' ∧ k' ≤ k ∧ ∃ m, wr = w.drewN m) (fun i _ => k - (intOf i).toNat)
          case atStart => exact ⟨0, rfl, Nat.zero_le _, _, rfl⟩
          case round =>
            obtain ⟨i, rfl, hi, m3, rfl⟩ := hrel
            by_cases hlt3 : i < k
            · obtain ⟨gB, kB, f1, _, _⟩ := RB.out.form (by omega)
              obtain ⟨g2, k2, f2, _, _⟩ := OB.out.form (by omega)
              obtain ⟨rfl, rfl⟩ : aB = some ⟨gB, 0, none⟩ ∧ cB = kB := by simpa using f1
              obtain ⟨rfl, rfl⟩ : bB = some ⟨g2, 0, none⟩ ∧ dB = k2 := by simpa using f2
              have hg : (BL.map (Value.int .i64))[i]? = some (.int .i64 (BL.getD i 0)) := by
                simp [List.getD, List.getElem?_eq_getElem (show i < BL.length by have := HBL.out; omega)]
              have d1 := own_cell RB.out i _ hg
              have d2 := own_cell OB.out i _ hg
              have z1 : (0 : Int) ≤ (i : Int) := by omega
              have z2 : (i : Int) < (k : Int) := by omega
              have z4 : (BL.getD i 0 != BL.getD i 0) = false := by simp
              clear f1 f2 hg
              generalize BL.getD i 0 = wj at d1 d2 z4
              go_wp2
              go_quiet (fail)
              go_wp2
              go_roundw
              case rel => exact ⟨i + 1, by go_num, by omega, _, rfl⟩
              case measure => simp [intOf]; omega
            · go_wp2
              go_ret
              exact ⟨rfl, _, rfl⟩
end Go.Proofs.Ymbrbl
