/-
  zzs930010ibuild: its contract. Own text.
-/
import Derived.Test.YmbrblTreeAdd
import Derived.Deep.DeepCutAuto
import Derived.Deep.RegionWith
namespace Go.Proofs.Ymbrbl
open Go.RowKit

theorem Paths.len_le {P : List Str} (h : Paths P) : ∀ i, i < P.length → (P.getD i []).length ≤ i := by
  intro i
  induction i using Nat.strongRecOn with
  | ind i ih =>
    intro hi
    by_cases h0 : i = 0
    · subst h0; rw [h.root hi]; simp
    · obtain ⟨j, l, hj, _, e⟩ := h.par i (by omega) hi
      rw [e, List.length_append, List.length_singleton]
      have := ih j hj (by omega)
      omega

/-- The steps that came in. -/
structure Steps (w : World) (b off n : Nat) (S : List (Nat × Nat)) : Prop where
  lt : 0 < n → b < w.heap.size
  len : S.length = n
  c0 : ∀ i, i < n → w.cell? ⟨b, off + i * 2, none⟩ = some (.int .u8 (S.getD i (0, 0)).1)
  c1 : ∀ i, i < n → w.cell? ⟨b, off + i * 2 + 1, none⟩ = some (.int .u8 (S.getD i (0, 0)).2)
  r0 : ∀ i, i < n → (S.getD i (0, 0)).1 ≤ 255
  r1 : ∀ i, i < n → (S.getD i (0, 0)).2 ≤ 255

set_option maxRecDepth 100000 in
set_option maxHeartbeats 1000000 in
theorem ibuild_calls (a : Option Addr) (b off m c : Nat) (S : List (Nat × Nat)) (w : World) (ha : 0 < m → a = some ⟨b, off, none⟩) (hs : Steps w b off m S) (hm : m ≤ 256) :
    Calls Yblm.prog 42 #[.slice a m c] w fun e w' => ∃ v, e = .returned (.tuple #[.pointer (some ⟨w.heap.size, 0, none⟩), v]) ∧ ∃ h T, TrieAt w' w.heap.size w.heap.size h T ∧ ∃ P, Tree T P ∧ w'.ownsRow w.heap.size 9 1 v P.length (P.map Sv) ∧ P.length ≤ m ∧ Below w.heap.size w w' := by
  have HA := hide2 ha
  have HS := hide2 hs
  clear ha hs
  go_enter Yblm.func42, Yblm.ntmps42
  go_wp2
  generalize hB : w.heap.size = B at *
  have hBw : B ≤ w.heap.size := by omega
  have HB := hide2 hB
  clear hB
  go_loopw [5, 6] (fun v i wr => ∃ (k : Nat) (x : Option Addr) (y : Nat) (h : Hd) (T : TT) (P : List Str), i = .int .i64 k ∧ k ≤ m ∧ v = .slice x P.length y ∧ TrieAt wr B B h T ∧ Tree T P ∧ wr.ownsRow B 9 1 v P.length (P.map Sv) ∧ P.length ≤ k ∧ Below B w wr) (fun _ i _ => m - (intOf i).toNat)
  case atStart =>
    have hB := HB.out
    subst hB
    refine ⟨0, _, _, _, TT.none, [], rfl, Nat.zero_le _, rfl, (trie_new w w.heap.size (Nat.le_refl _)).alloc _, tree_none, ?_, Nat.zero_le _, ((Below.refl _ w).alloc (Nat.le_refl _) _).alloc (by simp) _⟩
    have := own_empty (w.alloc (.cells #[.slice none 0 0, .slice none 0 0, .slice none 0 0] 29)) w.heap.size (by simp)
    simpa using this
  case round =>
    obtain ⟨k, x0, y0, h, T, P, rfl, hk, rfl, t, tr, own, hP, bel⟩ := hrel
    by_cases hlt : k < m
    · have hea := HA.out (by omega)
      subst hea
      have hlen := tr.len
      have hsb := HS.out.lt (by omega)
      have d0 := (bel.cell (p := ⟨b, off + k * 2, none⟩) (by show b < B; have := HB.out; omega)).trans (HS.out.c0 k hlt)
      have d1 := (bel.cell (p := ⟨b, off + k * 2 + 1, none⟩) (by show b < B; have := HB.out; omega)).trans (HS.out.c1 k hlt)
      have r0 := HS.out.r0 k hlt
      have r1 := HS.out.r1 k hlt
      generalize (S.getD k (0, 0)).1 = pr at d0 r0
      generalize (S.getD k (0, 0)).2 = lr at d1 r1
      have hwr : B ≤ wr.heap.size := by have := bel.size; omega
      have TR := hide2 tr
      have T0 := hide2 t
      have OW := hide2 own
      have HL := hide2 hlen
      clear tr t own hlen
      go_upto_if 23 with (fail)
      go_cut [8] (fun s8 wc => ∃ (T1 : TT) (h1 : Hd) (xp : Str), s8 = Sv xp ∧ TrieAt wc B B h1 T1 ∧ T1.wd.length = P.length ∧ Tree T1.grow (P ++ [xp]) ∧ wc.ownsRow B 9 1 (.slice x0 P.length y0) P.length (P.map Sv) ∧ Below B w wc)
      case first =>
        by_cases h0 : P.length = 0
        · have hfin : Tree T.grow (P ++ [[]]) := by
            have e1 : P = [] := List.length_eq_zero_iff.1 h0
            have e2 : T = TT.none := by
              have a1 := nxlen T0.out
              have a2 := bllen T0.out
              have a3 := HL.out
              obtain ⟨nx, wd, bl⟩ := T
              rw [e1] at a3
              simp at a1 a2 a3
              subst a3
              simp at a1 a2
              subst a1 a2
              rfl
            rw [e1, e2]
            exact tree_root
          have HF := hide2 hfin
          have h0' : ¬ 0 < P.length := by omega
          clear hfin h0
          go_wp2
          go_meet
          case rel => exact ⟨T, h, [], rfl, T0.out, HL.out, HF.out, OW.out, bel⟩
        · have h0' : 0 < P.length := by omega
          obtain ⟨gN, cN, gW, cW, gB, cB, rfl⟩ := to_hd T0.out (by have := HL.out; omega)
          have t := T0.out
          rw [HL.out] at t
          have vw := hd_view HL.out t
          obtain ⟨pp, hpp, hpn⟩ : ∃ pp : Nat, (pr : Int) % (P.length : Int) = (pp : Int) ∧ pp < P.length := ⟨pr % P.length, by simp, Nat.mod_lt _ (by omega)⟩
          obtain ⟨ll, hll, hl26⟩ : ∃ ll : Nat, (lr : Int) % 26 = (ll : Int) ∧ ll < 26 := ⟨lr % 26, by simp, Nat.mod_lt _ (by omega)⟩
          have c0 := vw.c0
          have hc := vw.N (pp) (ll) hpn hl26
          have hf := vw.fN (pp * 26 + ll)
          by_cases hz : T.nxt (pp) (ll) = 0
          · have hfree := hz
            rw [hz] at hc
            have hnx := nxlen T0.out
            have tr2 := TR.out.add hnx hpn hl26 hfree
            rw [← TT.add_eq T _ _ (by rw [hnx, HL.out]; omega), HL.out] at tr2
            obtain ⟨t1, s1⟩ := hd_setN HL.out t (pp * 26 + ll) T.wd.length
            have own1 := own_stp t OW.out s1
            have b1 : Below B w (wr.setCell ⟨gN, pp * 26 + ll, none⟩ (.int .i64 P.length)) := by
              rw [HL.out] at s1
              exact bel.trans (s1.t.below (fun k hk => (t.foot_lt k hk).1) hwr)
            rw [HL.out] at t1 own1
            obtain ⟨gp, kp, hep, _, hgl⟩ := OW.out.form h0'
            obtain ⟨rfl, rfl⟩ : x0 = some ⟨gp, 0, none⟩ ∧ y0 = kp := by simpa using hep
            have hcp := own_cell own1 (pp) _ (getD_map_sv P _ hpn)
            have hpl := TR.out.paths.len_le _ hpn
            have T1 := hide2 t1
            have O1 := hide2 own1
            have HT2 := hide2 tr2
            have HLT := HL
            clear t1 own1 tr2 hfree hz vw t hnx hep s1
            generalize hsp : P.getD (pp) [] = sp at hcp hpl HT2
            have HSP := hide2 hsp
            clear hsp
            go_wp2
            generalize hX : wr.setCell ⟨gN, pp * 26 + ll, none⟩ (.int .i64 P.length) = X at *
            have q1 : gp < X.heap.size := (O1.out.lt gp rfl).2
            have rl := run_letter ll X.heap.size ((X.alloc (.cells #[.int .u8 (97 + (ll : Int))] 5)).drew) (by simp)
            have hcl : ¬ (9223372036854775807 < List.length sp + 1) := by omega
            have rw1 : IntKind.i64.wrap (97 + (ll : Int)) = 97 + (ll : Int) := by rw [IntKind.wrap_i64]; omega
            have rw2 : IntKind.u8.wrap (97 + (ll : Int)) = 97 + (ll : Int) := by rw [IntKind.wrap_u8]; omega
            have z1 : (0 : Int) ≤ (pp : Int) := by omega
            have z2 : (pp : Int) < (P.length : Int) := by omega
            clear hX hc hf c0 hpp hll d0 d1
            go_region_with (fail)
            all_goals
              go_wp2
              go_meet
              case rel => exact ⟨_, _, sp ++ [ltr ll], by rw [sv_append1], (T1.out.alloc _).drew, HL.out, HT2.out, (O1.out.alloc _).drew, (b1.alloc (by have := b1.size; omega) _).drew⟩
          · have hzb : (T.nxt (pp) (ll) != 0) = true := by rw [bne_iff_ne]; exact hz
            clear hz
            generalize T.nxt (pp) (ll) = nk at hc hzb
            go_wp2
            go_roundw
            case rel => exact ⟨k + 1, x0, y0, _, T, P, by go_num, by omega, rfl, T0.out, TR.out, OW.out, by omega, bel⟩
            case measure => simp [intOf]; omega
      case rest =>
        obtain ⟨T1, ⟨vN, vW, vB⟩, xp, rfl, t1, hl1, tr1, own1, bel1⟩ := hcut
        have hw1 : B ≤ wc.heap.size := by have := bel1.size; omega
        obtain ⟨aN, cN, e1⟩ := ownsRow_slice t1.rN
        obtain ⟨aW, cW, e2⟩ := ownsRow_slice t1.rW
        obtain ⟨aB, cB, e3⟩ := ownsRow_slice t1.rB
        dsimp only at e1 e2 e3
        rw [hl1] at e1 e2 e3
        subst e1 e2 e3
        have t2 : TA wc B B ⟨.slice aN P.length cN, .slice aW P.length cW, .slice aB P.length cB⟩ P.length P.length P.length (T1.nx.map (.int .i64)) (T1.wd.map .bool) (T1.bl.map (.int .i64)) := by
          have := t1
          unfold TrieAt at this
          rw [hl1] at this
          exact this
        have OW1 := hide2 own1
        have TR1 := hide2 tr1
        have HL1 := hide2 hl1
        clear own1 tr1 hl1 t1 d0 d1 r0 r1 T0 OW TR
        obtain ⟨i27, hi27, hz27, hs27, hb27⟩ := info_parts infoRow
        obtain ⟨i4, hi4, hz4, hs4, hb4⟩ := info_parts infoBool
        obtain ⟨i3, hi3, hz3, hs3, hb3⟩ := info_parts infoInt
        have m0 := t2.mid.c0
        have rN := t2.rN
        dsimp only at m0 rN
        go_wp2_with (first
          | (at_builtin; go_must (refine wpList_append_lies _ rfl (.tmp 72) (.tmp 74) 22 rfl B 24 i27 _ 26 208 Yblm.underlying22 hi27 hz27 hs27 hb27 (by rfl) (by decide) _ P.length _ rfl (rN.alloc _) ⟨wc.heap.size, 0, none⟩ 1 1 zrow rfl rfl (zrow_news wc _ rfl) zrow_one (by decide) (by unfold maxLen; omega) (by omega) (by simp; omega) _ rfl ?_)))
        intro g1 k1 w1 ow1 gr1 at1 lt1
        have M := t2.midN gr1
        obtain ⟨u1, s1⟩ := t2.stepN gr1 ow1 (by simpa using at1)
        obtain ⟨M0, M1, M2, F0, F1, F2⟩ := M
        dsimp only at M0 M1 M2 u1 s1
        have hz1 : wc.heap.size ≤ w1.heap.size := by simpa using s1.t.size
        have rW1 := u1.rW
        dsimp only at rW1
        clear ow1 gr1 at1 m0 rN
        go_wp2_with (first
          | (at_builtin; go_must (refine wpList_append_lies _ rfl (.tmp 82) (.tmp 83) 26 rfl B 4 i4 _ 1 1 Yblm.underlying26 hi4 hz4 hs4 hb4 (by rfl) (by decide) _ P.length _ rfl (rW1.alloc _) ⟨w1.heap.size, 0, none⟩ 1 1 [.bool false] rfl rfl (news1 _ _ _ _ (by simp)) (one1 rfl) (by decide) (by unfold maxLen; omega) (by omega) (by simp; omega) _ rfl ?_)))
        intro g2 k2 w2 ow2 gr2 at2 lt2
        have M := u1.midW gr2
        obtain ⟨u2, s2⟩ := u1.stepW gr2 ow2 (by simpa using at2)
        obtain ⟨N0, N1, N2, G0, G1, G2⟩ := M
        dsimp only at N0 N1 N2 u2 s2
        have hz2 : w1.heap.size ≤ w2.heap.size := by simpa using s2.t.size
        have rB2 := u2.rB
        dsimp only at rB2
        clear ow2 gr2 at2 rW1 M0 M1 M2 F0 F1 F2
        go_wp2_with (first
          | (at_builtin; go_must (refine wpList_append_lies _ rfl (.tmp 91) (.tmp 92) 27 rfl B 3 i3 _ 1 8 Yblm.underlying27 hi3 hz3 hs3 hb3 (by rfl) (by decide) _ P.length _ rfl (rB2.alloc _) ⟨w2.heap.size, 0, none⟩ 1 1 [.int .i64 0] rfl rfl (news1 _ _ _ _ (by simp)) (one1 rfl) (by decide) (by unfold maxLen; omega) (by omega) (by simp; omega) _ rfl ?_)))
        intro g3 k3 w3 ow3 gr3 at3 lt3
        have M := u2.midB gr3
        obtain ⟨u3, s3⟩ := u2.stepB gr3 ow3 (by simpa using at3)
        obtain ⟨O0, O1, O2, J0, J1, J2⟩ := M
        dsimp only at O0 O1 O2 u3 s3
        have s13 := (s1.trans s2).trans s3
        have own4 := own_stp t2 OW1.out s13
        have b4 : Below B w (w3.setCell ⟨B, 2, none⟩ (.slice (some ⟨g3, 0, none⟩) (P.length + 1) k3)) := bel1.trans (s13.t.below (fun k hk => (t2.foot_lt k hk).1) hw1)
        have hw4 : B ≤ (w3.setCell ⟨B, 2, none⟩ (.slice (some ⟨g3, 0, none⟩) (P.length + 1) k3)).heap.size := by have := b4.size; omega
        have t4 : TrieAt (w3.setCell ⟨B, 2, none⟩ (.slice (some ⟨g3, 0, none⟩) (P.length + 1) k3)) B B ⟨.slice (some ⟨g1, 0, none⟩) (P.length + 1) k1, .slice (some ⟨g2, 0, none⟩) (P.length + 1) k2, .slice (some ⟨g3, 0, none⟩) (P.length + 1) k3⟩ T1.grow := by
          have := u3
          rw [← HL1.out] at this
          simpa [TrieAt, TT.grow, zrow, HL1.out] using this
        have T4 := hide2 t4
        have O4 := hide2 own4
        clear ow3 gr3 at3 rB2 N0 N1 N2 G0 G1 G2 s1 s2 s3 u1 u2 u3 t4 own4
        go_wp2_with (at_builtin; go_must (refine wpList_app_str (.tmp 96) (.tmp 98) rfl rfl B _ _ _ rfl O4.out xp w3.heap.size (by simp) rfl (by omega) hw4 ?_))
        intro g5 k5 w5 ow5 st5
        go_wp2
        go_roundw
        case rel =>
          refine ⟨k + 1, some ⟨g5, 0, none⟩, k5, _, T1.grow, P ++ [xp], by go_num, by omega, by rw [List.length_append]; rfl, T4.out.lst O4.out st5, TR1.out, ?_, by rw [List.length_append]; simp; omega, b4.trans (st5.toBelow (fun k hk => (O4.out.lt k hk).1) hw4)⟩
          rw [List.map_append, List.length_append]
          exact ow5
        case measure => simp [intOf]; omega
    · have hB := HB.out
      subst hB
      have T0 := hide2 t
      clear t
      go_wp2
      go_ret2
      exact ⟨_, rfl, _, T, T0.out, P, tr, own, by omega, bel⟩
end Go.Proofs.Ymbrbl
