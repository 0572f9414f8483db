import Derived.Test.YmbrbmMem
namespace Go.Proofs.Ymbrbm
open Go.RowKit

def TT.grow (T : TT) : TT := ⟨T.nx ++ List.replicate 26 0, T.wd ++ [false], T.bl ++ [0]⟩

set_option maxHeartbeats 400000 in
theorem grow_core (B p n : Nat) (aN aW aB : Option Addr) (cN cW cB : Nat) (xN xW xB : List Value) (w : World)
    (t : TA w B p ⟨.slice aN n cN, .slice aW n cW, .slice aB n cB⟩ n n n xN xW xB)
    (hn : n ≤ 1000000000) (hb : B ≤ w.heap.size) :
    Calls Ybmm.prog 41 #[.pointer (some ⟨p, 0, none⟩)] w fun e w' => e = .returned (.int .i64 n) ∧ ∃ h', TA w' B p h' (n + 1) (n + 1) (n + 1) (xN ++ zrow) (xW ++ [.bool false]) (xB ++ [.int .i64 0]) ∧
      Stp p ⟨.slice aN n cN, .slice aW n cW, .slice aB n cB⟩ w h' w' := by
  obtain ⟨i27, hi27, hz27, hs27, hb27⟩ := info_parts infoRow
  obtain ⟨i4, hi4, hz4, hs4, hb4⟩ := info_parts infoBool
  obtain ⟨i3, hi3, hz3, hs3, hb3⟩ := info_parts infoInt
  have m0 := t.mid.c0
  have rN := t.rN
  dsimp only at m0 rN
  go_enter Ybmm.func41, Ybmm.ntmps41
  go_wp2_with (first
    | (at_builtin; refine wpList_append_lies _ rfl (.tmp 13) (.tmp 15) 25 rfl B 69 i27 _ 26 208 Ybmm.underlying25 hi27 hz27 hs27 hb27 (by rfl) (by decide) _ n _ rfl (rN.alloc _) ⟨w.heap.size, 0, none⟩ 1 1 zrow rfl rfl (zrow_news w _ rfl) zrow_one (by decide) (by unfold maxLen; omega) (by omega) (by simp; omega) _ rfl ?_))
  intro g1 k1 w1 own1 gr1 at1 lt1
  have M := t.midN gr1
  obtain ⟨t1, s1⟩ := t.stepN gr1 own1 (by simpa using at1)
  obtain ⟨M0, M1, M2, F0, F1, F2⟩ := M
  dsimp only at M0 M1 M2 t1 s1
  have hz1 : w.heap.size ≤ w1.heap.size := by simpa using s1.t.size
  have rW1 := t1.rW
  dsimp only at rW1
  clear own1 gr1 at1 m0 rN
  go_wp2_with (first
    | (at_builtin; go_must (refine wpList_append_lies _ rfl (.tmp 23) (.tmp 24) 26 rfl B 4 i4 _ 1 1 Ybmm.underlying26 hi4 hz4 hs4 hb4 (by rfl) (by decide) _ n _ rfl (rW1.alloc _) ⟨w1.heap.size, 0, none⟩ 1 1 [.bool false] rfl rfl (news1 _ _ _ _ (by simp)) (one1 rfl) (by decide) (by unfold maxLen; omega) (by omega) (by simp; omega) _ rfl ?_)))
  intro g2 k2 w2 own2 gr2 at2 lt2
  have M := t1.midW gr2
  obtain ⟨t2, s2⟩ := t1.stepW gr2 own2 (by simpa using at2)
  obtain ⟨N0, N1, N2, G0, G1, G2⟩ := M
  dsimp only at N0 N1 N2 t2 s2
  have hz2 : w1.heap.size ≤ w2.heap.size := by simpa using s2.t.size
  have rB2 := t2.rB
  dsimp only at rB2
  clear own2 gr2 at2 rW1 M0 M1 M2 F0 F1 F2
  go_wp2_with (first
    | (at_builtin; go_must (refine wpList_append_lies _ rfl (.tmp 32) (.tmp 33) 27 rfl B 3 i3 _ 1 8 Ybmm.underlying27 hi3 hz3 hs3 hb3 (by rfl) (by decide) _ n _ rfl (rB2.alloc _) ⟨w2.heap.size, 0, none⟩ 1 1 [.int .i64 0] rfl rfl (news1 _ _ _ _ (by simp)) (one1 rfl) (by decide) (by unfold maxLen; omega) (by omega) (by simp; omega) _ rfl ?_)))
  intro g3 k3 w3 own3 gr3 at3 lt3
  have M := t2.midB gr3
  obtain ⟨t3, s3⟩ := t2.stepB gr3 own3 (by simpa using at3)
  obtain ⟨O0, O1, O2, J0, J1, J2⟩ := M
  dsimp only at O0 O1 O2 t3 s3
  clear own3 gr3 at3 rB2 N0 N1 N2 G0 G1 G2
  go_wp2
  go_ret
  exact ⟨rfl, _, t3, (s1.trans s2).trans s3⟩

theorem grow_calls (B p : Nat) (h : Hd) (T : TT) (w : World) (t : TrieAt w B p h T) (hn : T.wd.length ≤ 1000000000) (hb : B ≤ w.heap.size) :
    Calls Ybmm.prog 41 #[.pointer (some ⟨p, 0, none⟩)] w fun e w' => e = .returned (.int .i64 T.wd.length) ∧ ∃ h', TrieAt w' B p h' T.grow ∧ Stp p h w h' w' := by
  obtain ⟨vN, vW, vB⟩ := h
  obtain ⟨aN, cN, rfl⟩ := ownsRow_slice t.rN
  obtain ⟨aW, cW, rfl⟩ := ownsRow_slice t.rW
  obtain ⟨aB, cB, rfl⟩ := ownsRow_slice t.rB
  refine (grow_core B p T.wd.length aN aW aB cN cW cB _ _ _ w t hn hb).mono ?_
  rintro e w' ⟨he, h', t', s'⟩
  refine ⟨he, h', ?_, s'⟩
  simpa [TrieAt, TT.grow, zrow] using t'
end Go.Proofs.Ymbrbm
