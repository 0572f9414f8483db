/-
  Valid, Has, CountPrefix over a Trie that holds a set of words. Own text.
-/
import Derived.Test.YmbrbmWords
namespace Go.Proofs.Ymbrbm
open Go.RowKit

theorem valid_no {w : Str} {k : Nat} (hk : k < w.length) (h : w[k].toNat < 97 ∨ 122 < w[k].toNat) : valid w = false := by
  unfold valid
  rw [List.all_eq_false]
  refine ⟨w[k], List.getElem_mem hk, ?_⟩
  simp
  omega
theorem valid_snoc (w : Str) (k : Nat) (hk : k < w.length) : valid (w.take (k + 1)) = (valid (w.take k) && (97 ≤ w[k].toNat && w[k].toNat ≤ 122)) := by
  unfold valid
  rw [List.take_succ_eq_append_getElem hk, List.all_append]
  simp

set_option maxRecDepth 100000 in
set_option maxHeartbeats 400000 in
theorem valid_calls (q : Str) (w : World) (hq : q.length ≤ maxLen) :
    Calls Ybmm.prog 40 #[Sv q] w fun e w' => e = .returned (.bool (valid q)) ∧ w' = w := by
  unfold maxLen at hq
  go_enter Ybmm.func40, Ybmm.ntmps40
  go_wp2
  go_loop [3] (fun i => ∃ k : Nat, i = .int .i64 k ∧ k ≤ q.length ∧ valid (q.take k) = true) (fun i => q.length - (intOf i).toNat)
  case atStart => exact ⟨0, rfl, Nat.zero_le _, rfl⟩
  case round =>
    obtain ⟨k, rfl, hk, hv⟩ := hrel
    have HV := hide2 hv
    clear hv
    by_cases hlt : k < q.length
    · have hsz : k < (⟨q.toArray⟩ : ByteArray).size := hlt
      by_cases h1 : ((⟨q.toArray⟩ : ByteArray)[k]'hsz).toNat < 97
      · have hno := valid_no hlt (.inl h1)
        have HN := hide2 hno
        clear hno
        go_wp2
        go_ret
        exact ⟨by rw [HN.out]; rfl, rfl⟩
      · by_cases h2 : 122 < ((⟨q.toArray⟩ : ByteArray)[k]'hsz).toNat
        · have hno := valid_no hlt (.inr h2)
          have HN := hide2 hno
          clear hno
          go_wp2
          go_ret
          exact ⟨by rw [HN.out]; rfl, rfl⟩
        · have hyes : valid (q.take (k + 1)) = true := by
            have h3 : ¬ q[k].toNat < 97 := h1
            have h4 : ¬ 122 < q[k].toNat := h2
            rw [valid_snoc q k hlt, HV.out]
            simp
            omega
          have HY := hide2 hyes
          clear hyes
          go_wp2
          go_round
          case rel => exact ⟨k + 1, by go_num, by omega, HY.out⟩
          case measure => simp [intOf]; omega
    · have hyes : valid q = true := by
        have := HV.out
        rwa [List.take_of_length_le (by omega)] at this
      have HY := hide2 hyes
      clear hyes
      go_wp2
      go_ret
      exact ⟨by rw [HY.out]; rfl, rfl⟩

set_option maxRecDepth 100000 in
set_option maxHeartbeats 400000 in
theorem has_calls (B p : Nat) (h : Hd) (T : TT) (P S : List Str) (q : Str) (w : World) (t : TrieAt w B p h T) (G : Good T P S) (hq : q.length ≤ maxLen) :
    Calls Ybmm.prog 28 #[.pointer (some ⟨p, 0, none⟩), Sv q] w fun e w' => e = .returned (.bool (decide (q ∈ S))) ∧ w' = w := by
  have fn := find_T B p h T P q w t G.tree hq
  have hlen := G.tree.len
  cases hm : ix P q with
  | none =>
    rw [hm] at fn
    have hno : decide (q ∈ S) = false := decide_eq_false (fun hs => ix_none.1 hm (G.sub _ hs))
    rw [hno]
    have FN := hide2 fn
    clear fn G t hno hm hlen
    go_enter Ybmm.func28, Ybmm.ntmps28
    go_wp2_with (go_at_call 19; refine FN.out.mono ?_; rintro e w' ⟨rfl, rfl⟩)
    go_ret
    exact ⟨rfl, rfl⟩
  | some n =>
    rw [hm] at fn
    obtain ⟨h1, h2⟩ := ix_some hm
    obtain ⟨gN, cN, gW, cW, gB, cB, rfl⟩ := to_hd t (by omega)
    have vw := hd_view rfl t
    have c1 := vw.c1
    have hc := vw.W n (by omega)
    rw [G.wd n h1, h2] at hc
    have hn : n < T.wd.length := by omega
    have FN := hide2 fn
    clear fn G t hm vw h1 h2
    generalize decide (q ∈ S) = bb at *
    go_enter Ybmm.func28, Ybmm.ntmps28
    go_wp2_with (go_at_call 19; refine FN.out.mono ?_; rintro e w' ⟨rfl, rfl⟩)
    go_ret
    exact ⟨rfl, rfl⟩

set_option maxRecDepth 100000 in
set_option maxHeartbeats 400000 in
theorem count_calls (B p : Nat) (h : Hd) (T : TT) (P S : List Str) (q : Str) (w : World) (t : TrieAt w B p h T) (G : Good T P S) (hq : q.length ≤ maxLen) :
    Calls Ybmm.prog 25 #[.pointer (some ⟨p, 0, none⟩), Sv q] w fun e w' => e = .returned (.int .i64 (cnt S q)) ∧ w' = w := by
  have fn := find_T B p h T P q w t G.tree hq
  have hlen := G.tree.len
  cases hm : ix P q with
  | none =>
    rw [hm] at fn
    have hno : cnt S q = 0 := cnt_zero G.tree.paths G.sub (ix_none.1 hm)
    rw [hno]
    have FN := hide2 fn
    clear fn G t hno hm hlen
    go_enter Ybmm.func25, Ybmm.ntmps25
    go_wp2_with (go_at_call 19; refine FN.out.mono ?_; rintro e w' ⟨rfl, rfl⟩)
    go_ret
    exact ⟨rfl, rfl⟩
  | some n =>
    rw [hm] at fn
    obtain ⟨h1, h2⟩ := ix_some hm
    obtain ⟨gN, cN, gW, cW, gB, cB, rfl⟩ := to_hd t (by omega)
    have vw := hd_view rfl t
    have c2 := vw.c2
    have hc := vw.B n (by omega)
    rw [G.bl n h1, h2] at hc
    have hn : n < T.wd.length := by omega
    have FN := hide2 fn
    clear fn G t hm vw h1 h2
    generalize cnt S q = bb at *
    go_enter Ybmm.func25, Ybmm.ntmps25
    go_wp2_with (go_at_call 19; refine FN.out.mono ?_; rintro e w' ⟨rfl, rfl⟩)
    go_ret
    exact ⟨rfl, rfl⟩
end Go.Proofs.Ymbrbm
