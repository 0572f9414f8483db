/-
  Rank over a Trie that holds a set of words. Own text.
-/
import Derived.Test.YmbrbmSelect
namespace Go.Proofs.Ymbrbm
open Go.RowKit

theorem rk_le (S : List Str) (p x : Str) : rk S p x ≤ cnt S p := by
  unfold rk cnt
  refine List.countP_mono_left (fun y _ h => ?_)
  rw [Bool.and_eq_true] at h
  exact h.1
theorem Good.lets {T : TT} {P S : List Str} (G : Good T P S) (p : Str) : ∀ d t, p ++ d :: t ∈ S → 97 ≤ d.toNat ∧ d.toNat ≤ 122 := by
  intro d t hd
  have h1 : p ++ [d] ∈ P := by
    have := G.tree.paths.take_mem (G.sub _ hd) (p.length + 1)
    rw [show p ++ d :: t = (p ++ [d]) ++ t by simp] at this
    rwa [List.take_left' (by simp)] at this
  obtain ⟨l, hl, rfl⟩ := G.tree.paths.letter h1
  rw [ltr_toNat hl]
  omega

set_option maxRecDepth 100000 in
set_option maxHeartbeats 1000000 in
theorem rank_calls (B p : Nat) (h : Hd) (T : TT) (P S : List Str) (s : Str) (w : World) (t : TrieAt w B p h T) (G : Good T P S) (hs : s.length ≤ maxLen) (hS : S.length ≤ 1000000) :
    Calls Ybmm.prog 26 #[.pointer (some ⟨p, 0, none⟩), Sv s] w fun e w' => e = .returned (.int .i64 (rk S [] s : Nat)) ∧ w' = w := by
  unfold maxLen at hs
  have hlen := G.tree.len
  by_cases h0 : P.length = 0
  · have hS0 : S = [] := by
      rcases S with _ | ⟨y, S⟩
      · rfl
      · have := G.sub y (by simp); rw [List.length_eq_zero_iff.1 h0] at this; simp at this
    have hz : rk S [] s = 0 := by rw [hS0]; rfl
    rw [hz]
    obtain ⟨vN, vW, vB⟩ := h
    obtain ⟨aN, cN, e1⟩ := ownsRow_slice t.rN
    dsimp only at e1
    subst e1
    have c0 := t.mid.c0
    dsimp only at c0
    have hb : ((T.wd.length : Int) == 0) = true := beq_iff_eq.2 (by omega)
    clear t G hlen h0 hz
    go_enter Ybmm.func26, Ybmm.ntmps26
    go_wp2
    go_ret
    exact ⟨rfl, rfl⟩
  · obtain ⟨gN, cN, gW, cW, gB, cB, rfl⟩ := to_hd t (by omega)
    have vw := hd_view rfl t
    have c0 := vw.c0
    have c1 := vw.c1
    have hb : ((T.wd.length : Int) == 0) = false := beq_eq_false_iff_ne.2 (by omega)
    have hroot := G.tree.paths.root (by omega)
    have htot : rk S [] s ≤ S.length := Nat.le_trans (rk_le S [] s) (cnt_le S [])
    obtain ⟨tot, htt⟩ : ∃ tot, rk S [] s = tot := ⟨_, rfl⟩
    rw [htt] at htot ⊢
    have HTT := hide2 htt
    have HG := hide2 G
    have T0 := hide2 t
    have VW := hide2 vw
    have HL := hide2 hlen
    have HR := hide2 hroot
    clear G t vw hlen hroot htt
    go_enter Ybmm.func26, Ybmm.ntmps26
    go_wp2
    clear c0
    go_loop [5, 6, 7] (fun nv rv iv => ∃ k n r : Nat, iv = .int .i64 k ∧ k ≤ s.length ∧ nv = .int .i64 n ∧ ix P (s.take k) = some n ∧ rv = .int .i64 r ∧ r + rk S (s.take k) s = tot) (fun _ _ iv => s.length - (intOf iv).toNat)
    case atStart =>
      refine ⟨0, 0, 0, rfl, Nat.zero_le _, rfl, ?_, rfl, by rw [List.take_zero, HTT.out, Nat.zero_add]⟩
      have := ix_of HG.out.tree.paths.nodup (show 0 < P.length by omega)
      rw [HR.out] at this
      simpa using this
    case round =>
      obtain ⟨k, n, r, rfl, hk, rfl, hix, rfl, hr⟩ := hrel
      obtain ⟨hn1, hn2⟩ := ix_some hix
      have hnw : n < T.wd.length := by have := HL.out; omega
      by_cases hlt : k < s.length
      · have hsz : k < (⟨s.toArray⟩ : ByteArray).size := hlt
        obtain ⟨c, hc⟩ : ∃ c : UInt8, ((⟨s.toArray⟩ : ByteArray)[k]'hsz) = c := ⟨_, rfl⟩
        have hc2 : s[k] = c := hc
        have hcl := c.toNat_lt
        obtain ⟨pp, hpp⟩ : ∃ pp, s.take k = pp := ⟨_, rfl⟩
        have et : pp ++ [c] = s.take (k + 1) := by rw [← hpp, ← hc2]; exact (List.take_succ_eq_append_getElem hlt).symm
        have hsx : s = pp ++ c :: s.drop (k + 1) := by
          conv => lhs; rw [← List.take_append_drop (k + 1) s, ← et]
          rw [List.append_assoc]; rfl
        have hstep := rk_step HG.out.nodup pp c (s.drop (k + 1)) (HG.out.lets pp)
        rw [← hsx, et] at hstep
        rw [hpp] at hix hr hn2
        have hw := VW.out.W n hnw
        rw [HG.out.wd n hn1, hn2] at hw
        have ch := child_T B p _ T P n pp c w T0.out HG.out.tree hix
        rw [et] at ch
        obtain ⟨k2, hk2⟩ : ∃ k2, rk S (s.take (k + 1)) s = k2 := ⟨_, rfl⟩
        have hkz : ix P (s.take (k + 1)) = none → k2 = 0 := by
          intro e
          have h1 := rk_le S (s.take (k + 1)) s
          have h2 := cnt_zero HG.out.tree.paths HG.out.sub (ix_none.1 e)
          omega
        rw [hk2] at hstep
        obtain ⟨bb, hbb⟩ : ∃ bb, decide (pp ∈ S) = bb := ⟨_, rfl⟩
        rw [hbb] at hw
        obtain ⟨r1, hr1, hcase⟩ : ∃ r1, r1 + wsum S pp (lo c) + k2 = tot ∧ ((bb = false ∧ r1 = r) ∨ (bb = true ∧ r1 = r + 1)) := by
          by_cases hin : pp ∈ S
          · rw [if_pos hin] at hstep
            exact ⟨r + 1, by omega, .inr ⟨by rw [← hbb]; exact decide_eq_true hin, rfl⟩⟩
          · rw [if_neg hin] at hstep
            exact ⟨r, by omega, .inl ⟨by rw [← hbb]; exact decide_eq_false hin, rfl⟩⟩
        have CH := hide2 ch
        have HN2 := hide2 hn2
        have HK2 := hide2 hk2
        have HKZ := hide2 hkz
        have hlo := lo_le c
        have hlo2 : ∀ l, l < lo c ↔ l < 26 ∧ 97 + l < c.toNat := fun l => by unfold lo; omega
        have HLO2 := hide2 hlo2
        have hrb : r1 ≤ 1000000 := by omega
        clear hpp et hsx hstep hix hr hn2 ch hk2 hkz hbb hc2 hlo2
        rcases hcase with ⟨rfl, hrr⟩ | ⟨rfl, hrr⟩
        all_goals
          have hrb2 : r ≤ 1000000 := by omega
          have HRR := hide2 hrr
          clear hrr
          go_wp2
          go_loop [6, 8] (fun rv lv => ∃ l : Nat, lv = .int .i64 l ∧ l ≤ lo c ∧ rv = .int .i64 ((r1 + wsum S pp l : Nat) : Int)) (fun _ lv => lo c - (intOf lv).toNat)
          case atStart => exact ⟨0, rfl, Nat.zero_le _, by rw [HRR.out]; simp [wsum]⟩
          case round =>
            obtain ⟨l, rfl, hl, rfl⟩ := hrel
            have hlo3 := HLO2.out l
            have hwl : wsum S pp l ≤ wsum S pp (lo c) := wsum_mono S pp hl
            obtain ⟨ws, hws⟩ : ∃ ws, wsum S pp l = ws := ⟨_, rfl⟩
            by_cases hll : l < lo c
            · obtain ⟨l26, lc⟩ := hlo3.1 hll
              have wt := weight_T B p _ T n l w T0.out hnw l26 (HG.out.tree.ok n hn1)
              rw [HG.out.wgt hn1 l26, HN2.out] at wt
              have hsucc : wsum S pp (l + 1) = wsum S pp l + cnt S (pp ++ [ltr l]) := rfl
              have hmono : wsum S pp (l + 1) ≤ wsum S pp (lo c) := wsum_mono S pp hll
              rw [hws] at hsucc hwl ⊢
              have WT := hide2 wt
              have HSU := hide2 hsucc
              have hdb : cnt S (pp ++ [ltr l]) ≤ 1000000 := by omega
              clear wt hsucc hmono hws hlo3
              generalize cnt S (pp ++ [ltr l]) = d at *
              obtain ⟨rr, hrr⟩ : ∃ rr, r1 + ws = rr := ⟨_, rfl⟩
              have hrr2 : rr ≤ 1000000 := by omega
              have hrr3 : r1 + (ws + d) = rr + d := by omega
              rw [hrr]
              clear hrr
              go_wp2_with (go_at_call 46; refine WT.out.mono ?_; rintro e w' ⟨rfl, he⟩; obtain rfl := he.symm)
              go_round
              case rel =>
                refine ⟨l + 1, by go_num, by omega, ?_⟩
                rw [HSU.out, hrr3]
                simp
              case measure => simp [intOf]; omega
            · obtain rfl : l = lo c := by omega
              obtain ⟨rr, hrr⟩ : ∃ rr, r1 + wsum S pp (lo c) = rr := ⟨_, rfl⟩
              rw [hrr] at hr1 ⊢
              have hcond : (lo c < 26 ∧ ¬ 97 + lo c < c.toNat) ∨ ¬ lo c < 26 := by omega
              have HRR2 := hide2 hrr
              clear hrr hws hwl hlo3
              generalize lo c = lc at *
              cases hm : ix P (s.take (k + 1)) with
              | none =>
                have hz := HKZ.out hm
                rw [hm] at CH
                have hrt : rr = tot := by omega
                subst hrt
                rcases hcond with ⟨h1, h2⟩ | h1
                all_goals
                  go_wp2_with (go_at_call 21; refine CH.out.mono ?_; rintro e w' ⟨rfl, he⟩; obtain rfl := he.symm)
                  go_ret
                  exact ⟨rfl, rfl⟩
              | some m =>
                rw [hm] at CH
                have HM := hide2 hm
                clear hm
                rcases hcond with ⟨h1, h2⟩ | h1
                all_goals
                  go_wp2_with (go_at_call 21; refine CH.out.mono ?_; rintro e w' ⟨rfl, he⟩; obtain rfl := he.symm)
                  go_round
                  case rel => exact ⟨k + 1, m, rr, by go_num, by omega, by simp, HM.out, rfl, by rw [HK2.out]; exact hr1⟩
                  case measure => simp [intOf]; omega
      · have hall : s.take k = s := List.take_of_length_le (by omega)
        rw [hall, rk_self, Nat.add_zero] at hr
        subst hr
        clear hall
        go_wp2
        go_ret
        exact ⟨rfl, rfl⟩
end Go.Proofs.Ymbrbm
