/-
  Select over a Trie that holds a set of words. Own text.
-/
import Derived.Test.YmbrblRanks
import Derived.Test.YmbrblBytes
import Derived.Deep.DeepCutAuto
namespace Go.Proofs.Ymbrbl
open Go.RowKit

theorem cnt_all (S : List Str) : cnt S [] = S.length := by
  unfold cnt
  rw [List.countP_eq_length]
  intro y _
  exact pre_iff.2 List.nil_prefix
theorem wsum_mono (S : List Str) (p : Str) {a b : Nat} (h : a ≤ b) : wsum S p a ≤ wsum S p b := by
  induction h with
  | refl => exact Nat.le_refl _
  | step _ ih => exact Nat.le_trans ih (Nat.le_add_right _ _)
def lenOf : Value → Nat
  | .slice _ n _ => n
  | _ => 0

set_option maxRecDepth 100000 in
set_option maxHeartbeats 400000 in
theorem select_out (B p : Nat) (h : Hd) (T : TT) (P S : List Str) (k : Int) (w : World) (t : TrieAt w B p h T) (G : Good T P S) (hk : k < 0 ∨ (S.length : Int) ≤ k) :
    Calls Yblm.prog 35 #[.pointer (some ⟨p, 0, none⟩), .int .i64 k] w fun e w' => e = .returned (.tuple #[Sv [], .bool false]) ∧ w' = w := by
  have cc := count_calls B p h T P S [] w t G (by simp)
  rw [cnt_all] at cc
  have CC := hide2 cc
  clear cc t G
  by_cases h0 : k < 0
  · go_enter Yblm.func35, Yblm.ntmps35
    go_wp2
    go_ret2
    exact ⟨rfl, rfl⟩
  · have h1 : (S.length : Int) ≤ k := by omega
    clear hk
    go_enter Yblm.func35, Yblm.ntmps35
    go_wp2_with (go_at_call 25; refine CC.out.mono ?_; rintro e w' ⟨rfl, he⟩; obtain rfl := he.symm)
    go_ret2
    exact ⟨rfl, rfl⟩

set_option maxRecDepth 100000 in
set_option maxHeartbeats 1000000 in
theorem select_in (B p : Nat) (h : Hd) (T : TT) (P S R : List Str) (k : Nat) (w : World) (t : TrieAt w B p h T) (G : Good T P S) (li : Lists R S []) (hk : k < R.length) (hS : S.length ≤ 1000000) (hP : P.length ≤ 1000000) (hB : B ≤ w.heap.size) :
    Calls Yblm.prog 35 #[.pointer (some ⟨p, 0, none⟩), .int .i64 k] w fun e w' => e = .returned (.tuple #[Sv (R.getD k []), .bool true]) ∧ Below w.heap.size w w' := by
  have cc := count_calls B p h T P S [] w t G (by simp)
  rw [cnt_all] at cc
  have hRl := li.len G.nodup
  rw [cnt_all] at hRl
  have hrk := li.rank G.nodup hk
  have hxS := ((li.mem _).1 (mem_getD hk)).1
  generalize R.getD k [] = x at hrk hxS
  have hks : k < S.length := by omega
  have hP0 : 0 < P.length := List.length_pos_of_mem (G.sub _ hxS)
  have hlen := G.tree.len
  obtain ⟨gN, cN, gW, cW, gB, cB, rfl⟩ := to_hd t (by omega)
  have CC := hide2 cc
  have T0 := hide2 t
  have HG := hide2 G
  have HRK := hide2 hrk
  have HXS := hide2 hxS
  have HLN := hide2 hlen
  clear cc t G hrk hxS li hRl hlen
  have hd1 : decide ((k : Int) < 0) = false := decide_eq_false (by omega)
  have hd2 : decide ((S.length : Int) ≤ (k : Int)) = false := decide_eq_false (by omega)
  have hd3 : decide (S.length ≤ k) = false := decide_eq_false (by omega)
  go_enter Yblm.func35, Yblm.ntmps35
  go_wp2_with (go_at_call 25; refine CC.out.mono ?_; rintro e w' ⟨rfl, he⟩; obtain rfl := he.symm)
  generalize hN : w.heap.size = N at *
  have hNw : N ≤ w.heap.size := by omega
  have HN := hide2 hN
  clear hN
  go_loopw [1, 6, 7] (fun kv nv v wr => ∃ (pp : Str) (n g y : Nat) (X : List Value), pp.isPrefixOf x = true ∧ kv = .int .i64 (rk S pp x : Nat) ∧ nv = .int .i64 n ∧ ix P pp = some n ∧ v = .slice (some ⟨g, 0, none⟩) pp.length y ∧ wr.ownsRow N 5 1 v pp.length X ∧ X = pp.map Bv ∧ Below N w wr) (fun _ _ v _ => x.length - lenOf v)
  case atStart =>
    have hN := HN.out
    subst hN
    refine ⟨[], 0, _, _, _, pre_iff.2 List.nil_prefix, by rw [HRK.out], rfl, ?_, rfl, own_empty5 w w.heap.size (Nat.le_refl _), rfl, (Below.refl _ w).alloc (Nat.le_refl _) _⟩
    have := ix_of HG.out.tree.paths.nodup hP0
    rwa [HG.out.tree.paths.root hP0] at this
  case round =>
    obtain ⟨pp, n, g, y, X, hpre, rfl, rfl, hix, rfl, own, hX, bel⟩ := hrel
    have HX := hide2 hX
    have OW := hide2 own
    obtain ⟨hn1, hn2⟩ := ix_some hix
    have belw : Below w.heap.size w wr := by rw [HN.out]; exact bel
    have tr := T0.out.below belw
    have vw := hd_view rfl tr
    have c1 := vw.c1
    have hw := vw.W n (by have := HLN.out; omega)
    rw [HG.out.wd n hn1, hn2] at hw
    have hnw : n < T.wd.length := by have := HLN.out; omega
    have hwr : N ≤ wr.heap.size := by have := bel.size; omega
    have hBr : B ≤ wr.heap.size := by omega
    by_cases hxp : x = pp
    · subst hxp
      rw [decide_eq_true HXS.out] at hw
      rw [rk_self]
      rw [hX] at own
      have cv := bytes_str own
      clear hX own hix vw tr belw
      go_wp2
      go_ret2
      exact ⟨rfl, by rw [HN.out]; exact bel⟩
    · obtain ⟨c, r, hxe⟩ : ∃ c r, x = pp ++ c :: r := by
        obtain ⟨t, rfl⟩ := pre_iff.1 hpre
        cases t with
        | nil => rw [List.append_nil] at hxp; exact absurd rfl hxp
        | cons c r => exact ⟨c, r, rfl⟩
      have hP1 : ∀ d t, pp ++ d :: t ∈ S → pp ++ [d] ∈ P := by
        intro d t hd
        have := HG.out.tree.paths.take_mem (HG.out.sub _ hd) (pp.length + 1)
        rw [show pp ++ d :: t = (pp ++ [d]) ++ t by simp] at this
        rwa [List.take_left' (by simp)] at this
      have hlet : ∀ d t, pp ++ d :: t ∈ S → 97 ≤ d.toNat ∧ d.toNat ≤ 122 := by
        intro d t hd
        obtain ⟨l, hl, rfl⟩ := HG.out.tree.paths.letter (hP1 d t hd)
        rw [ltr_toNat hl]
        omega
      have hxS := HXS.out
      rw [hxe] at hxS
      obtain ⟨l0, hl0, rfl⟩ := HG.out.tree.paths.letter (hP1 c r hxS)
      obtain ⟨m, hm⟩ := ix_mem (hP1 _ _ hxS)
      have hstep := rk_step HG.out.nodup pp (ltr l0) r hlet
      rw [lo_ltr hl0, ← hxe] at hstep
      have hpre2 : (pp ++ [ltr l0]).isPrefixOf x = true := pre_iff.2 ⟨r, by rw [hxe]; simp⟩
      have hrl := rk_lt HXS.out hpre2
      have hkb := rk_lt HXS.out hpre
      have hcb := cnt_le S pp
      have hxl : x.length = pp.length + r.length + 1 := by rw [hxe, List.length_append, List.length_cons]; omega
      have hppl : pp.length ≤ P.length := HG.out.tree.paths.lenM (by rw [← hn2]; exact mem_getD hn1)
      have hfin : (pp ++ [ltr l0]).map Bv = X ++ [.int .u8 (97 + (l0 : Int))] := by
        rw [hX, List.map_append]
        simp only [List.map_cons, List.map_nil]
        rw [Bv, ltr_toNat hl0]
        rfl
      have lk := HG.out.tree.link n l0 hn1 hl0
      rw [hn2, hm, Option.getD_some] at lk
      obtain ⟨k2, hk2⟩ : ∃ k2, rk S (pp ++ [ltr l0]) x = k2 := ⟨_, rfl⟩
      rw [hk2] at hstep hrl
      obtain ⟨kk, hkk⟩ : ∃ kk, rk S pp x = kk := ⟨_, rfl⟩
      rw [hkk] at hstep hkb ⊢
      obtain ⟨k1, hk1⟩ : ∃ k1, wsum S pp l0 + k2 = k1 := ⟨_, rfl⟩
      obtain ⟨bb, hbb⟩ : ∃ bb, decide (pp ∈ S) = bb := ⟨_, rfl⟩
      rw [hbb] at hw
      have hcase : (bb = false ∧ kk = k1) ∨ (bb = true ∧ kk = k1 + 1) := by
        by_cases h : pp ∈ S
        · right; rw [if_pos h] at hstep; exact ⟨by rw [← hbb]; exact decide_eq_true h, by omega⟩
        · left; rw [if_neg h] at hstep; exact ⟨by rw [← hbb]; exact decide_eq_false h, by omega⟩
      have HF := hide2 hfin
      have HPR := hide2 hpre2
      have HM := hide2 hm
      have HK2 := hide2 hk2
      have HK1 := hide2 hk1
      have HRL := hide2 hrl
      have TR := hide2 tr
      have LK := hide2 lk
      have HN2 := hide2 hn2
      have hxl2 : pp.length < x.length := by omega
      clear hfin hpre2 hm hk2 hk1 hrl tr lk hstep hkk hbb hlet hP1 hxS hX own vw hix hxe hxp hpre hn2 hxl HX
      rcases hcase with ⟨rfl, hkk⟩ | ⟨rfl, hkk⟩
      all_goals
        obtain rfl := hkk.symm
        go_wp2
        go_loop [1, 8] (fun kv lv => ∃ l : Nat, lv = .int .i64 l ∧ l ≤ l0 ∧ kv = .int .i64 ((k1 - wsum S pp l : Nat) : Int)) (fun _ lv => l0 - (intOf lv).toNat)
        case atStart => exact ⟨0, rfl, Nat.zero_le _, by go_num⟩
        case round =>
          obtain ⟨l, rfl, hl, rfl⟩ := hrel
          have wt := weight_T B p _ T n l wr TR.out hnw (by omega) (HG.out.tree.ok n hn1)
          rw [HG.out.wgt hn1 (by omega), HN2.out] at wt
          have WT := hide2 wt
          have hsucc : wsum S pp (l + 1) = wsum S pp l + cnt S (pp ++ [ltr l]) := rfl
          have hwl : wsum S pp l ≤ wsum S pp l0 := wsum_mono S pp hl
          have hk1 := HK1.out
          obtain ⟨kv, hkv⟩ : ∃ kv, k1 - wsum S pp l = kv := ⟨_, rfl⟩
          rw [hkv]
          have HSU := hide2 hsucc
          by_cases hll : l < l0
          · have hmono : wsum S pp (l + 1) ≤ wsum S pp l0 := wsum_mono S pp hll
            have hdk : cnt S (pp ++ [ltr l]) ≤ kv := by omega
            have hnext : kv - cnt S (pp ++ [ltr l]) = k1 - wsum S pp (l + 1) := by omega
            have HNX := hide2 hnext
            have hkvb : kv ≤ 1000000 := by omega
            clear wt hsucc hwl hk1 hkv hmono hnext
            generalize cnt S (pp ++ [ltr l]) = d at *
            go_wp2_with (go_at_call 49; refine WT.out.mono ?_; rintro e w' ⟨rfl, he⟩; obtain rfl := he.symm)
            go_round
            case rel =>
              refine ⟨l + 1, by go_num, by omega, ?_⟩
              rw [← HNX.out, Int.ofNat_sub hdk]
            case measure => simp [intOf]; omega
          · obtain rfl : l = l0 := by omega
            have hkv2 : kv = k2 := by omega
            have hlt2 := HRL.out
            have hkvb : kv ≤ 1000000 := by omega
            subst hkv2
            clear wt hsucc hwl hk1 hkv
            generalize cnt S (pp ++ [ltr l]) = d at *
            have rw1 : IntKind.i64.wrap (97 + (l : Int)) = 97 + (l : Int) := by rw [IntKind.wrap_i64]; omega
            have rw2 : IntKind.u8.wrap (97 + (l : Int)) = 97 + (l : Int) := by rw [IntKind.wrap_u8]; omega
            go_wp2_with (first | (go_at_call 49; refine WT.out.mono ?_; rintro e w' ⟨rfl, he⟩; obtain rfl := he.symm) | (at_builtin; go_must (refine wpList_app_byte (.tmp 53) (.tmp 57) rfl rfl N pp.length _ _ rfl OW.out _ wr.heap.size rfl rfl (by omega) hwr ?_)))
            intro g5 k5 w5 ow5 b5
            have bel5 := bel.trans b5
            have tr5 := T0.out.below (show Below w.heap.size w w5 by rw [HN.out]; exact bel5)
            have vw5 := hd_view rfl tr5
            have c05 := vw5.c0
            have hc5 := vw5.N n l hnw hl0
            rw [LK.out] at hc5
            have OW5 := hide2 ow5
            clear ow5 tr5 vw5 b5
            go_wp2
            go_roundw
            case rel => first | exact ⟨pp ++ [ltr l], m, g5, k5, _, HPR.out, by rw [HK2.out], rfl, HM.out, by rw [List.length_append]; rfl, by rw [List.length_append]; exact OW5.out, HF.out.symm, bel5⟩ | ((repeat apply Exists.intro); exact ⟨⟨pp ++ [ltr l], m, g5, k5, _, HPR.out, by rw [HK2.out], rfl, HM.out, by rw [List.length_append]; rfl, by rw [List.length_append]; exact OW5.out, HF.out.symm, bel5⟩, rfl⟩)
            case measure => simp [lenOf]; omega
end Go.Proofs.Ymbrbl
