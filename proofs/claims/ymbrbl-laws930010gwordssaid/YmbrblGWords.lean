/-
  The walk of LawS930010GWords. Own text.
-/
import Derived.Test.YmbrblGBuild
import Derived.Test.YmbrblGLists
import Derived.Deep.DeepCutAuto
namespace Go.Proofs.Ymbrbl
open Go.RowKit

set_option maxRecDepth 100000 in
set_option maxHeartbeats 400000 in
theorem gwords_big (a : Option Addr) (m c : Nat) (pick cut : Int) (label : Str) (a2 : Option Addr) (n c2 : Nat) (w : World) (h : 256 < m ∨ 1024 < label.length ∨ 1024 < n) :
    Calls Yblm.prog 8 #[.slice a m c, .int .u8 pick, .int .u16 cut, Sv label, .slice a2 n c2] w fun e w' => e = .returned (.bool true) ∧ Below w.heap.size w w' := by
  by_cases h1 : 256 < m
  · have hd : decide ((256 : Int) < (m : Int)) = true := decide_eq_true (by omega)
    go_enter Yblm.func8, Yblm.ntmps8
    go_wp2
    go_ret
    exact ⟨rfl, Below.refl _ _⟩
  · have hd : decide ((256 : Int) < (m : Int)) = false := decide_eq_false (by omega)
    by_cases h2 : 1024 < label.length
    · have hd2 : decide ((1024 : Int) < (label.length : Int)) = true := decide_eq_true (by omega)
      go_enter Yblm.func8, Yblm.ntmps8
      go_wp2
      go_ret
      exact ⟨rfl, Below.refl _ _⟩
    · have hd2 : decide ((1024 : Int) < (label.length : Int)) = false := decide_eq_false (by omega)
      have hd3 : decide ((1024 : Int) < (n : Int)) = true := decide_eq_true (by omega)
      go_enter Yblm.func8, Yblm.ntmps8
      go_wp2
      go_ret
      exact ⟨rfl, Below.refl _ _⟩

/-- The words under p, with label in p's place. -/
def relab (S : List Str) (p label : Str) : List Str := (S.filter (fun x => p.isPrefixOf x)).map (fun x => label ++ x.drop p.length)
theorem relab_snoc (S : List Str) (x p label : Str) : relab (S ++ [x]) p label = relab S p label ++ if p.isPrefixOf x then [label ++ x.drop p.length] else [] := by
  unfold relab
  rw [List.filter_append, List.map_append]
  congr 1
  by_cases h : p.isPrefixOf x = true <;> simp [h]
theorem relab_len (S : List Str) (p label : Str) : (relab S p label).length ≤ S.length := by
  unfold relab
  rw [List.length_map]
  exact List.length_filter_le _ _
theorem Good.relab {T : TT} {P S : List Str} (G : Good T P S) (so : Sorted S) {n f : Nat} (hn : n < P.length) (hf : P.length - n ≤ f) (s : Str) : T.coll f n s = relab S (P.getD n []) s := by
  refine (G.sorted_coll f n hn hf s).ext ?_ (fun x => ?_)
  · show List.Pairwise _ ((S.filter (fun x => (P.getD n []).isPrefixOf x)).map (fun x => s ++ x.drop (P.getD n []).length))
    rw [List.pairwise_map]
    refine List.Pairwise.imp_of_mem ?_ (so.filter (fun x => (P.getD n []).isPrefixOf x))
    intro a b ha hb hab
    obtain ⟨y, rfl⟩ := pre_iff.1 (List.mem_filter.1 ha).2
    obtain ⟨z, rfl⟩ := pre_iff.1 (List.mem_filter.1 hb).2
    rw [bl_app] at hab
    rw [List.drop_left, List.drop_left, bl_app]
    exact hab
  · rw [G.mem_coll f n hn hf]
    show _ ↔ x ∈ (S.filter (fun x => (P.getD n []).isPrefixOf x)).map (fun x => s ++ x.drop (P.getD n []).length)
    rw [List.mem_map]
    constructor
    · rintro ⟨y, rfl, h⟩
      exact ⟨P.getD n [] ++ y, List.mem_filter.2 ⟨h, pre_iff.2 ⟨y, rfl⟩⟩, by rw [List.drop_left]⟩
    · rintro ⟨a, ha, rfl⟩
      obtain ⟨h1, h2⟩ := List.mem_filter.1 ha
      obtain ⟨y, rfl⟩ := pre_iff.1 h2
      exact ⟨y, by rw [List.drop_left], h1⟩
theorem arr_take (q : Str) (j : Nat) : (⟨q.toArray⟩ : ByteArray).extract 0 j = ⟨(q.take j).toArray⟩ := by
  apply ByteArray.ext
  simp [ByteArray.data_extract]
theorem arr_drop (q : Str) (j : Nat) : (⟨q.toArray⟩ : ByteArray).extract j q.length = ⟨(q.drop j).toArray⟩ := by
  apply ByteArray.ext
  simp [ByteArray.data_extract]
  exact List.take_of_length_le (by rw [List.length_drop]; omega)
theorem pre_slice (x q : Str) : (decide ((q.length : Int) ≤ (x.length : Int)) && (x.take q.length == q)) = q.isPrefixOf x := by
  rw [Bool.eq_iff_iff, pre_iff, Bool.and_eq_true, decide_eq_true_eq, beq_iff_eq, List.prefix_iff_eq_take]
  constructor
  · rintro ⟨_, h⟩; exact h.symm
  · intro h
    refine ⟨?_, h.symm⟩
    have := congrArg List.length h
    rw [List.length_take] at this
    omega

set_option maxRecDepth 100000 in
set_option maxHeartbeats 1000000 in
theorem gwords_walk (a : Option Addr) (b off m c : Nat) (pick cut : Nat) (label : Str) (a2 : Option Addr) (b2 off2 n c2 : Nat) (ss : List Str) (w : World) (ha : 0 < m → a = some ⟨b, off, none⟩) (hs : OpsG w b off m) (hm : m ≤ 256) (hpk : pick ≤ 255) (hct : cut ≤ 65535) (hll : label.length ≤ 1024) (hn : ss.length = n) (hnn : n ≤ 1024) (ha2 : 0 < n → a2 = some ⟨b2, off2, none⟩) (hC : Cells w b2 off2 ss) :
    Calls Yblm.prog 8 #[.slice a m c, .int .u8 pick, .int .u16 cut, Sv label, .slice a2 n c2] w fun e w' => e = .returned (.bool true) ∧ Below w.heap.size w w' := by
  have hd : decide ((256 : Int) < (m : Int)) = false := decide_eq_false (by omega)
  have hd2 : decide ((1024 : Int) < (label.length : Int)) = false := decide_eq_false (by omega)
  have hd3 : decide ((1024 : Int) < (n : Int)) = false := decide_eq_false (by omega)
  have HA := hide2 ha
  have HS := hide2 hs
  have HN := hide2 hn
  have HA2 := hide2 ha2
  have HC := hide2 hC
  clear ha hs hn ha2 hC
  go_enter Yblm.func8, Yblm.ntmps8
  go_wp2_with fail
  refine (gbuild_calls a b off m c w HA.out HS.out hm).mono ?_
  rintro e w1 ⟨v, rfl, h, T, t, P, S, G, so, own, hP0, hP, hS, bel⟩
  have hs1 := HS.out.below bel
  have hc1 := HC.out.below bel
  generalize hB : w.heap.size = B at *
  have HB := hide2 hB
  clear hB
  have hw1 : B ≤ w1.heap.size := by have := bel.size; have := HB.out; omega
  obtain ⟨x0, y0, rfl⟩ := ownsRow_slice own
  have T1 := hide2 t
  have HG := hide2 G
  have SO := hide2 so
  have O1 := hide2 own
  have HS1 := hide2 hs1
  have HC1 := hide2 hc1
  clear t G so own hs1 hc1
  go_upto_if 39 with (fail)
  go_cut [13] (fun s13 wc => ∃ pp, s13 = Sv pp ∧ pp.length ≤ 256 ∧ Below w1.heap.size w1 wc)
  case first =>
    by_cases h0 : 0 < m
    · have hea := HA.out h0
      subst hea
      obtain ⟨j, hj, hj2, hj3⟩ : ∃ j : Nat, (pick : Int) % (m : Int) = (j : Int) ∧ Int.tmod (pick : Int) (m : Int) = (j : Int) ∧ j < m := ⟨pick % m, by simp, by rw [Int.tmod_eq_emod_of_nonneg (by omega)]; simp, Nat.mod_lt _ h0⟩
      obtain ⟨a8, len8, cap8, b8, off8, Z, ds, ha8, hZ⟩ := HS1.out.s j hj3
      have gw := gword_calls a8 b8 off8 len8 cap8 Z w1 ha8 hZ
      have GW := hide2 gw
      have hn1 : ((m : Int) == 0) = false := beq_eq_false_iff_ne.2 (by omega)
      clear gw ha8 hZ
      go_wp2_with fail
      refine GW.out.mono ?_
      rintro e w2 ⟨q, rfl, hqv, hql, bq⟩
      obtain ⟨r, hr, hr2, hr3⟩ : ∃ r : Nat, (cut : Int) % ((q.length : Int) + 1) = (r : Int) ∧ Int.tmod (cut : Int) ((q.length : Int) + 1) = (r : Int) ∧ r ≤ q.length := by
        refine ⟨cut % (q.length + 1), by simp, by rw [Int.tmod_eq_emod_of_nonneg (by omega)]; simp, ?_⟩
        have := Nat.mod_lt cut (show 0 < q.length + 1 by omega)
        omega
      obtain ⟨st, hst⟩ : ∃ st, q.take r = st := ⟨_, rfl⟩
      have te := arr_take q r
      rw [hst] at te
      have hstl : st.length ≤ 256 := by rw [← hst, List.length_take]; omega
      have hn2 : (((q.length : Int) + 1) == 0) = false := beq_eq_false_iff_ne.2 (by omega)
      clear hst ds hqv
      go_wp2
      go_meet
      case rel => exact ⟨st, rfl, hstl, bq⟩
    · go_wp2
      go_meet
      case rel => exact ⟨[], rfl, by simp, Below.refl _ _⟩
  case rest =>
    obtain ⟨pp, rfl, hpl, bw⟩ := hcut
    have t2 := T1.out.below bw
    have fn := find_T B B h T P pp wc t2 HG.out.tree (by unfold maxLen; omega)
    have FN := hide2 fn
    have T2 := hide2 t2
    clear fn t2
    obtain ⟨nn, ok, hix⟩ : ∃ (nn : Nat) (ok : Bool), (ok = true ∧ ix P pp = some nn) ∨ (ok = false ∧ ix P pp = none) := by
      cases e : ix P pp with
      | none => exact ⟨0, false, .inr ⟨rfl, rfl⟩⟩
      | some k => exact ⟨k, true, .inl ⟨rfl, rfl⟩⟩
    have fn2 : Calls Yblm.prog 27 #[.pointer (some ⟨B, 0, none⟩), Sv pp] wc fun e w' => e = .returned (.tuple #[.int .i64 ((ix P pp).getD 0 : Nat), .bool ok]) ∧ w' = wc := by
      rcases hix with ⟨rfl, e⟩ | ⟨rfl, e⟩
      · have := FN.out; rw [e] at this ⊢; exact this
      · have := FN.out; rw [e] at this ⊢; exact this
    obtain ⟨i0, hi0⟩ : ∃ i0, (ix P pp).getD 0 = i0 := ⟨_, rfl⟩
    rw [hi0] at fn2
    have hok : ok = true → i0 < P.length ∧ P.getD i0 [] = pp := by
      rintro rfl
      rcases hix with ⟨_, e⟩ | ⟨h, _⟩
      · rw [← hi0, e]; exact ix_some e
      · cases h
    have HOK := hide2 hok
    have FN2 := hide2 fn2
    have hroot := HG.out.tree.paths.root hP0
    have HROOT := hide2 hroot
    clear hok fn2 hix hi0 FN hroot
    obtain ⟨wo, rfl⟩ : ∃ wo, wo = wc := ⟨_, rfl⟩
    go_upto_if 65 with (go_at_call 27; refine FN2.out.mono ?_; rintro e w' ⟨rfl, he⟩; obtain rfl := he.symm)
    go_cut [13, 14] (fun s13 s14 wc => ∃ (pq : Str) (nd : Nat), s13 = Sv pq ∧ s14 = .int .i64 nd ∧ nd < P.length ∧ P.getD nd [] = pq ∧ pq.length ≤ 256 ∧ wc = wo)
    case first =>
      cases ok
      · go_wp2
        go_meet
        case rel => exact ⟨[], 0, rfl, rfl, hP0, HROOT.out, by simp, rfl⟩
      · obtain ⟨h1, h2⟩ := HOK.out rfl
        go_wp2
        go_meet
        case rel => exact ⟨pp, i0, rfl, rfl, h1, h2, hpl, rfl⟩
    case rest =>
      obtain ⟨pq, nd, rfl, rfl, hnd, hpq, hpql, hwo⟩ := hcut
      obtain rfl := hwo.symm
      have hrl := HG.out.relab SO.out (f := P.length) hnd (by omega) label
      rw [hpq] at hrl
      have hdp := HG.out.deep P.length nd hnd (by omega)
      have hO2 := own_below O1.out bw
      have hC2 := HC1.out.below bw
      have belo : Below B w wo := bel.trans (bw.mono hw1)
      have hBo : B ≤ wo.heap.size := by have := bw.size; omega
      have HRL := hide2 hrl
      have HDP := hide2 hdp
      have O2 := hide2 hO2
      have HC2 := hide2 hC2
      clear hrl hdp hO2 hC2 hpq HOK FN2
      go_wp2_with fail
      refine (gcopy_calls wo.heap.size a2 b2 off2 n c2 ss wo HN.out (by omega) HA2.out HC2.out (Nat.le_refl _)).mono ?_
      rintro e w2 ⟨v2, rfl, own2, bg2, _⟩
      obtain ⟨x2, y2, rfl⟩ := ownsRow_slice own2
      have OW2 := hide2 own2
      clear own2
      go_wp2
      go_loopw [16, 17] (fun v i wr => ∃ (k : Nat) (x : Option Addr) (y : Nat) (L : List Str), i = .int .i64 k ∧ k ≤ S.length ∧ v = .slice x L.length y ∧ L = ss ++ relab (S.take k) pq label ∧ wr.ownsRow wo.heap.size 9 1 v L.length (L.map Sv) ∧ Below wo.heap.size wo wr) (fun _ i _ => S.length - (intOf i).toNat)
      case atStart => exact ⟨0, x2, y2, ss, rfl, Nat.zero_le _, by rw [HN.out], by simp [relab], by rw [HN.out]; exact OW2.out, bg2⟩
      case round =>
        obtain ⟨k, x3, y3, L, rfl, hk, rfl, hL, own3, br⟩ := hrel
        have hwr : wo.heap.size ≤ wr.heap.size := br.size
        have hLl : L.length ≤ n + S.length := by
          rw [hL, List.length_append, HN.out]
          have := relab_len (S.take k) pq label
          rw [List.length_take] at this
          omega
        have HLE := hide2 hL
        have O3 := hide2 own3
        clear hL own3
        by_cases hlt : k < S.length
        · obtain ⟨g, cap, he, _, _⟩ := O2.out.form (by omega)
          obtain ⟨rfl, rfl⟩ : x0 = some ⟨g, 0, none⟩ ∧ y0 = cap := by simpa using he
          have osr := own_below O2.out br
          have hc := own_cell osr k _ (getD_map_sv S k hlt)
          have ht := take_snoc S k [] hlt
          have hsn := relab_snoc (S.take k) (S.getD k []) pq label
          rw [← ht] at hsn
          have hps := pre_slice (S.getD k []) pq
          have hskl : (S.getD k []).length ≤ 100000 := by have := HG.out.tree.paths.lenM (HG.out.sub _ (mem_getD hlt)); omega
          have HSN := hide2 hsn
          have HPS := hide2 hps
          clear he ht hsn hps osr
          generalize S.getD k [] = sk at hc HSN HPS hskl
          obtain ⟨st, hst⟩ : ∃ st, sk.take pq.length = st := ⟨_, rfl⟩
          have te := arr_take sk pq.length
          rw [hst] at te HPS
          clear hst
          by_cases h1 : pq.length ≤ sk.length
          · cases h2 : (st == pq)
            · have hno : pq.isPrefixOf sk = false := by rw [← HPS.out, h2, Bool.and_false]
              have hl2 : L = ss ++ relab (S.take (k + 1)) pq label := by rw [HSN.out, hno, if_neg (by simp), List.append_nil]; exact HLE.out
              have HL2 := hide2 hl2
              clear hl2 hno
              go_wp2
              go_roundw
              case rel => exact ⟨k + 1, x3, y3, L, by go_num, by omega, rfl, HL2.out, O3.out, br⟩
              case measure => simp [intOf]; omega
            · have hyes : pq.isPrefixOf sk = true := by rw [← HPS.out, h2, Bool.and_true]; exact decide_eq_true (by omega)
              obtain ⟨dr, hdr⟩ : ∃ dr, sk.drop pq.length = dr := ⟨_, rfl⟩
              have td := arr_drop sk pq.length
              rw [hdr] at td
              have hdl : dr.length ≤ 100000 := by rw [← hdr, List.length_drop]; omega
              obtain ⟨nw, hnw⟩ : ∃ nw, label ++ dr = nw := ⟨_, rfl⟩
              have sa := sv_append label dr
              rw [hnw] at sa
              have hl2 : L ++ [nw] = ss ++ relab (S.take (k + 1)) pq label := by rw [HSN.out, hyes, if_pos rfl, hdr, hnw, ← List.append_assoc, ← HLE.out]
              have HL2 := hide2 hl2
              have hcl : ¬ (9223372036854775807 < List.length label + List.length dr) := by omega
              clear hl2 hyes hdr hnw
              go_wp2_with (at_builtin; go_must (refine wpList_app_str (.tmp 93) (.tmp 103) rfl rfl wo.heap.size _ _ _ rfl O3.out nw wr.heap.size rfl rfl (by omega) hwr ?_))
              intro g5 k5 w5 ow5 st5
              have O5 := hide2 ow5
              have b5 := br.trans (st5.toBelow (fun k hk => (O3.out.lt k hk).1) hwr)
              clear ow5 st5
              go_wp2
              go_roundw
              case rel =>
                refine ⟨k + 1, some ⟨g5, 0, none⟩, k5, L ++ [nw], by go_num, by omega, by rw [List.length_append]; rfl, HL2.out, ?_, b5⟩
                rw [List.map_append, List.length_append]
                exact O5.out
              case measure => simp [intOf]; omega
          · have hno : pq.isPrefixOf sk = false := by rw [← HPS.out, Bool.and_eq_false_iff]; left; exact decide_eq_false (by omega)
            have hl2 : L = ss ++ relab (S.take (k + 1)) pq label := by rw [HSN.out, hno, if_neg (by simp), List.append_nil]; exact HLE.out
            have HL2 := hide2 hl2
            clear hl2 hno
            go_wp2
            go_roundw
            case rel => exact ⟨k + 1, x3, y3, L, by go_num, by omega, rfl, HL2.out, O3.out, br⟩
            case measure => simp [intOf]; omega
        · have hall : S.take k = S := List.take_of_length_le (by omega)
          rw [hall] at HLE
          have hC3 := HC2.out.below br
          have t3 := T2.out.below br
          have hwr' : B ≤ wr.heap.size := by omega
          clear hall
          go_wp2_with fail
          refine (gcopy_calls wr.heap.size a2 b2 off2 n c2 ss wr HN.out (by omega) HA2.out hC3 (Nat.le_refl _)).mono ?_
          rintro e w5 ⟨v5, rfl, own5, b5, hf5⟩
          obtain ⟨x5, y5, rfl⟩ := ownsRow_slice own5
          have t5 := t3.below b5
          have hw5 : B ≤ w5.heap.size := by have := b5.size; omega
          have hrll := relab_len S pq label
          have cc := collect_calls B B h T P.length nd label (.slice x5 n y5) n (ss.map Sv) w5 HDP.out t5 (own_mono own5 hwr') (by omega) (by rw [HRL.out]; omega) hw5
          rw [HRL.out] at cc
          have CC := hide2 cc
          clear cc
          go_wp2_with fail
          refine CC.out.mono ?_
          rintro e w6 ⟨v6, rfl, own6, st6, _⟩
          have own26 := own_mono (own_lst (own_below O3.out b5) st6 (fun k hk e => by have := (O3.out.lt k hk).2; have := hf5 k e; omega)) hBo
          have bel6 : Below B w w6 := ((belo.trans (br.mono hBo)).trans (b5.mono hwr')).trans (st6.toBelow (fun k hk => Nat.le_trans hwr' (hf5 k hk)) hw5)
          obtain ⟨x6, y6, rfl⟩ := ownsRow_slice own6
          rw [← List.map_append, ← HLE.out] at own6
          have hlen : L.length = n + (relab S pq label).length := by rw [HLE.out, List.length_append, HN.out]
          rw [← hlen] at own6
          have gs := gsame_calls B _ _ _ L w6 rfl (by omega) own6 own26
          rw [hlen] at gs
          have GS := hide2 gs
          have hlen2 : n + (relab S pq label).length = L.length := hlen.symm
          clear gs hlen own6 own26
          rw [hlen2] at GS ⊢
          go_wp2_with fail
          refine GS.out.mono ?_
          rintro e w7 ⟨rfl, m7, rfl⟩
          go_wp2
          go_ret
          exact ⟨rfl, by rw [HB.out]; exact Below.drewN bel6 m7⟩
end Go.Proofs.Ymbrbl
