/-
  zzs930010gbuild: its contract. Own text.
-/
import Derived.Test.YmbrblGFns
import Derived.Test.YmbrblRemove
import Derived.Test.YmbrblWithP
namespace Go.Proofs.Ymbrbl
open Go.RowKit

theorem I8s.below {w w' : World} {b off n : Nat} {Z : List Int} (h : I8s w b off n Z) (hb : Below w.heap.size w w') : I8s w' b off n Z :=
  ⟨fun h0 => Nat.lt_of_lt_of_le (h.lt h0) hb.size, fun i hi => (hb.cell (p := ⟨b, off + i, none⟩) (h.lt (by omega))).trans (h.c i hi), h.r⟩

/-- The steps that came in: two bytes and a slice of bytes with sign. -/
structure OpsG (w : World) (b off n : Nat) : Prop where
  lt : 0 < n → b < w.heap.size
  c : ∀ i, i < n → ∃ kd pk : Nat, w.cell? ⟨b, off + i * 3, none⟩ = some (.int .u8 kd) ∧ w.cell? ⟨b, off + i * 3 + 1, none⟩ = some (.int .u8 pk) ∧ kd ≤ 255 ∧ pk ≤ 255
  s : ∀ i, i < n → ∃ (a8 : Option Addr) (len cap b8 off8 : Nat) (Z : List Int), w.cell? ⟨b, off + i * 3 + 2, none⟩ = some (.slice a8 len cap) ∧ (0 < len → a8 = some ⟨b8, off8, none⟩) ∧ I8s w b8 off8 len Z
theorem OpsG.below {w w' : World} {b off n : Nat} (h : OpsG w b off n) (hb : Below w.heap.size w w') : OpsG w' b off n := by
  refine ⟨fun h0 => Nat.lt_of_lt_of_le (h.lt h0) hb.size, fun i hi => ?_, fun i hi => ?_⟩
  · obtain ⟨kd, pk, h1, h2, h3⟩ := h.c i hi
    exact ⟨kd, pk, (hb.cell (p := ⟨b, off + i * 3, none⟩) (h.lt (by omega))).trans h1, (hb.cell (p := ⟨b, off + i * 3 + 1, none⟩) (h.lt (by omega))).trans h2, h3⟩
  · obtain ⟨a8, len, cap, b8, off8, Z, h1, h2, h3⟩ := h.s i hi
    exact ⟨a8, len, cap, b8, off8, Z, (hb.cell (p := ⟨b, off + i * 3 + 2, none⟩) (h.lt (by omega))).trans h1, h2, h3.below hb⟩

theorem insS_putS {S : List Str} {q : Str} (hv : valid q = true) (x : Str) : x ∈ insS S q ↔ x ∈ putS S q := by
  rw [putS_mem]
  unfold insS
  by_cases h : q ∈ S
  · rw [if_neg (fun h2 => h2.2 h)]
    constructor
    · exact .inl
    · rintro (h1 | rfl)
      · exact h1
      · exact h
  · rw [if_pos ⟨hv, h⟩, List.mem_append, List.mem_singleton]
theorem putS_len' {T : TT} {P S : List Str} {q : Str} (G : Good T P (insS S q)) (hs : Sorted S) (hv : valid q = true) : (putS S q).length = (insS S q).length :=
  ((List.perm_ext_iff_of_nodup (putS_sorted hs q).nodup G.nodup).2 (fun x => (insS_putS hv x).symm)).length_eq
theorem erase_filter {S : List Str} (h : S.Nodup) (q : Str) : S.erase q = S.filter (fun x => x != q) := by rw [h.erase_eq_filter]

set_option maxRecDepth 100000 in
set_option maxHeartbeats 1000000 in
theorem gbuild_calls (a : Option Addr) (b off m c : Nat) (w : World) (ha : 0 < m → a = some ⟨b, off, none⟩) (hs : OpsG w b off m) (hm : m ≤ 256) :
    Calls Yblm.prog 30 #[.slice a m c] w fun e w' => ∃ v, e = .returned (.tuple #[.pointer (some ⟨w.heap.size, 0, none⟩), v]) ∧ ∃ h T, TrieAt w' w.heap.size w.heap.size h T ∧ ∃ P S, Good T P S ∧ Sorted S ∧ w'.ownsRow w.heap.size 9 1 v S.length (S.map Sv) ∧ 0 < P.length ∧ P.length ≤ 257 * m + 1 ∧ S.length ≤ m ∧ Below w.heap.size w w' := by
  have HA := hide2 ha
  have HS := hide2 hs
  clear ha hs
  go_enter Yblm.func30, Yblm.ntmps30
  go_wp2
  generalize hB : w.heap.size = B at *
  have hBw : B ≤ w.heap.size := by omega
  have HB := hide2 hB
  clear hB
  go_loopw [5, 6] (fun v i wr => ∃ (k : Nat) (x : Option Addr) (y : Nat) (h : Hd) (T : TT) (P S : List Str), i = .int .i64 k ∧ k ≤ m ∧ v = .slice x S.length y ∧ TrieAt wr B B h T ∧ Good T P S ∧ Sorted S ∧ wr.ownsRow B 9 1 v S.length (S.map Sv) ∧ P.length ≤ 257 * k ∧ S.length ≤ k ∧ Below B w wr) (fun _ i _ => m - (intOf i).toNat)
  case atStart =>
    have hB := HB.out
    subst hB
    refine ⟨0, _, _, _, TT.none, [], [], rfl, Nat.zero_le _, rfl, (trie_new w w.heap.size (Nat.le_refl _)).alloc _, good_none, List.Pairwise.nil, ?_, Nat.zero_le _, Nat.zero_le _, ((Below.refl _ w).alloc (Nat.le_refl _) _).alloc (by simp) _⟩
    have := own_empty (w.alloc (.cells #[.slice none 0 0, .slice none 0 0, .slice none 0 0] 29)) w.heap.size (by simp)
    simpa using this
  case round =>
    obtain ⟨k, x0, y0, h, T, P, S, rfl, hk, rfl, t, G, so, own, hP, hS, bel⟩ := hrel
    have hwr : B ≤ wr.heap.size := by have := bel.size; omega
    have T0 := hide2 t
    have HG := hide2 G
    have SO := hide2 so
    have OW := hide2 own
    clear t G own so
    by_cases hlt : k < m
    · have hea := HA.out (by omega)
      subst hea
      have os := HS.out.below (by rw [HB.out]; exact bel)
      obtain ⟨kd, pk, d0, d1, r0, r1⟩ := os.c k hlt
      obtain ⟨z, hz, hz2, hz3⟩ : ∃ z : Nat, (kd : Int) % 3 = (z : Int) ∧ Int.tmod (kd : Int) 3 = (z : Int) ∧ z < 3 := ⟨kd % 3, by simp, by rw [Int.tmod_eq_emod_of_nonneg (by omega)]; simp, by omega⟩
      by_cases hrem : z = 2
      · subst hrem
        obtain ⟨j, hj, hj2, hj3⟩ : ∃ j : Nat, (pk : Int) % (m : Int) = (j : Int) ∧ Int.tmod (pk : Int) (m : Int) = (j : Int) ∧ j < m := ⟨pk % m, by simp, by rw [Int.tmod_eq_emod_of_nonneg (by omega)]; simp, Nat.mod_lt _ (by omega)⟩
        obtain ⟨a8, len8, cap8, b8, off8, Z, ds, ha8, hZ⟩ := os.s j hj3
        have gw := gword_calls a8 b8 off8 len8 cap8 Z wr ha8 hZ
        have GW := hide2 gw
        have hn1 : ((m : Int) == 0) = false := beq_eq_false_iff_ne.2 (by omega)
        clear gw ha8 hZ os
        go_wp2_with fail
        refine GW.out.mono ?_
        rintro e w1 ⟨q, rfl, hqv, hql, b1⟩
        have t1 := T0.out.below b1
        have o1 := own_below OW.out b1
        have bel1 := bel.trans (b1.mono hwr)
        have hw1 : B ≤ w1.heap.size := by have := bel1.size; omega
        have her := erase_filter HG.out.nodup q
        have rc := remove_calls B B h T P S q w1 t1 HG.out (by omega) (by omega)
        rw [her] at rc
        have RC := hide2 rc
        have T1 := hide2 t1
        have O1 := hide2 o1
        clear rc her t1 o1 d0 d1 ds
        generalize decide (q ∈ S) = bb at RC
        go_wp2_with fail
        refine RC.out.mono ?_
        rintro e w2 ⟨rfl, T2, t2, G2, s2⟩
        have o2 := own_stp T1.out O1.out s2
        have b2 := bel1.trans (s2.t.below (fun k hk => (T1.out.foot_lt k hk).1) hw1)
        have hw2 : B ≤ w2.heap.size := by have := b2.size; omega
        have T2h := hide2 t2
        have G2h := hide2 G2
        have O2 := hide2 o2
        clear t2 G2 o2 s2
        go_wp2_with fail
        refine (gdrop_calls B _ _ S q w2 rfl O2.out (by omega)).mono ?_
        rintro e w3 ⟨g3, k3, rfl, own3, b3⟩
        have hle : (S.filter (fun x => x != q)).length ≤ S.length := List.length_filter_le _ _
        have t3 := T2h.out.below b3
        have o3 := own_mono own3 hw2
        have b4 := b2.trans (b3.mono hw2)
        have so3 : Sorted (S.filter (fun x => x != q)) := SO.out.filter _
        have T3 := hide2 t3
        have O3 := hide2 o3
        have SO3 := hide2 so3
        clear t3 o3 so3 own3
        generalize S.filter (fun x => x != q) = F at *
        go_wp2
        go_roundw
        case rel => exact ⟨k + 1, _, _, h, T2, P, F, by go_num, by omega, rfl, T3.out, G2h.out, SO3.out, O3.out, by omega, by omega, b4⟩
        case measure => simp [intOf]; omega
      · have hzf : ((z : Int) == 2) = false := beq_eq_false_iff_ne.2 (by omega)
        obtain ⟨a8, len8, cap8, b8, off8, Z, ds, ha8, hZ⟩ := os.s k hlt
        have gw := gword_calls a8 b8 off8 len8 cap8 Z wr ha8 hZ
        have GW := hide2 gw
        clear gw ha8 hZ os
        go_wp2_with fail
        refine GW.out.mono ?_
        rintro e w1 ⟨q, rfl, hqv, hql, b1⟩
        have t1 := T0.out.below b1
        have o1 := own_below OW.out b1
        have bel1 := bel.trans (b1.mono hwr)
        have hw1 : B ≤ w1.heap.size := by have := bel1.size; omega
        have T1 := hide2 t1
        have O1 := hide2 o1
        have hpl := insPs_len P q
        have hsl := insS_len S q
        have ic := insert_calls B B h T P S q w1 T1.out HG.out (by omega) (by omega) (by omega) hw1
        have IC := hide2 ic
        have HQV := hide2 hqv
        clear t1 o1 d0 d1 ic ds
        by_cases hin : q ∈ S
        · have hcd : codeI S q = 1 := by unfold codeI; rw [if_pos hqv, if_pos hin]
          have hsi : insS S q = S := by unfold insS; rw [if_neg (fun h => h.2 hin)]
          rw [hcd, hsi] at IC
          clear hcd hsi hqv hin
          go_wp2_with fail
          refine IC.out.mono ?_
          rintro e w2 ⟨rfl, h2, T2, t2, G2, s2⟩
          have o2 := own_stp T1.out O1.out s2
          have b2 := bel1.trans (s2.t.below (fun k hk => (T1.out.foot_lt k hk).1) hw1)
          have T2h := hide2 t2
          have G2h := hide2 G2
          have O2 := hide2 o2
          clear t2 G2 o2 s2
          go_wp2
          go_roundw
          case rel => exact ⟨k + 1, _, _, h2, T2, insPs P q, S, by go_num, by omega, rfl, T2h.out, G2h.out, SO.out, O2.out, by omega, by omega, b2⟩
          case measure => simp [intOf]; omega
        · have hcd : codeI S q = 0 := by unfold codeI; rw [if_pos hqv, if_neg hin]
          rw [hcd] at IC
          clear hcd hqv hin
          go_wp2_with fail
          refine IC.out.mono ?_
          rintro e w2 ⟨rfl, h2, T2, t2, G2, s2⟩
          have o2 := own_stp T1.out O1.out s2
          have b2 := bel1.trans (s2.t.below (fun k hk => (T1.out.foot_lt k hk).1) hw1)
          have hw2 : B ≤ w2.heap.size := by have := b2.size; omega
          have hpe := Nat.le_of_eq (putS_len' G2 SO.out HQV.out)
          have so3 := putS_sorted SO.out q
          have G3 := G2.same so3.nodup (fun x => insS_putS HQV.out x)
          have T2h := hide2 t2
          have G3h := hide2 G3
          have O2 := hide2 o2
          have SO3 := hide2 so3
          clear t2 G2 G3 o2 s2 so3
          go_wp2_with fail
          refine (gput_calls B _ _ S q w2 rfl O2.out SO.out (by omega)).mono ?_
          rintro e w3 ⟨g3, k3, rfl, own3, b3⟩
          have t3 := T2h.out.below b3
          have o3 := own_mono own3 hw2
          have b4 := b2.trans (b3.mono hw2)
          have T3 := hide2 t3
          have O3 := hide2 o3
          clear t3 o3 own3
          go_wp2
          go_roundw
          case rel => exact ⟨k + 1, _, _, h2, T2, insPs P q, putS S q, by go_num, by omega, rfl, T3.out, G3h.out, SO3.out, O3.out, by omega, by omega, b4⟩
          case measure => simp [intOf]; omega
    · have hlen := HG.out.tree.len
      obtain ⟨vN, vW, vB⟩ := h
      obtain ⟨aN, cN, e1⟩ := ownsRow_slice T0.out.rN
      dsimp only at e1
      subst e1
      have c0 := T0.out.mid.c0
      dsimp only at c0
      by_cases h0 : P.length = 0
      · have hz : ((T.wd.length : Int) == 0) = true := beq_iff_eq.2 (by omega)
        have hg := good_root HG.out (nxlen T0.out) (bllen T0.out) h0
        have gc := grow_calls B B _ T wr T0.out (by omega) hwr
        have GC := hide2 gc
        have HG1 := hide2 hg
        have hl1 := insTo_len P [] 0
        have hl0 : 0 < (insTo P [] 0).length := List.length_pos_of_mem (insTo_mem P [] 0)
        clear gc hg hlen
        go_wp2_with (go_at_call 17; refine GC.out.mono ?_; rintro e w' ⟨rfl, h', t', s'⟩)
        go_ret2
        rw [HB.out]
        exact ⟨_, rfl, h', T.grow, t', insTo P [] 0, S, HG1.out, SO.out, own_stp T0.out OW.out s', hl0, by omega, by omega, bel.trans (s'.t.below (fun k hk => (T0.out.foot_lt k hk).1) hwr)⟩
      · have hz : ((T.wd.length : Int) == 0) = false := beq_eq_false_iff_ne.2 (by omega)
        clear hlen
        go_wp2
        go_ret2
        rw [HB.out]
        exact ⟨_, rfl, _, T, T0.out, P, S, HG.out, SO.out, OW.out, by omega, by omega, by omega, bel⟩
end Go.Proofs.Ymbrbl
