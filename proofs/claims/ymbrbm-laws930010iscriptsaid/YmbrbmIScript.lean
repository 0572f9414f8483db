/-
  The walk of LawS930010IScript. Own text.
-/
import Derived.Test.YmbrbmRemove
import Derived.Test.YmbrbmIWord
import Derived.Test.YmbrbmIPathsFns
namespace Go.Proofs.Ymbrbm
open Go.RowKit

/-- The steps that came in: a flag and a word. -/
structure Ops (w : World) (b off n : Nat) (S : List (Bool × Str)) : Prop where
  lt : 0 < n → b < w.heap.size
  c0 : ∀ i, i < n → w.cell? ⟨b, off + i * 2, none⟩ = some (.bool (S.getD i (false, [])).1)
  c1 : ∀ i, i < n → w.cell? ⟨b, off + i * 2 + 1, none⟩ = some (Sv (S.getD i (false, [])).2)

set_option maxRecDepth 100000 in
set_option maxHeartbeats 400000 in
theorem iscript_big (a : Option Addr) (m c : Nat) (k : Int) (tail : Str) (w : World) (h : 256 < m ∨ 1024 < tail.length) :
    Calls Ybmm.prog 3 #[.slice a m c, .int .u16 k, Sv tail] w fun e w' => e = .returned (.bool true) ∧ Below w.heap.size w w' := by
  by_cases h1 : 256 < m
  · have hd : decide ((256 : Int) < (m : Int)) = true := decide_eq_true (by omega)
    go_enter Ybmm.func3, Ybmm.ntmps3
    go_wp2
    go_ret
    exact ⟨rfl, Below.refl _ _⟩
  · have hd : decide ((256 : Int) < (m : Int)) = false := decide_eq_false (by omega)
    have hd2 : decide ((1024 : Int) < (tail.length : Int)) = true := decide_eq_true (by omega)
    go_enter Ybmm.func3, Ybmm.ntmps3
    go_wp2
    go_ret
    exact ⟨rfl, Below.refl _ _⟩

/-- Nothing of a path is longer than the number of paths. -/
theorem Paths.lenM {P : List Str} (h : Paths P) {s : Str} (hs : s ∈ P) : s.length ≤ P.length := by
  obtain ⟨i, hi, rfl⟩ := getD_of_mem hs
  obtain ⟨N, hN⟩ : ∃ N, N = i := ⟨i, rfl⟩
  have : ∀ i, i < P.length → (P.getD i []).length ≤ i := by
    intro i
    induction i using Nat.strongRecOn with
    | ind i ih =>
      intro hi
      by_cases h0 : i = 0
      · subst h0; rw [h.root hi]; simp
      · obtain ⟨j, l, hj, _, e⟩ := h.par i (by omega) hi
        rw [e, List.length_append, List.length_singleton]
        have := ih j hj (by omega)
        omega
  have := this i hi
  omega

theorem take_arr (q : Str) (j : Nat) : (⟨q.toArray⟩ : ByteArray).extract 0 j = ⟨(q.take j).toArray⟩ := by
  apply ByteArray.ext
  simp [ByteArray.data_extract]

theorem valid_iword (s : Str) : valid (iwordOf s) = true := by
  unfold valid iwordOf
  rw [List.all_eq_true]
  intro c hc
  obtain ⟨d, _, rfl⟩ := List.mem_map.1 hc
  rw [ltr_toNat (Nat.mod_lt _ (by omega))]
  have := Nat.mod_lt d.toNat (show 0 < 26 by omega)
  simp
  omega
/-- The paths before the j-th prefix is looked at. -/
def lstTo (P : List Str) (q : Str) : Nat → List Str
  | 0 => P
  | j + 1 => insTo P q j
theorem lstTo_succ (P : List Str) (q : Str) (j : Nat) : lstTo P q (j + 1) = addP (lstTo P q j) (q.take j) := by
  cases j <;> rfl

set_option maxRecDepth 100000 in
set_option maxHeartbeats 1000000 in
theorem iscript_walk (a : Option Addr) (b off m c : Nat) (O : List (Bool × Str)) (k0 : Nat) (tail : Str) (w : World) (ha : 0 < m → a = some ⟨b, off, none⟩) (hs : Ops w b off m O) (hm : m ≤ 256) (hk : k0 ≤ 65535) (ht : tail.length ≤ 1024) :
    Calls Ybmm.prog 3 #[.slice a m c, .int .u16 k0, Sv tail] w fun e w' => e = .returned (.bool true) ∧ Below w.heap.size w w' := by
  have hd : decide ((256 : Int) < (m : Int)) = false := decide_eq_false (by omega)
  have hd2 : decide ((1024 : Int) < (tail.length : Int)) = false := decide_eq_false (by omega)
  have HA := hide2 ha
  have HS := hide2 hs
  clear ha hs
  go_enter Ybmm.func3, Ybmm.ntmps3
  go_wp2
  generalize hB : w.heap.size = B at *
  have hBw : B ≤ w.heap.size := by omega
  have HB := hide2 hB
  clear hB
  go_loopw [8, 9] (fun v i wr => ∃ (k : Nat) (x : Option Addr) (y : Nat) (h : Hd) (T : TT) (P S : List Str), i = .int .i64 k ∧ k ≤ m ∧ v = .slice x P.length y ∧ TrieAt wr B B h T ∧ Good T P S ∧ wr.ownsRow B 9 1 v P.length (P.map Sv) ∧ P.length ≤ 17 * k ∧ S.length ≤ k ∧ Below B w wr) (fun _ i _ => m - (intOf i).toNat)
  case atStart =>
    have hB := HB.out
    subst hB
    refine ⟨0, _, _, _, TT.none, [], [], rfl, Nat.zero_le _, rfl, (trie_new w w.heap.size (Nat.le_refl _)).alloc _, good_none, ?_, Nat.zero_le _, Nat.zero_le _, ((Below.refl _ w).alloc (Nat.le_refl _) _).alloc (by simp) _⟩
    have := own_empty (w.alloc (.cells #[.slice none 0 0, .slice none 0 0, .slice none 0 0] 29)) w.heap.size (by simp)
    simpa using this
  case round =>
    obtain ⟨k, x0, y0, h, T, P, S, rfl, hk, rfl, t, G, own, hP, hS, bel⟩ := hrel
    have hwr : B ≤ wr.heap.size := by have := bel.size; omega
    have T0 := hide2 t
    have HG := hide2 G
    have OW := hide2 own
    clear t G own
    by_cases hlt : k < m
    · have hea := HA.out (by omega)
      subst hea
      have hsb := HS.out.lt (by omega)
      have d0 := (bel.cell (p := ⟨b, off + k * 2, none⟩) (by show b < B; have := HB.out; omega)).trans (HS.out.c0 k hlt)
      have d1 := (bel.cell (p := ⟨b, off + k * 2 + 1, none⟩) (by show b < B; have := HB.out; omega)).trans (HS.out.c1 k hlt)
      generalize (O.getD k (false, [])).1 = rem at d0
      generalize (O.getD k (false, [])).2 = raw at d1
      have iw := iword_calls raw wr
      have IW := hide2 iw
      clear iw
      go_wp2_with fail
      refine IW.out.mono ?_
      rintro e w1 ⟨rfl, b1⟩
      have hql := iwordOf_len raw
      have hqv := valid_iword raw
      generalize iwordOf raw = q at *
      have d2 := (b1.cell (p := ⟨b, off + k * 2, none⟩) (by show b < wr.heap.size; have := HB.out; omega)).trans d0
      have t1 := T0.out.below b1
      have o1 := own_below OW.out b1
      have bel1 := bel.trans (b1.mono hwr)
      have hw1 : B ≤ w1.heap.size := by have := bel1.size; omega
      have T1 := hide2 t1
      have O1 := hide2 o1
      clear t1 o1 d0 d1
      cases rem
      · have e3 : insPs P q = insP P q := if_pos hqv
        have e1 : ((codeI S q : Int) == 2) = false := by
          rw [beq_eq_false_iff_ne]
          unfold codeI
          rw [if_pos hqv]
          split <;> decide
        have hpl := insTo_len P q q.length
        have hsl := insS_len S q
        have ic := insert_calls B B h T P S q w1 T1.out HG.out (by omega) (by omega) (by omega) hw1
        rw [e3] at ic
        have IC := hide2 ic
        clear ic e3 hqv
        generalize codeI S q = cd at *
        go_wp2_with fail
        refine IC.out.mono ?_
        rintro e w2 ⟨rfl, h2, T2, t2, G2, s2⟩
        have o2 := own_stp T1.out O1.out s2
        have b2 := bel1.trans (s2.t.below (fun k hk => (T1.out.foot_lt k hk).1) hw1)
        have T2h := hide2 t2
        have G2h := hide2 G2
        have O2 := hide2 o2
        clear t2 G2 o2 s2
        go_wp2
        go_loopw [8, 11] (fun v j wx => ∃ (i : Nat) (x : Option Addr) (y : Nat) (L : List Str), j = .int .i64 i ∧ i ≤ q.length + 1 ∧ v = .slice x L.length y ∧ L = lstTo P q i ∧ wx.ownsRow B 9 1 v L.length (L.map Sv) ∧ TrieAt wx B B h2 T2 ∧ Below B w wx) (fun _ j _ => q.length + 1 - (intOf j).toNat)
        case atStart => exact ⟨0, x0, y0, P, rfl, Nat.zero_le _, rfl, rfl, O2.out, T2h.out, b2⟩
        case round =>
          obtain ⟨i, x1, y1, L, rfl, hi, rfl, hL, o3, t3, b3⟩ := hrel
          have hll : L.length ≤ P.length + i := by
            rw [hL]
            cases i with
            | zero => exact Nat.le_refl _
            | succ i => exact insTo_len P q i
          have HLL := hide2 hL
          have O3 := hide2 o3
          have T3 := hide2 t3
          clear hL o3 t3
          by_cases hiq : i ≤ q.length
          · obtain ⟨qi, hqi⟩ : ∃ qi, q.take i = qi := ⟨_, rfl⟩
            have te := take_arr q i
            rw [hqi] at te
            have hsu := lstTo_succ P q i
            rw [← HLL.out, hqi] at hsu
            have iwc := iwhere_calls B (.slice x1 L.length y1) L.length L qi wr rfl O3.out (by omega)
            have IWC := hide2 iwc
            have HSU := hide2 hsu
            clear hqi iwc hsu
            have hwr3 : B ≤ wr.heap.size := by have := b3.size; omega
            cases hx : ix L qi with
            | none =>
              have hno := ix_none.1 hx
              rw [hx] at IWC
              clear hx
              go_wp2_with (first | (go_at_call 17; refine IWC.out.mono ?_; rintro e w' ⟨rfl, he⟩; obtain rfl := he.symm) | (at_builtin; go_must (refine wpList_app_str (.tmp 70) (.tmp 74) rfl rfl B _ _ _ rfl O3.out qi wr.heap.size (by simp) rfl (by omega) hwr3 ?_)))
              intro g5 k5 w5 ow5 st5
              have O5 := hide2 ow5
              have t5 := T3.out.lst O3.out st5
              have b5 := b3.trans (st5.toBelow (fun k hk => (O3.out.lt k hk).1) hwr3)
              have T5 := hide2 t5
              clear ow5 st5 t5
              go_wp2
              go_roundw
              case rel =>
                refine ⟨i + 1, some ⟨g5, 0, none⟩, k5, L ++ [qi], by go_num, by omega, by rw [List.length_append]; rfl, ?_, ?_, T5.out, b5⟩
                · rw [HSU.out, addP_out hno]
                · rw [List.map_append, List.length_append]
                  exact O5.out
              case measure => simp [intOf]; omega
            | some j =>
              have hin : qi ∈ L := by obtain ⟨y1, y2⟩ := ix_some hx; rw [← y2]; exact mem_getD y1
              rw [hx] at IWC
              clear hx
              go_wp2_with (first | (go_at_call 17; refine IWC.out.mono ?_; rintro e w' ⟨rfl, he⟩; obtain rfl := he.symm))
              go_roundw
              case rel =>
                refine ⟨i + 1, x1, y1, L, by go_num, by omega, rfl, ?_, O3.out, T3.out, b3⟩
                rw [HSU.out, addP_in hin]
              case measure => simp [intOf]; omega
          · obtain rfl : i = q.length + 1 := by omega
            have hLp : L = insP P q := HLL.out
            subst hLp
            go_wp2
            go_roundw
            case rel => exact ⟨k + 1, x1, y1, h2, T2, insP P q, insS S q, by go_num, by omega, rfl, T3.out, G2h.out, O3.out, by unfold insP; omega, by omega, b3⟩
            case measure => simp [intOf]; omega
      · go_wp2_with fail
        refine (remove_calls B B h T P S q w1 T1.out HG.out (by omega) (by omega)).mono ?_
        rintro e w2 ⟨rfl, T2, t2, G2, s2⟩
        have o2 := own_stp T1.out O1.out s2
        have b2 := bel1.trans (s2.t.below (fun k hk => (T1.out.foot_lt k hk).1) hw1)
        have hsl : (S.erase q).length ≤ S.length := List.length_erase_le
        go_wp2
        go_roundw
        case rel => exact ⟨k + 1, x0, y0, h, T2, P, S.erase q, by go_num, by omega, rfl, t2, G2, o2, by omega, by omega, b2⟩
        case measure => simp [intOf]; omega
    · have hlp : ∀ s, s ∈ P → s.length ≤ P.length := fun s hs => HG.out.tree.paths.lenM hs
      have hml : ∀ i, i < P.length → (P.getD i []).length ≤ 10000 := fun i hi => by have := hlp _ (mem_getD hi); omega
      have hq : (queryI P k0 tail).length ≤ 1000000 := by
        unfold queryI
        by_cases h0 : P.length = 0
        · rw [if_pos h0]; omega
        · rw [if_neg h0, List.length_append]
          have := hml _ (Nat.mod_lt k0 (show 0 < P.length by omega))
          omega
      have iq := iquery_calls _ _ _ P k0 tail wr rfl OW.out (by omega) (by omega) (fun i hi => by have := hml i hi; omega)
      have IQ := hide2 iq
      clear iq hml hlp
      generalize queryI P k0 tail = q at *
      go_wp2_with fail
      refine IQ.out.mono ?_
      rintro e w2 ⟨rfl, he⟩
      obtain rfl := he.symm
      go_wp2_with fail
      refine (iwhere_calls _ _ _ P q _ rfl OW.out (by omega)).mono ?_
      rintro e w2 ⟨rfl, he⟩
      obtain rfl := he.symm
      go_wp2_with fail
      refine (find_T _ _ h T P q _ T0.out HG.out.tree (by unfold maxLen; omega)).mono ?_
      rintro e w2 ⟨rfl, he⟩
      obtain rfl := he.symm
      generalize (ix P q).isSome = bb
      generalize (ix P q).getD 0 = nn
      have e1 : ((nn : Int) == (nn : Int)) = true := by simp
      have e2 : (bb == bb) = true := by simp
      go_wp2
      go_ret
      exact ⟨rfl, by rw [HB.out]; exact bel⟩
end Go.Proofs.Ymbrbm
