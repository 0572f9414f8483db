/-
  The walk of LawS930010IPaths. Own text.
-/
import Derived.Test.YmbrblIBuild
import Derived.Test.YmbrblIPathsFns
namespace Go.Proofs.Ymbrbl
open Go.RowKit

set_option maxRecDepth 100000 in
set_option maxHeartbeats 400000 in
theorem ipaths_big (a : Option Addr) (m c : Nat) (k : Int) (tail : Str) (w : World) (h : 256 < m ∨ 1024 < tail.length) :
    Calls Yblm.prog 14 #[.slice a m c, .int .u16 k, Sv tail] w fun e w' => e = .returned (.bool true) ∧ Below w.heap.size w w' := by
  by_cases h1 : 256 < m
  · have hd : decide ((256 : Int) < (m : Int)) = true := decide_eq_true (by omega)
    go_enter Yblm.func14, Yblm.ntmps14
    go_wp2
    go_ret
    exact ⟨rfl, Below.refl _ _⟩
  · have hd : decide ((256 : Int) < (m : Int)) = false := decide_eq_false (by omega)
    have hd2 : decide ((1024 : Int) < (tail.length : Int)) = true := decide_eq_true (by omega)
    go_enter Yblm.func14, Yblm.ntmps14
    go_wp2
    go_ret
    exact ⟨rfl, Below.refl _ _⟩

set_option maxRecDepth 100000 in
set_option maxHeartbeats 400000 in
theorem ipaths_walk (a : Option Addr) (b off m c : Nat) (S : List (Nat × Nat)) (k : Nat) (tail : Str) (w : World) (ha : 0 < m → a = some ⟨b, off, none⟩) (hs : Steps w b off m S) (hm : m ≤ 256) (hk : k ≤ 65535) (ht : tail.length ≤ 1024) :
    Calls Yblm.prog 14 #[.slice a m c, .int .u16 k, Sv tail] w fun e w' => e = .returned (.bool true) ∧ Below w.heap.size w w' := by
  have hd : decide ((256 : Int) < (m : Int)) = false := decide_eq_false (by omega)
  have hd2 : decide ((1024 : Int) < (tail.length : Int)) = false := decide_eq_false (by omega)
  have HA := hide2 ha
  have HS := hide2 hs
  clear ha hs
  go_enter Yblm.func14, Yblm.ntmps14
  go_wp2_with fail
  refine (ibuild_calls a b off m c S w HA.out HS.out hm).mono ?_
  rintro e w1 ⟨v, rfl, h, T, t, P, tr, own, hP, bel⟩
  obtain ⟨x0, y0, rfl⟩ := ownsRow_slice own
  have hlp := tr.paths.len_le
  have T0 := hide2 t
  have TR := hide2 tr
  have OW := hide2 own
  have HLP := hide2 hlp
  clear t tr own hlp
  go_wp2_with fail
  refine (iquery_calls _ _ _ P k tail w1 rfl OW.out (by omega) hk (fun i hi => by have := HLP.out i hi; omega)).mono ?_
  rintro e w2 ⟨rfl, rfl⟩
  have hq : (queryI P k tail).length ≤ 1000000 := by
    unfold queryI
    by_cases h0 : P.length = 0
    · rw [if_pos h0]; omega
    · rw [if_neg h0, List.length_append]
      have := HLP.out _ (Nat.mod_lt k (show 0 < P.length by omega))
      have := Nat.mod_lt k (show 0 < P.length by omega)
      omega
  generalize queryI P k tail = q at *
  go_wp2_with fail
  refine (iwhere_calls _ _ _ P q _ rfl OW.out (by omega)).mono ?_
  rintro e w3 ⟨rfl, rfl⟩
  go_wp2_with fail
  refine (find_T _ _ h T P q _ T0.out TR.out (by unfold maxLen; omega)).mono ?_
  rintro e w4 ⟨rfl, rfl⟩
  generalize (ix P q).isSome = bb
  generalize (ix P q).getD 0 = nn
  have e1 : ((nn : Int) == (nn : Int)) = true := by simp
  have e2 : (bb == bb) = true := by simp
  go_wp2
  go_ret
  exact ⟨rfl, bel⟩
end Go.Proofs.Ymbrbl
