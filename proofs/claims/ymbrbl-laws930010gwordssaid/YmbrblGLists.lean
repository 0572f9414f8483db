/-
  zzs930010gcopy, zzs930010gsame: their contracts. Own text.
-/
import Derived.Test.YmbrblStrs
import Derived.Deep.QuietTactic
import Derived.BigQuiet
namespace Go.Proofs.Ymbrbl
open Go.RowKit

set_option maxRecDepth 100000 in
set_option maxHeartbeats 400000 in
theorem gcopy_calls (B : Nat) (a : Option Addr) (b off n c : Nat) (ss : List Str) (w : World) (hn : ss.length = n) (hb : n ≤ 1000000) (ha : 0 < n → a = some ⟨b, off, none⟩) (hc : Cells w b off ss) (hB : B ≤ w.heap.size) :
    Calls Yblm.prog 32 #[.slice a n c] w fun e w' => ∃ v, e = .returned v ∧ w'.ownsRow B 9 1 v n (ss.map Sv) ∧ Below w.heap.size w w' ∧ ∀ k, v.ownBlock = some k → w.heap.size ≤ k := by
  have HN : Hid (ss.length = n) := hn
  have HA := hide2 ha
  clear hn ha
  go_enter Yblm.func32, Yblm.ntmps32
  go_wp2
  go_loopw [3, 4] (fun v i wr => ∃ k : Nat, i = .int .i64 k ∧ k ≤ n ∧ (∃ x y, v = .slice x k y) ∧ wr.ownsRow B 9 1 v k ((ss.take k).map Sv) ∧ Below w.heap.size w wr ∧ ∀ k, v.ownBlock = some k → w.heap.size ≤ k) (fun _ i _ => n - (intOf i).toNat)
  case atStart =>
    refine ⟨0, rfl, Nat.zero_le _, ⟨_, _, rfl⟩, ?_, (Below.refl _ w).alloc (Nat.le_refl _) _, fun k hk => ?_⟩
    · simpa using own_empty w B hB
    · simp [Value.ownBlock] at hk; omega
  case round =>
    obtain ⟨k, rfl, hk, ⟨x, y, rfl⟩, own, bel, hf⟩ := hrel
    by_cases hlt : k < n
    · have hea := HA.out (by omega)
      subst hea
      have hcell := (bel.cell (p := ⟨b, off + k, none⟩) (hc.lt (by have := HN.out; omega))).trans (hc.c k (by have := HN.out; omega))
      have HT : Hid (ss.take (k + 1) = ss.take k ++ [ss.getD k []]) := take_snoc ss k [] (by have := HN.out; omega)
      have HF := hide2 hf
      clear hf
      generalize ss.getD k [] = sk at hcell HT
      have hbs := bel.size
      go_wp2_with (at_builtin; go_must (refine wpList_app_str (.tmp 12) (.tmp 17) rfl rfl B k _ _ rfl own sk wr.heap.size rfl rfl (by omega) (by omega) ?_))
      intro g cap w1 own1 st
      go_wp2
      go_roundw
      case rel =>
        refine ⟨k + 1, by go_num, by omega, ⟨_, _, rfl⟩, ?_, bel.trans (st.toBelow (fun j hj => HF.out j hj) hbs), fun j hj => ?_⟩
        · rw [HT.out, List.map_append, List.map_take]; exact own1
        · rcases st.f j hj with h | h
          · exact HF.out j h
          · omega
      case measure => simp [intOf]; omega
    · obtain rfl : k = n := by omega
      go_wp2
      go_ret
      exact ⟨_, rfl, by rw [← HN.out, List.take_length] at own; rw [← HN.out]; exact own, bel, hf⟩

set_option maxRecDepth 100000 in
set_option maxHeartbeats 400000 in
/-- Two equal lists. -/
theorem gsame_calls (B : Nat) (v u : Value) (n : Nat) (ss : List Str) (w : World) (hn : ss.length = n) (hb : n ≤ 1000000) (hv : w.ownsRow B 9 1 v n (ss.map Sv)) (hu : w.ownsRow B 9 1 u n (ss.map Sv)) :
    Calls Yblm.prog 34 #[v, u] w fun e w' => e = .returned (.bool true) ∧ ∃ m, w' = w.drewN m := by
  obtain ⟨a1, c1, rfl⟩ := ownsRow_slice hv
  obtain ⟨a2, c2, rfl⟩ := ownsRow_slice hu
  have HN : Hid (ss.length = n) := hn
  have hne : ((n : Int) != (n : Int)) = false := by simp
  clear hn
  go_enter Yblm.func34, Yblm.ntmps34
  go_wp2
  go_loopw [5] (fun i wr => ∃ k : Nat, i = .int .i64 k ∧ k ≤ n ∧ ∃ m, wr = w.drewN m) (fun i _ => n - (intOf i).toNat)
  case atStart => exact ⟨0, rfl, Nat.zero_le _, 0, rfl⟩
  case round =>
    obtain ⟨k, rfl, hk, m, rfl⟩ := hrel
    by_cases hlt : k < n
    · obtain ⟨g1, p1, e1, _, _⟩ := hv.form (by omega)
      obtain ⟨g2, p2, e2, _, _⟩ := hu.form (by omega)
      obtain ⟨rfl, rfl⟩ : a1 = some ⟨g1, 0, none⟩ ∧ c1 = p1 := by simpa using e1
      obtain ⟨rfl, rfl⟩ : a2 = some ⟨g2, 0, none⟩ ∧ c2 = p2 := by simpa using e2
      have d1 := own_cell hv k _ (getD_map_sv ss k (by have := HN.out; omega))
      have d2 := own_cell hu k _ (getD_map_sv ss k (by have := HN.out; omega))
      generalize ss.getD k [] = sk at d1 d2
      have z1 : (0 : Int) ≤ (k : Int) := by omega
      have z2 : (k : Int) < (n : Int) := by omega
      have z3 : (sk == sk) = true := by simp
      clear e1 e2
      go_wp2
      go_quiet (fail)
      go_wp2
      go_roundw
      case rel => exact ⟨k + 1, by go_num, by omega, _, rfl⟩
      case measure => simp [intOf]; omega
    · go_wp2
      go_ret
      exact ⟨rfl, m, rfl⟩
end Go.Proofs.Ymbrbl
