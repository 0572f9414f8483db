/-
  zzs930010iwhere, zzs930010iquery: their contracts. Own text.
-/
import Derived.Test.YmbrbmTree
namespace Go.Proofs.Ymbrbm
open Go.RowKit

set_option maxRecDepth 100000 in
set_option maxHeartbeats 400000 in
theorem iwhere_calls (B : Nat) (v : Value) (n : Nat) (ss : List Str) (q : Str) (w : World) (hn : ss.length = n) (own : w.ownsRow B 9 1 v n (ss.map Sv)) (hb : n ≤ 1000000) :
    Calls Ybmm.prog 17 #[v, Sv q] w fun e w' => e = .returned (.tuple #[.int .i64 ((ix ss q).getD 0 : Nat), .bool (ix ss q).isSome]) ∧ w' = w := by
  obtain ⟨a, c, rfl⟩ := ownsRow_slice own
  have HN := hide2 hn
  clear hn
  go_enter Ybmm.func17, Ybmm.ntmps17
  go_wp2
  go_loop [6] (fun i => ∃ k : Nat, i = .int .i64 k ∧ k ≤ n ∧ ix (ss.take k) q = none) (fun i => n - (intOf i).toNat)
  case atStart => exact ⟨0, rfl, Nat.zero_le _, rfl⟩
  case round =>
    obtain ⟨k, rfl, hk, hno⟩ := hrel
    have HNO := hide2 hno
    clear hno
    by_cases hlt : k < n
    · obtain ⟨g, cap, he, _, _⟩ := own.form (by omega)
      obtain ⟨rfl, rfl⟩ : a = some ⟨g, 0, none⟩ ∧ c = cap := by simpa using he
      have hc := own_cell own k _ (getD_map_sv ss k (by have := HN.out; omega))
      have ht := take_snoc ss k [] (by have := HN.out; omega)
      have hs := ix_snoc (ss.take k) (ss.getD k []) q
      rw [← ht, HNO.out, Option.none_or, List.length_take, HN.out, Nat.min_eq_left (by omega)] at hs
      have HS := hide2 hs
      clear he ht hs
      generalize ss.getD k [] = sk at hc HS
      cases hq : (sk == q)
      · rw [hq] at HS
        go_wp2
        go_round
        case rel => exact ⟨k + 1, by go_num, by omega, HS.out⟩
        case measure => simp [intOf]; omega
      · rw [hq] at HS
        have hfin : ix ss q = some k := by
          have e : ss = ss.take (k + 1) ++ ss.drop (k + 1) := (List.take_append_drop _ _).symm
          rw [e]
          unfold ix
          rw [List.findIdx?_append]
          have := HS.out
          unfold ix at this
          rw [this]
          rfl
        have HF := hide2 hfin
        clear hfin
        go_wp2
        go_ret2
        exact ⟨by rw [HF.out]; rfl, rfl⟩
    · have hfin : ix ss q = none := by
        have := HNO.out
        rwa [List.take_of_length_le (by have := HN.out; omega)] at this
      have HF := hide2 hfin
      clear hfin
      go_wp2
      go_ret2
      exact ⟨by rw [HF.out]; rfl, rfl⟩

/-- The query: a path followed by the tail. -/
def queryI (ss : List Str) (k : Nat) (tail : Str) : Str := if ss.length = 0 then tail else ss.getD (k % ss.length) [] ++ tail
set_option maxRecDepth 100000 in
set_option maxHeartbeats 400000 in
theorem iquery_calls (B : Nat) (v : Value) (n : Nat) (ss : List Str) (k : Nat) (tail : Str) (w : World) (hn : ss.length = n) (own : w.ownsRow B 9 1 v n (ss.map Sv)) (hb : n ≤ 1000000) (hk : k ≤ 65535) (hl : ∀ i, i < n → (ss.getD i []).length + tail.length ≤ 1000000) :
    Calls Ybmm.prog 18 #[v, .int .u16 k, Sv tail] w fun e w' => e = .returned (Sv (queryI ss k tail)) ∧ w' = w := by
  obtain ⟨a, c, rfl⟩ := ownsRow_slice own
  by_cases h0 : n = 0
  · have hq : queryI ss k tail = tail := by unfold queryI; rw [if_pos (by omega)]
    rw [hq]
    have hz : ((n : Int) == 0) = true := beq_iff_eq.2 (by omega)
    clear hq hl
    go_enter Ybmm.func18, Ybmm.ntmps18
    go_wp2
    go_ret
    exact ⟨rfl, rfl⟩
  · have hz : ((n : Int) == 0) = false := beq_eq_false_iff_ne.2 (by omega)
    obtain ⟨g, cap, he, _, _⟩ := own.form (by omega)
    obtain ⟨rfl, rfl⟩ : a = some ⟨g, 0, none⟩ ∧ c = cap := by simpa using he
    have hm : k % n < n := Nat.mod_lt _ (by omega)
    have hc := own_cell own (k % n) _ (getD_map_sv ss (k % n) (by omega))
    have hq : queryI ss k tail = ss.getD (k % n) [] ++ tail := by unfold queryI; rw [if_neg (by omega), hn]
    rw [hq]
    have hle := hl (k % n) hm
    clear hl hq he
    generalize ss.getD (k % n) [] = sk at hc hle
    have hcl : ¬ (9223372036854775807 < List.length sk + List.length tail) := by omega
    go_enter Ybmm.func18, Ybmm.ntmps18
    go_wp2
    go_ret
    exact ⟨by rw [sv_append]; rfl, rfl⟩
end Go.Proofs.Ymbrbm
