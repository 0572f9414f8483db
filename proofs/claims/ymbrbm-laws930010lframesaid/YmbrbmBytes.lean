/-
  Rows of bytes that a call owns: append of a byte, the string of them. Own text.
-/
import Derived.Test.YmbrbmTree
import Derived.Laws.IdiomStrings
namespace Go.Proofs.Ymbrbm
open Go.RowKit

theorem infoByte : (Ybmm.prog.info? 5).map (fun i => (i.zero, i.size, i.bytes)) = some (some (.int .u8 0), 1, 1) := by kernel_rfl
abbrev Bv (c : UInt8) : Value := .int .u8 (c.toNat : Int)

/-- 'b = append(b, c)', b the call's own: behind the new block that holds c. -/
theorem wpList_app_byte {w0 : World} {ops : Array Oper} {rest : List Oper} {o : Oper} {a : Act} {Q : Exit → Act → World → Prop} (s x : Operand)
    (hgd : o.guard = none) (ho : o.op = .call { callee := .builtin .append, args := #[s, x], argTypes := #[45, 45] })
    (B n : Nat) (v : Value) (xs : List Value) (hs : a.eval s = v) (own : w0.ownsRow B 5 1 v n xs) (z : Int) (H : Nat) (hH : w0.heap.size = H) (hx : a.eval x = .slice (some ⟨H, 0, none⟩) 1 1)
    (hn : n ≤ 1000000000) (hb : B ≤ w0.heap.size)
    (h : ∀ g cap w1, w1.ownsRow B 5 1 (.slice (some ⟨g, 0, none⟩) (n + 1) cap) (n + 1) (xs ++ [.int .u8 z]) → Below B w0 w1 → wpList Ybmm.prog ops Q rest (a.put o.dst (.slice (some ⟨g, 0, none⟩) (n + 1) cap)) w1) :
    wpList Ybmm.prog ops Q (o :: rest) a (w0.alloc (.cells #[.int .u8 z] 5)) := by
  obtain ⟨i9, hi9, hz9, hs9, hb9⟩ := info_parts infoByte
  refine wpList_append_lies _ hgd s x 45 ho B 5 i9 _ 1 1 Ybmm.underlying45 hi9 hz9 hs9 hb9 rfl (by decide) v n xs hs (own.alloc _) ⟨H, 0, none⟩ 1 1 [.int .u8 z] hx rfl (news1 _ _ _ _ hH) (one1 rfl) (by decide) (by unfold maxLen; omega) (by omega) (by simp; omega) (w0.heap.size + 1) (by simp) ?_
  intro g cap w1 own1 gr hat _
  have bt : Touch v.ownBlock.toList w0 w1 := ((Touch.refl _ w0).alloc _).grown gr (fun k e _ => by simp [e])
  exact h g cap w1 own1 (bt.below (fun k hk => (own.lt k (by simpa [Option.mem_toList] using hk)).1) hb)
/-- A new empty slice of bytes. -/
theorem own_empty5 (w : World) (B : Nat) (hb : B ≤ w.heap.size) : (w.alloc (.cells #[] 5)).ownsRow B 5 1 (.slice (some ⟨w.heap.size, 0, none⟩) 0 0) 0 [] :=
  World.ownsRow_made w #[] 0 hb (by unfold maxLen; omega) rfl
/-- 'string(b)'. -/
theorem bytes_str {w : World} {B g n c : Nat} {l : Str} (own : w.ownsRow B 5 1 (.slice (some ⟨g, 0, none⟩) n c) n (l.map Bv)) :
    (convert 45 9 (.slice (some ⟨g, 0, none⟩) n c)).run Ybmm.prog w = .ok (Sv l) w := by
  have hn : l.length = n := by have := own.1; simpa using this
  subst hn
  refine run_convert_bytes_back w _ _ 5 ⟨g, 0, none⟩ c l Ybmm.underlying45 Ybmm.underlying5 Ybmm.underlying9 (fun j hj => ?_)
  exact own.cells (g := g) rfl j _ (by simp [hj])
end Go.Proofs.Ymbrbm
