/-
  Strings as lists of bytes; slices of strings that the call owns: append, what stays. Own text.
-/
import Derived.Test.YmbrbmMem2
namespace Go.Proofs.Ymbrbm
open Go.RowKit

theorem hide2 {p : Prop} (h : p) : Hid p := h
abbrev Str := List UInt8
/-- A string's value. -/
abbrev Sv (l : Str) : Value := .string ⟨l.toArray⟩
theorem sv_append (a b : Str) : (⟨a.toArray⟩ : ByteArray) ++ ⟨b.toArray⟩ = ⟨(a ++ b).toArray⟩ := by
  apply ByteArray.ext
  rw [ByteArray.data_append]
  simp
theorem infoStr : (Ybmm.prog.info? 9).map (fun i => (i.zero, i.size, i.bytes)) = some (some (.string ⟨#[]⟩), 1, 16) := by kernel_rfl

/-- What an append to an owned slice does to memory: its own block alone has turned; it lies there or in a new one. -/
structure Lst (v : Value) (w : World) (v' : Value) (w' : World) : Prop where
  t : Touch v.ownBlock.toList w w'
  f : ∀ k, v'.ownBlock = some k → v.ownBlock = some k ∨ w.heap.size ≤ k
theorem Lst.refl (v : Value) (w : World) : Lst v w v w := ⟨Touch.refl _ _, fun _ h => .inl h⟩
theorem Lst.trans {a b c : Value} {u v w : World} (x : Lst a u b v) (y : Lst b v c w) : Lst a u c w :=
  ⟨x.t.trans y.t (fun k hk hb => by
      rcases x.f k (by simpa [Option.mem_toList] using hb) with h | h
      · simp [h]
      · omega), fun k hk => by
    rcases y.f k hk with h | h
    · exact x.f k h
    · exact .inr (Nat.le_trans x.t.size h)⟩
/-- New memory alone behind it. -/
theorem Lst.below {v v' : Value} {u w w' : World} (x : Lst v u v' w) (b : Below w.heap.size w w') : Lst v u v' w' :=
  ⟨⟨b.os.trans x.t.os, b.tape.trans x.t.tape, b.output.trans x.t.output, Nat.le_trans x.t.size b.size, fun k hk hn => (b.block k (Nat.lt_of_lt_of_le hk x.t.size)).trans (x.t.block k hk hn)⟩, x.f⟩
theorem Lst.after {v v' : Value} {u w w' : World} (b : Below u.heap.size u w) (x : Lst v w v' w') : Lst v u v' w' :=
  ⟨⟨x.t.os.trans b.os, x.t.tape.trans b.tape, x.t.output.trans b.output, Nat.le_trans b.size x.t.size, fun k hk hn => (x.t.block k (Nat.lt_of_lt_of_le hk b.size) hn).trans (b.block k hk)⟩, fun k hk => by
    rcases x.f k hk with h | h
    · exact .inl h
    · exact .inr (Nat.le_trans b.size h)⟩
theorem Lst.toBelow {v v' : Value} {w w' : World} {B : Nat} (x : Lst v w v' w') (hv : ∀ k, v.ownBlock = some k → B ≤ k) (hB : B ≤ w.heap.size) : Below B w w' :=
  x.t.below (fun k hk => hv k (by simpa [Option.mem_toList] using hk)) hB

/-- A Trie stays where another slice's block is touched. -/
theorem TA.lst {w w' : World} {B p : Nat} {h : Hd} {nN nW nB : Nat} {xN xW xB : List Value} (t : TA w B p h nN nW nB xN xW xB) {B' n : Nat} {v v' : Value} {xs : List Value} (own : w.ownsRow B' 9 1 v n xs) (x : Lst v w v' w') : TA w' B p h nN nW nB xN xW xB := by
  refine t.touch x.t (fun k hk hf => ?_)
  obtain ⟨_, cs, hc⟩ := ownsRow_type own (show v.ownBlock = some k by simpa [Option.mem_toList] using hf)
  exact t.not_foot hc (by decide) (by decide) (by decide) (by decide) hk
/-- A slice of strings stays where a Trie is touched. -/
theorem own_stp {w w' : World} {B p : Nat} {h h' : Hd} {nN nW nB : Nat} {xN xW xB : List Value} (t : TA w B p h nN nW nB xN xW xB) {B' n : Nat} {v : Value} {xs : List Value} (own : w.ownsRow B' 9 1 v n xs) (s : Stp p h w h' w') : w'.ownsRow B' 9 1 v n xs := by
  refine ownsRow_of_block own (fun k hk => ?_)
  obtain ⟨_, cs, hc⟩ := ownsRow_type own hk
  exact s.t.block k (own.lt k hk).2 (t.not_foot hc (by decide) (by decide) (by decide) (by decide))
/-- A slice of strings stays where another one is touched. -/
theorem own_lst {w w' : World} {B' n : Nat} {v u u' : Value} {xs : List Value} (own : w.ownsRow B' 9 1 v n xs) (x : Lst u w u' w') (hne : ∀ k, v.ownBlock = some k → u.ownBlock ≠ some k) : w'.ownsRow B' 9 1 v n xs := by
  refine ownsRow_of_block own (fun k hk => x.t.block k (own.lt k hk).2 (fun hf => hne k hk (by simpa [Option.mem_toList] using hf)))

theorem own_below {w w' : World} {B e sz n : Nat} {v : Value} {xs : List Value} (own : w.ownsRow B e sz v n xs) (b : Below w.heap.size w w') : w'.ownsRow B e sz v n xs :=
  ownsRow_of_block own (fun k hk => b.block k (own.lt k hk).2)

/-- 'out = append(out, s)', out nil or the call's own: behind the new block that holds s. -/
theorem wpList_app_str {w0 : World} {ops : Array Oper} {rest : List Oper} {o : Oper} {a : Act} {Q : Exit → Act → World → Prop} (s x : Operand)
    (hgd : o.guard = none) (ho : o.op = .call { callee := .builtin .append, args := #[s, x], argTypes := #[30, 30] })
    (B n : Nat) (v : Value) (xs : List Value) (hs : a.eval s = v) (own : w0.ownsRow B 9 1 v n xs) (str : Str) (H : Nat) (hH : w0.heap.size = H) (hx : a.eval x = .slice (some ⟨H, 0, none⟩) 1 1)
    (hn : n ≤ 1000000000) (hb : B ≤ w0.heap.size)
    (h : ∀ g cap w1, w1.ownsRow B 9 1 (.slice (some ⟨g, 0, none⟩) (n + 1) cap) (n + 1) (xs ++ [Sv str]) → Lst v w0 (.slice (some ⟨g, 0, none⟩) (n + 1) cap) w1 → wpList Ybmm.prog ops Q rest (a.put o.dst (.slice (some ⟨g, 0, none⟩) (n + 1) cap)) w1) :
    wpList Ybmm.prog ops Q (o :: rest) a (w0.alloc (.cells #[Sv str] 9)) := by
  obtain ⟨i9, hi9, hz9, hs9, hb9⟩ := info_parts infoStr
  refine wpList_append_lies _ hgd s x 30 ho B 9 i9 _ 1 16 Ybmm.underlying30 hi9 hz9 hs9 hb9 rfl (by decide) v n xs hs (own.alloc _) ⟨H, 0, none⟩ 1 1 [Sv str] hx rfl (news1 _ _ _ _ hH) (one1 rfl) (by decide) (by unfold maxLen; omega) (by omega) (by simp; omega) (w0.heap.size + 1) (by simp) ?_
  intro g cap w1 own1 gr hat _
  refine h g cap w1 own1 ⟨((Touch.refl _ w0).alloc _).grown gr (fun k e _ => by simp [e]), fun k hk => ?_⟩
  simp [Value.ownBlock] at hk
  subst hk
  rcases hat with e | e
  · exact .inl e
  · right; omega
/-- A new empty slice of strings. -/
theorem own_empty (w : World) (B : Nat) (hb : B ≤ w.heap.size) : (w.alloc (.cells #[] 9)).ownsRow B 9 1 (.slice (some ⟨w.heap.size, 0, none⟩) 0 0) 0 [] :=
  World.ownsRow_made w #[] 0 hb (by unfold maxLen; omega) rfl

/-- Strings that came in, or that are owned: cell by cell. -/
structure Cells (w : World) (b off : Nat) (ss : List Str) : Prop where
  lt : 0 < ss.length → b < w.heap.size
  c : ∀ i, i < ss.length → w.cell? ⟨b, off + i, none⟩ = some (Sv (ss.getD i []))
theorem Cells.below {w w' : World} {b off : Nat} {ss : List Str} (h : Cells w b off ss) (hb : Below w.heap.size w w') : Cells w' b off ss :=
  ⟨fun h0 => Nat.lt_of_lt_of_le (h.lt h0) hb.size, fun i hi => (hb.cell (p := ⟨b, off + i, none⟩) (h.lt (by omega))).trans (h.c i hi)⟩
theorem getD_map_sv (ss : List Str) (i : Nat) (h : i < ss.length) : (ss.map Sv)[i]? = some (Sv (ss.getD i [])) := by
  simp [List.getD, List.getElem?_eq_getElem h]
theorem take_snoc {α : Type} (l : List α) (k : Nat) (d : α) (h : k < l.length) : l.take (k + 1) = l.take k ++ [l.getD k d] := by
  rw [List.take_succ_eq_append_getElem h]; simp [List.getD, List.getElem?_eq_getElem h]
end Go.Proofs.Ymbrbm
