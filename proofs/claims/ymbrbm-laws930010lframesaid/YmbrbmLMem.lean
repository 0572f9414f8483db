/-
  Appends to the copies of a Trie's rows, which lie apart from it; the cells of the copies. Own text.
-/
import Derived.Test.YmbrbmLPlain
import Derived.Test.YmbrbmMake
namespace Go.Proofs.Ymbrbm
open Go.RowKit

/-- 'v = append(v, x)', v nil or the call's own: behind the new block that holds x. -/
theorem wpList_app_row {w0 : World} {ops : Array Oper} {rest : List Oper} {o : Oper} {a : Act} {Q : Exit → Act → World → Prop} (s x : Operand) (t e : TypeId) (size bytes : Nat) (z : Value)
    (hgd : o.guard = none) (ho : o.op = .call { callee := .builtin .append, args := #[s, x], argTypes := #[t, t] })
    (ht : Ybmm.prog.underlying t = some (.slice e)) (hinfo : (Ybmm.prog.info? e).map (fun i => (i.zero, i.size, i.bytes)) = some (some z, size, bytes)) (hzs : z.cells.size = size) (hsz : 0 < size) (hby : bytes ≤ 208)
    (B n : Nat) (v : Value) (xs : List Value) (hs : a.eval s = v) (own : w0.ownsRow B e size v n xs) (cs : Array Value) (news : List Value) (hcs : cs.toList = news) (hnl : news.length = size) (h1 : ∀ u ∈ news, u.oneCell' = true) (H : Nat) (hH : w0.heap.size = H) (hx : a.eval x = .slice (some ⟨H, 0, none⟩) 1 1) (hn : n ≤ 1000000) (hb : B ≤ w0.heap.size)
    (h : ∀ g cap w1, w1.ownsRow B e size (.slice (some ⟨g, 0, none⟩) (n + 1) cap) (n + 1) (xs ++ news) → Lst v w0 (.slice (some ⟨g, 0, none⟩) (n + 1) cap) w1 → wpList Ybmm.prog ops Q rest (a.put o.dst (.slice (some ⟨g, 0, none⟩) (n + 1) cap)) w1) :
    wpList Ybmm.prog ops Q (o :: rest) a (w0.alloc (.cells cs e)) := by
  obtain ⟨i, hi, hz, hsi, hbi⟩ := info_parts hinfo
  subst hH
  refine wpList_append_lies _ hgd s x t ho B e i z size bytes ht hi hz hsi hbi hzs hsz v n xs hs (own.alloc _) ⟨w0.heap.size, 0, none⟩ 1 1 news hx (by rw [hnl, Nat.one_mul]) ?_ h1 (by decide) (by unfold maxLen; omega) ?_ (by simp; omega) (w0.heap.size + 1) (by simp) ?_
  · intro j u hu
    exact World.news_of_block (heap_alloc_new w0 _) j u (by rw [hcs]; exact hu)
  · have : (n + 1) * bytes ≤ 1000001 * 208 := Nat.mul_le_mul (by omega) hby
    omega
  · intro g cap w1 own1 gr hat _
    refine h g cap w1 own1 ⟨((Touch.refl _ w0).alloc _).grown gr (fun k e _ => by simp [e]), fun k hk => ?_⟩
    simp [Value.ownBlock] at hk
    subst hk
    rcases hat with e | e
    · exact .inl e
    · right; omega

theorem own_lst' {w w' : World} {B' e sz n : Nat} {v u u' : Value} {xs : List Value} (own : w.ownsRow B' e sz v n xs) (x : Lst u w u' w') (hne : ∀ k, v.ownBlock = some k → u.ownBlock ≠ some k) : w'.ownsRow B' e sz v n xs :=
  ownsRow_of_block own (fun k hk => x.t.block k (own.lt k hk).2 (fun hf => hne k hk (by simpa [Option.mem_toList] using hf)))
theorem types_apart {w : World} {B B' e e' sz sz' n m : Nat} {u v : Value} {xs ys : List Value} (o1 : w.ownsRow B e sz u n xs) (o2 : w.ownsRow B' e' sz' v m ys) (hne : e ≠ e') : ∀ k, u.ownBlock = some k → v.ownBlock ≠ some k := by
  intro k h1 h2
  obtain ⟨_, cs, hc⟩ := ownsRow_type o1 h1
  obtain ⟨_, ds, hd⟩ := ownsRow_type o2 h2
  rw [hc] at hd
  simp at hd
  exact hne hd.2
/-- Three rows apart from a Trie. -/
structure Cp3 (w : World) (C p : Nat) (h : Hd) (uN uW uB : Value) (nN nW nB : Nat) (xN xW xB : List Value) : Prop where
  oN : w.ownsRow C 69 26 uN nN xN
  oW : w.ownsRow C 4 1 uW nW xW
  oB : w.ownsRow C 3 1 uB nB xB
  ap : ∀ k ∈ foot p h, uN.ownBlock ≠ some k ∧ uW.ownBlock ≠ some k ∧ uB.ownBlock ≠ some k
section
variable {w w' : World} {B C p : Nat} {h : Hd} {uN uW uB v' : Value} {nN nW nB n' kN kW kB : Nat} {xN xW xB x' yN yW yB : List Value}
theorem ta_lst {v : Value} (t : TA w B p h kN kW kB yN yW yB) (hap : ∀ k ∈ foot p h, v.ownBlock ≠ some k) (x : Lst v w v' w') : TA w' B p h kN kW kB yN yW yB ∧ ∀ k ∈ foot p h, v'.ownBlock ≠ some k := by
  refine ⟨t.touch x.t (fun k hk hf => hap k hk (by simpa [Option.mem_toList] using hf)), fun k hk e => ?_⟩
  rcases x.f k e with hf | hf
  · exact hap k hk hf
  · have := (t.foot_lt k hk).2
    omega
theorem Cp3.appN (c : Cp3 w C p h uN uW uB nN nW nB xN xW xB) (t : TA w B p h kN kW kB yN yW yB) (x : Lst uN w v' w') (o : w'.ownsRow C 69 26 v' n' x') : Cp3 w' C p h v' uW uB n' nW nB x' xW xB ∧ TA w' B p h kN kW kB yN yW yB := by
  obtain ⟨t', a'⟩ := ta_lst t (fun k hk => (c.ap k hk).1) x
  exact ⟨⟨o, own_lst' c.oW x (types_apart c.oW c.oN (by decide)), own_lst' c.oB x (types_apart c.oB c.oN (by decide)), fun k hk => ⟨a' k hk, (c.ap k hk).2.1, (c.ap k hk).2.2⟩⟩, t'⟩
theorem Cp3.appW (c : Cp3 w C p h uN uW uB nN nW nB xN xW xB) (t : TA w B p h kN kW kB yN yW yB) (x : Lst uW w v' w') (o : w'.ownsRow C 4 1 v' n' x') : Cp3 w' C p h uN v' uB nN n' nB xN x' xB ∧ TA w' B p h kN kW kB yN yW yB := by
  obtain ⟨t', a'⟩ := ta_lst t (fun k hk => (c.ap k hk).2.1) x
  exact ⟨⟨own_lst' c.oN x (types_apart c.oN c.oW (by decide)), o, own_lst' c.oB x (types_apart c.oB c.oW (by decide)), fun k hk => ⟨(c.ap k hk).1, a' k hk, (c.ap k hk).2.2⟩⟩, t'⟩
theorem Cp3.appB (c : Cp3 w C p h uN uW uB nN nW nB xN xW xB) (t : TA w B p h kN kW kB yN yW yB) (x : Lst uB w v' w') (o : w'.ownsRow C 3 1 v' n' x') : Cp3 w' C p h uN uW v' nN nW n' xN xW x' ∧ TA w' B p h kN kW kB yN yW yB := by
  obtain ⟨t', a'⟩ := ta_lst t (fun k hk => (c.ap k hk).2.2) x
  exact ⟨⟨own_lst' c.oN x (types_apart c.oN c.oB (by decide)), own_lst' c.oW x (types_apart c.oW c.oB (by decide)), o, fun k hk => ⟨(c.ap k hk).1, (c.ap k hk).2.1, a' k hk⟩⟩, t'⟩
end
theorem Cop.to3 {w : World} {C p : Nat} {h : Hd} {uN uW uB : Value} {T : TT} (c : Cop w C p h uN uW uB T) : Cp3 w C p h uN uW uB T.wd.length T.wd.length T.wd.length (T.nx.map (.int .i64)) (T.wd.map .bool) (T.bl.map (.int .i64)) := ⟨c.oN, c.oW, c.oB, c.ap⟩
/-- Three rows of length n, the copies of E's. -/
abbrev CpE (w : World) (C p : Nat) (h : Hd) (uN uW uB : Value) (n : Nat) (E : TT) : Prop := Cp3 w C p h uN uW uB n n n (E.nx.map (.int .i64)) (E.wd.map .bool) (E.bl.map (.int .i64))
theorem ext_zero (T : TT) : T.ext 0 = T := by
  unfold TT.ext
  simp
theorem ext_step (T : TT) (j : Nat) : (T.ext j).nx.map (Value.int .i64) ++ zrow = (T.ext (j + 1)).nx.map (.int .i64) ∧ (T.ext j).wd.map Value.bool ++ [.bool false] = (T.ext (j + 1)).wd.map .bool ∧ (T.ext j).bl.map (Value.int .i64) ++ [.int .i64 0] = (T.ext (j + 1)).bl.map (.int .i64) := by
  unfold TT.ext
  refine ⟨?_, ?_, ?_⟩
  · simp only [List.map_append, List.map_replicate, zrow]
    rw [List.append_assoc, List.replicate_append_replicate, show j * 26 + 26 = (j + 1) * 26 by omega]
  · simp [List.replicate_succ']
  · simp [List.replicate_succ']
/-- The cells of the three copies. -/
structure CView (w : World) (gN gW gB n : Nat) (E : TT) : Prop where
  N : ∀ i l, i < n → l < 26 → w.cell? ⟨gN, i * 26 + l, none⟩ = some (.int .i64 (E.nxt i l))
  W : ∀ i, i < n → w.cell? ⟨gW, i, none⟩ = some (.bool (E.wd.getD i false))
  B : ∀ i, i < n → w.cell? ⟨gB, i, none⟩ = some (.int .i64 (E.bl.getD i 0))
theorem cview {w : World} {C p gN gW gB cN cW cB n : Nat} {h : Hd} {E : TT} (c : CpE w C p h (.slice (some ⟨gN, 0, none⟩) n cN) (.slice (some ⟨gW, 0, none⟩) n cW) (.slice (some ⟨gB, 0, none⟩) n cB) n E) : CView w gN gW gB n E := by
  have l1 := c.oN.1
  have l2 := c.oW.1
  have l3 := c.oB.1
  rw [List.length_map] at l1 l2 l3
  refine ⟨fun i l hi hl => own_cell c.oN (i * 26 + l) _ ?_, fun i hi => own_cell c.oW i _ ?_, fun i hi => own_cell c.oB i _ ?_⟩
  · have h1 : i * 26 + l < E.nx.length := by omega
    simp [TT.nxt, List.getD, List.getElem?_eq_getElem h1]
  · have h1 : i < E.wd.length := by omega
    simp [List.getD, List.getElem?_eq_getElem h1]
  · have h1 : i < E.bl.length := by omega
    simp [List.getD, List.getElem?_eq_getElem h1]
theorem Cp3.below {w w' : World} {C p : Nat} {h : Hd} {uN uW uB : Value} {nN nW nB : Nat} {xN xW xB : List Value} (c : Cp3 w C p h uN uW uB nN nW nB xN xW xB) (b : Below w.heap.size w w') : Cp3 w' C p h uN uW uB nN nW nB xN xW xB :=
  ⟨own_below c.oN b, own_below c.oW b, own_below c.oB b, c.ap⟩
theorem made_bools (w : World) (n B : Nat) (hB : B ≤ w.heap.size) (hn : n ≤ 1000000000) : (w.alloc (.cells (falses n) 4)).ownsRow B 4 1 (.slice (some ⟨w.heap.size, 0, none⟩) n n) n ((List.replicate n false).map .bool) := by
  have := World.ownsRow_lit (base := B) (e := 4) (size := 1) w (falses n) n hB (by unfold maxLen; omega) (by simp [falses])
  rw [show (List.replicate n false).map Value.bool = (falses n).toList by simp [falses]]
  exact this
theorem made_ints (w : World) (n B : Nat) (hB : B ≤ w.heap.size) (hn : n ≤ 1000000000) : (w.alloc (.cells (zers n) 3)).ownsRow B 3 1 (.slice (some ⟨w.heap.size, 0, none⟩) n n) n ((List.replicate n (0 : Int)).map (.int .i64)) := by
  have := World.ownsRow_lit (base := B) (e := 3) (size := 1) w (zers n) n hB (by unfold maxLen; omega) (by simp [zers])
  rw [show (List.replicate n (0 : Int)).map (Value.int .i64) = (zers n).toList by simp [zers]]
  exact this
/-- -1 so far, zeros behind it. -/
def neg (k m : Nat) : List Int := List.replicate k (-1) ++ List.replicate m 0
theorem neg_set (k m : Nat) : (neg k (m + 1)).set k (-1) = neg (k + 1) m := by
  unfold neg
  rw [List.set_append_right _ _ (by simp), List.length_replicate, Nat.sub_self, List.replicate_succ, List.set_cons_zero, List.replicate_succ', List.append_assoc]
  rfl
theorem neg_get (k m : Nat) : (neg k (m + 1))[k]? = some 0 := by
  unfold neg
  rw [List.getElem?_append_right (by simp), List.length_replicate, Nat.sub_self]
  rfl
theorem neg_all (P' : List Str) (q : Str) (n : Nat) (h : P'.length = n) : neg n 0 = stL P' q 0 := by
  rw [stL_zero, h]
  unfold neg
  simp
theorem onL_get {P' : List Str} {q : Str} {n : Nat} (h : n < P'.length) : ((onL P' q q.length).map Value.bool)[n]? = some (.bool ((P'.getD n []).isPrefixOf q)) := by
  unfold onL
  simp [List.getD, List.getElem?_eq_getElem h]
theorem stL_get {P' : List Str} {q : Str} {n : Nat} (h : n < P'.length) : ((stL P' q q.length).map (Value.int .i64))[n]? = some (.int .i64 (stp q q.length (P'.getD n []))) := by
  unfold stL
  simp [List.getD, List.getElem?_eq_getElem h]
theorem get_some {L : List Bool} {n i : Nat} (hl : L.length = n) (h : i < n) : ∃ b, (L.map Value.bool)[i]? = some (.bool b) := by
  rw [List.getElem?_map, List.getElem?_eq_getElem (by omega)]
  exact ⟨_, rfl⟩
theorem get_someI {L : List Int} {n i : Nat} (hl : L.length = n) (h : i < n) : ∃ z, (L.map (Value.int .i64))[i]? = some (.int .i64 z) := by
  rw [List.getElem?_map, List.getElem?_eq_getElem (by omega)]
  exact ⟨_, rfl⟩
theorem onL_len (P' : List Str) (q : Str) (i : Nat) : (onL P' q i).length = P'.length := by unfold onL; simp
theorem stL_len (P' : List Str) (q : Str) (i : Nat) : (stL P' q i).length = P'.length := by unfold stL; simp
end Go.Proofs.Ymbrbm
