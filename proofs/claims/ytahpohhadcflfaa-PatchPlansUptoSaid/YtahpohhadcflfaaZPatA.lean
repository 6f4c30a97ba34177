/- Spots and loops by value: origins, what is lent and kept. -/
import Derived.Test.YtahpohhadcflfaaZEqP
import Derived.Test.YtahpohhadcflfaaZLisTop
namespace Go.Abs
open Go Go.Proofs Go.Proofs.Ytahpohhadcflfaa.LisMath Go.RowKit Go.IntWalk
set_option linter.unusedVariables false
set_option linter.unusedSimpArgs false

theorem Acc.clp {kd t : Nat} {st : St} {y : AObj} {v : AV} {c : List (List AV)} (h : Acc kd t (st.put t y) v c) (hc : Cl st) : Cl (st.put t y) := by
  have ht : t < (st.put t y).length := by
    rcases h with ⟨_, _, e, h⟩ | ⟨ep, _, h⟩ | ⟨_, e, h⟩ <;> exact St.get_lt h
  have hy : St.get (st.put t y) t = some y := St.get_put_same (by simpa using ht)
  refine hc.put ?_
  rcases h with ⟨_, _, e, h⟩ | ⟨ep, _, h⟩ | ⟨_, e, h⟩ <;> (rw [hy] at h; cases h; rfl)
/-! ### Attributes -/
structure Attr where
  name : List UInt8
  value : List UInt8
  deriving DecidableEq
def attrC (a : Attr) : List AV := [.str a.name, .str a.value]
def attrs (l : List Attr) : List (List AV) := l.map attrC
theorem attrs_len (l : List Attr) : (attrs l).length = l.length := by simp [attrs]
theorem attrs_get {l : List Attr} {j : Nat} {c : Attr} (h : l[j]? = some c) : (attrs l)[j]? = some (attrC c) := by simp [attrs, h]
theorem attrs_app (l m : List Attr) : attrs (l ++ m) = attrs l ++ attrs m := by simp [attrs]
theorem closed_attrs (n : Nat) (l : List Attr) : AV.closedss n (attrs l) = true := by
  induction l with
  | nil => rfl
  | cons c l ih => simp [attrs, AV.closedss, AV.closeds, AV.closed, attrC] at ih ⊢; exact ih
section
variable {R : Type} {st : St} {a : AV} {l : List Attr} {j : Nat} {c : Attr}
theorem rda (h : Rd st 2 a (attrs l)) (hj : l[j]? = some c) (K : AV → Option R) :
    ((natA (.int .i64 (j : Int))).bind fun j => (idxSl st 2 a j).bind fun v => (readA st v 2 true).bind K) = K (.agg (attrC c)) := h.agg (attrs_get hj) rfl K
theorem lna (h : Rd st 2 a (attrs l)) (K : Int → Option R) : ((lenSl a).bind fun v => (intV .i64 v).bind K) = K l.length := by rw [h.lenI, attrs_len]
theorem attr_eq (k q : Attr) : (k = q) ↔ (k.name = q.name ∧ k.value = q.value) := by cases k; cases q; simp
theorem eqA_attr (k q : Attr) : eqA Try.prog 10000 98 (.agg (attrC k)) (.agg (attrC q)) = some (decide (k = q)) := by
  have h : eqA Try.prog 10000 98 (.agg (attrC k)) (.agg (attrC q)) = (some (k.name == q.name)).bind fun r => if r then ((some (k.value == q.value)).bind fun r => if r then some true else some false) else some false := by kernel_rfl
  rw [h]
  simp only [Option.bind_some]
  by_cases h1 : k.name = q.name
  · by_cases h2 : k.value = q.value
    · simp [h1, h2, attr_eq]
    · simp [h1, h2, attr_eq]
  · simp [h1, attr_eq]
theorem binA_attr_eql (k q : Attr) : binA Try.prog BinOp.eql 98 false (.agg (attrC k)) (.agg (attrC q)) = some (.bool (decide (k = q))) := by
  have h : binA Try.prog BinOp.eql 98 false (.agg (attrC k)) (.agg (attrC q)) = (eqA Try.prog 10000 98 (.agg (attrC k)) (.agg (attrC q))).map .bool := by kernel_rfl
  rw [h, eqA_attr]; rfl
theorem binA_attr_neq (k q : Attr) : binA Try.prog BinOp.neq 98 false (.agg (attrC k)) (.agg (attrC q)) = some (.bool (!decide (k = q))) := by
  have h : binA Try.prog BinOp.neq 98 false (.agg (attrC k)) (.agg (attrC q)) = (eqA Try.prog 10000 98 (.agg (attrC k)) (.agg (attrC q))).map fun b => .bool (!b) := by kernel_rfl
  rw [h, eqA_attr]; rfl
end
theorem copyAttrs_run (st : St) {a : AV} {l : List Attr} (h : Sl 2 a (attrs l)) (hl : l.length < 10000000) : ∃ v y, cw 65 [a] st = some (.ret v, y :: st) ∧ Acc 2 st.length (y :: st) v (attrs l) := by
  obtain ⟨v, y, h1, h2⟩ := copy_gen (st := st) (bytes := 32) h.rows (by rw [attrs_len]; simp [roomA]; omega) (by rw [attrs_len]; simp [roomA]; omega)
  exact ⟨v, y, F65 _ _ h1, h2⟩
def room1 : Attr := ⟨[126, 114, 111, 111, 109], []⟩
def moreA : List Attr := [room1, room1]
theorem lendAttrs_run (st : St) (hs : Cl st) {a : AV} {l : List Attr} (h : Sl 2 a (attrs l)) (hl : l.length < 10000000) : ∃ v, cw 57 [a] st = some (.ret v, st) ∧ Lent 2 v (attrs l) (attrs moreA) := by
  obtain ⟨v, h1, h2, _⟩ := lend_gen (kd := 2) (bytes := 32) (n := 2) (extra := attrs moreA) (kp := fun v st_1 => outL false st.length (AOut.pan v) st_1) hs (copyAttrs_run (.free 0 :: st) h hl) h rfl (by omega) (by rw [attrs_len]; simp [roomA]; omega) (by rw [attrs_len]; simp [roomA]; omega) (fun m => by rw [← attrs_app]; exact closed_attrs _ _)
  exact ⟨v, F57 _ _ h1, h2⟩
theorem sameA_loop {st : St} {a b : AV} {l m : List Attr} (ha : Rd st 2 a (attrs l)) (hb : Rd st 2 b (attrs m)) (hl : l.length < 10000000) (hlm : l.length = m.length) (base : Nat) (hbase : base = st.length) : ∀ (d i : Nat), i + d = l.length →
    aw 63 base p63_0 ⟨[(0, a), (1, b), (5, .int .i64 (i : Int))], []⟩ st = some (.ret (.bool (decide (l.drop i = m.drop i))), st) := by
  subst hbase
  intro d
  induction d with
  | zero =>
    intro i hi
    refine F63_0 _ _ _ _ _ ?_
    rw [lna ha, if_neg (by simp; omega), List.drop_of_length_le (by omega), List.drop_of_length_le (by omega)]
    simp
  | succ d ih =>
    intro i hi
    have gl : l[i]? = some (l[i]'(by omega)) := List.getElem?_eq_getElem _
    have gm : m[i]? = some (m[i]'(by omega)) := List.getElem?_eq_getElem _
    have dl : l.drop i = l[i]'(by omega) :: l.drop (i + 1) := List.drop_eq_getElem_cons _
    have dm : m.drop i = m[i]'(by omega) :: m.drop (i + 1) := List.drop_eq_getElem_cons _
    generalize l[i]'(by omega) = x at *
    generalize m[i]'(by omega) = y at *
    refine F63_0 _ _ _ _ _ ?_
    rw [lna ha, if_pos (by simp; omega), rda ha gl, rda hb gm, dl, dm]
    have e1 : IntKind.i64.wrap ((i : Int) + 1) = ((i + 1 : Nat) : Int) := by rw [i64_in _ (by omega)]; rfl
    simp only [binA_attr_neq, Option.bind_some, boolV_bool]
    by_cases hxy : x = y
    · subst hxy
      simp only [decide_true, Bool.not_true, Bool.false_eq_true, if_false, e1]
      rw [ih (i + 1) (by omega)]
      simp
    · simp [hxy]
theorem sameAttrs_run {st : St} {a b : AV} {l m : List Attr} (ha : Rd st 2 a (attrs l)) (hb : Rd st 2 b (attrs m)) (hl : l.length < 10000000) : cw 63 [a, b] st = some (.ret (.bool (decide (l = m))), st) := by
  refine F63 _ _ _ ?_
  rw [lna ha, lna hb]
  by_cases h : l.length = m.length
  · rw [if_neg (by simp; omega)]
    have := sameA_loop ha hb hl h st.length rfl l.length 0 (by omega)
    simpa using this
  · rw [if_pos (by simp; omega)]
    have : l ≠ m := fun e => h (by rw [e])
    simp [this]
theorem keptAttrs_run {st : St} {v a : AV} {l : List Attr} (hv : Lent 2 v (attrs l) (attrs moreA)) (ha : Rd st 2 a (attrs l)) (hl : l.length < 10000000) : cw 64 [v, a] st = some (.ret (.bool true), st) := by
  refine F64 _ _ _ ?_
  obtain ⟨v', h1, h2⟩ := hv.behind (n := 2) rfl st
  rw [attrs_len] at h1
  rw [← attrs_app] at h2
  have e : IntKind.i64.wrap ((l.length : Int) + 2) = ((l.length + 2 : Nat) : Int) := by rw [i64_in _ (by omega)]; rfl
  have e1 : IntKind.i64.wrap ((l.length : Int) + 1) = ((l.length + 1 : Nat) : Int) := by rw [i64_in _ (by omega)]; rfl
  have ek : binA Try.prog BinOp.eql 98 false (.agg (attrC room1)) (AV.agg [AV.str [UInt8.ofNat 126, UInt8.ofNat 114, UInt8.ofNat 111, UInt8.ofNat 111, UInt8.ofNat 109], AV.str []]) = some (.bool true) := by
    show binA Try.prog BinOp.eql 98 false (.agg (attrC room1)) (.agg (attrC room1)) = _
    rw [binA_attr_eql]; simp
  rw [lna (st := st) hv.sl.rd, e, h1]
  simp only [Option.bind_some, sameAttrs_run hv.sl.rd ha hl, callB_ret, boolV_bool, decide_true, if_true, lna ha]
  rw [rda (j := l.length) (l := l ++ moreA) (c := room1) h2.rd (by simp [moreA]), ek]
  simp only [Option.bind_some, boolV_bool, if_true, e1]
  rw [rda (j := l.length + 1) (l := l ++ moreA) (c := room1) h2.rd (by simp [moreA]), ek]
  simp

/-! ### Origins -/
structure Ori where
  node : Int
  loops : Int
  keys : List Key
  deriving DecidableEq
def Ori.ok (o : Ori) : Prop := o.keys.length = 8
def keyCs (l : List Key) : List AV := (keys l).flatten
def oriC (o : Ori) : List AV := .int .i64 o.node :: .int .i64 o.loops :: keyCs o.keys
theorem keyCs_len : ∀ l : List Key, (keyCs l).length = l.length * 3
  | [] => rfl
  | k :: l => by have := keyCs_len l; simp only [keyCs, keys, List.map_cons, List.flatten_cons, List.length_append, List.length_cons] at this ⊢; rw [this]; simp [keyC]; omega
theorem oriC_len {o : Ori} (h : o.ok) : (oriC o).length = 26 := by simp only [oriC, List.length_cons, keyCs_len]; rw [h]
theorem keyCs_at : ∀ (l : List Key) (i : Nat) (k : Key), l[i]? = some k → ((keyCs l).drop (i * 3)).take 3 = keyC k ∧ i * 3 + 3 ≤ (keyCs l).length
  | [], i, k, h => by simp at h
  | q :: l, 0, k, h => by simp at h; subst h; exact ⟨rfl, by rw [keyCs_len]; simp only [List.length_cons]; omega⟩
  | q :: l, i + 1, k, h => by
    obtain ⟨h1, h2⟩ := keyCs_at l i k (by simpa using h)
    have e : keyCs (q :: l) = keyC q ++ keyCs l := rfl
    have el : (keyC q).length = 3 := rfl
    rw [e]
    refine ⟨?_, by simp only [List.length_append, el]; omega⟩
    rw [show (i + 1) * 3 = (keyC q).length + i * 3 by rw [el]; omega, List.drop_length_add_append]
    exact h1
theorem agg57 : aggT Try.prog 57 = some true := by kernel_rfl
theorem sz57 : szOf Try.prog 57 = some 3 := by kernel_rfl
theorem part_key {l : List Key} {i : Nat} {k : Key} (h : l[i]? = some k) : partA Try.prog 57 (keyCs l) (i * 3) = some (.agg (keyC k)) := by
  obtain ⟨h1, h2⟩ := keyCs_at l i k h
  unfold partA
  rw [agg57, sz57]
  simp only [Option.bind_some, if_true, h1]
  rw [if_pos h2]
theorem eqA_keyd (d : Nat) (k q : Key) : eqA Try.prog (d + 2) 57 (.agg (keyC k)) (.agg (keyC q)) = some (decide (k = q)) := by
  have h : eqA Try.prog (d + 2) 57 (.agg (keyC k)) (.agg (keyC q)) = (some (k.kind == q.kind)).bind fun r => if r then ((some (k.num == q.num)).bind fun r => if r then ((some (k.str == q.str)).bind fun r => if r then some true else some false) else some false) else some false := by kernel_rfl
  rw [h]
  simp only [Option.bind_some]
  by_cases h1 : k.kind = q.kind
  · by_cases h2 : k.num = q.num
    · by_cases h3 : k.str = q.str
      · simp [h1, h2, h3, key_eq]
      · simp [h1, h2, h3, key_eq]
    · simp [h1, h2, key_eq]
  · simp [h1, key_eq]
theorem eqElems_keys (d : Nat) {xs ys : List Key} : ∀ (n i : Nat), xs.length = i + n → ys.length = i + n → eqElemsA Try.prog (eqA Try.prog (d + 2) 57) 57 3 (keyCs xs) (keyCs ys) i n = some (decide (xs.drop i = ys.drop i)) := by
  intro n
  induction n with
  | zero =>
    intro i h1 h2
    simp only [eqElemsA]
    rw [List.drop_of_length_le (by omega), List.drop_of_length_le (by omega)]
    simp
  | succ n ih =>
    intro i h1 h2
    have gx : xs[i]? = some (xs[i]'(by omega)) := List.getElem?_eq_getElem _
    have gy : ys[i]? = some (ys[i]'(by omega)) := List.getElem?_eq_getElem _
    have dx : xs.drop i = xs[i]'(by omega) :: xs.drop (i + 1) := List.drop_eq_getElem_cons _
    have dy : ys.drop i = ys[i]'(by omega) :: ys.drop (i + 1) := List.drop_eq_getElem_cons _
    generalize xs[i]'(by omega) = x at *
    generalize ys[i]'(by omega) = y at *
    simp only [eqElemsA, part_key gx, part_key gy, Option.bind_some, eqA_keyd]
    by_cases h : x = y
    · subst h
      simp only [decide_true, if_true]
      rw [ih (i + 1) (by omega) (by omega), dx, dy]
      simp
    · simp [h, dx, dy]
theorem ori_eq (a b : Ori) : a = b ↔ (a.node = b.node ∧ a.loops = b.loops ∧ a.keys = b.keys) := by cases a; cases b; simp
theorem eqA_ori {a b : Ori} (ha : a.ok) (hb : b.ok) : eqA Try.prog 10000 67 (.agg (oriC a)) (.agg (oriC b)) = some (decide (a = b)) := by
  have h : eqA Try.prog 10000 67 (.agg (oriC a)) (.agg (oriC b)) = (some (a.node == b.node)).bind fun r => if r then ((some (a.loops == b.loops)).bind fun r => if r then
      ((if 2 + 24 ≤ (oriC a).length then some (AV.agg (((oriC a).drop 2).take 24)) else none).bind fun x => (if 2 + 24 ≤ (oriC b).length then some (AV.agg (((oriC b).drop 2).take 24)) else none).bind fun y => (eqA Try.prog 9999 65 x y).bind fun r => if r then some true else some false) else some false) else some false := by kernel_rfl
  have hk : ∀ o : Ori, o.ok → ((oriC o).drop 2).take 24 = keyCs o.keys := fun o ho => by
    show (keyCs o.keys).take 24 = _
    rw [List.take_of_length_le (by rw [keyCs_len, ho]; omega)]
  have h2 : eqA Try.prog 9999 65 (.agg (keyCs a.keys)) (.agg (keyCs b.keys)) = eqElemsA Try.prog (eqA Try.prog (9996 + 2) 57) 57 3 (keyCs a.keys) (keyCs b.keys) 0 8 := by kernel_rfl
  rw [h, if_pos (by rw [oriC_len ha]; omega), if_pos (by rw [oriC_len hb]; omega), hk a ha, hk b hb]
  simp only [Option.bind_some, h2, eqElems_keys 9996 8 0 (by rw [ha]) (by rw [hb]), List.drop_zero]
  by_cases h1 : a.node = b.node
  · by_cases h2 : a.loops = b.loops
    · by_cases h3 : a.keys = b.keys
      · simp [h1, h2, h3, ori_eq]
      · simp [h1, h2, h3, ori_eq]
    · simp [h1, h2, ori_eq]
  · simp [h1, ori_eq]
theorem binA_ori {a b : Ori} (ha : a.ok) (hb : b.ok) : binA Try.prog BinOp.eql 67 false (.agg (oriC a)) (.agg (oriC b)) = some (.bool (decide (a = b))) := by
  have h : binA Try.prog BinOp.eql 67 false (.agg (oriC a)) (.agg (oriC b)) = (eqA Try.prog 10000 67 (.agg (oriC a)) (.agg (oriC b))).map .bool := by kernel_rfl
  rw [h, eqA_ori ha hb]; rfl
theorem keyCs_plain (l : List Key) : ∀ c ∈ keyCs l, (∀ n, AV.stripN n c = c) ∧ (∀ n, AV.closed n c = true) ∧ AV.strip c = c := by
  intro c hc
  simp only [keyCs, keys, List.mem_flatten, List.mem_map] at hc
  obtain ⟨r, ⟨k, _, rfl⟩, hc⟩ := hc
  simp only [keyC, List.mem_cons, List.not_mem_nil, or_false] at hc
  rcases hc with rfl | rfl | rfl <;> exact ⟨fun _ => rfl, fun _ => rfl, rfl⟩
theorem oriC_plain (o : Ori) : ∀ c ∈ oriC o, (∀ n, AV.stripN n c = c) ∧ (∀ n, AV.closed n c = true) ∧ AV.strip c = c := by
  intro c hc
  simp only [oriC, List.mem_cons] at hc
  rcases hc with rfl | rfl | hc
  · exact ⟨fun _ => rfl, fun _ => rfl, rfl⟩
  · exact ⟨fun _ => rfl, fun _ => rfl, rfl⟩
  · exact keyCs_plain _ c hc
theorem oriC_strip (o : Ori) : (oriC o).map AV.strip = oriC o := (List.map_congr_left fun c hc => (oriC_plain o c hc).2.2).trans (by simp)

/-! ### Spots -/
structure Spot where
  ori : Ori
  parent : Int
  tag : List UInt8
  text : List UInt8
  attrs : List Attr
def spotT (p : Int) (t x : List UInt8) (a : AV) : List AV := [.int .i64 p, .str t, .str x, a]
def spotC (o : Ori) (p : Int) (t x : List UInt8) (a : AV) : List AV := oriC o ++ spotT p t x a
theorem spotC_len {o : Ori} (h : o.ok) (p : Int) (t x : List UInt8) (a : AV) : (spotC o p t x a).length = 30 := by simp [spotC, oriC_len h, spotT]
/-- A spot's cells. -/
def SpotR (s : Spot) (cs : List AV) : Prop := s.ori.ok ∧ ∃ a, cs = spotC s.ori s.parent s.tag s.text a ∧ Sl 2 a (attrs s.attrs) ∧ ∀ n, AV.closed n a = true
/-- The cells of one that is lent. -/
def SpotL (s : Spot) (cs : List AV) : Prop := s.ori.ok ∧ ∃ a, cs = spotC s.ori s.parent s.tag s.text a ∧ Lent 2 a (attrs s.attrs) (attrs moreA)
theorem SpotL.r {s : Spot} {cs : List AV} (h : SpotL s cs) : SpotR s cs := by
  obtain ⟨h1, a, h2, h3⟩ := h
  exact ⟨h1, a, h2, h3.sl, fun n => h3.closed (by rw [← attrs_app]; exact closed_attrs _ _)⟩
theorem SpotR.len {s : Spot} {cs : List AV} (h : SpotR s cs) : cs.length = 30 := by
  obtain ⟨h1, a, rfl, _⟩ := h
  exact spotC_len h1 _ _ _ _
theorem SpotR.closed {s : Spot} {cs : List AV} (h : SpotR s cs) (n : Nat) : AV.closeds n cs = true := by
  obtain ⟨h1, a, rfl, h2, h3⟩ := h
  refine closeds_all fun c hc => ?_
  simp only [spotC, spotT, List.mem_append, List.mem_cons, List.not_mem_nil, or_false] at hc
  rcases hc with hc | rfl | rfl | rfl | rfl
  · exact (oriC_plain _ c hc).2.1 n
  · rfl
  · rfl
  · rfl
  · exact h3 n
section
variable {o : Ori} (h : o.ok) (p : Int) (t x : List UInt8) (a : AV)
include h
theorem sp_ori : readRow (spotC o p t x a) 0 26 true = some (.agg (oriC o)) := row_front _ _ _ (oriC_len h)
omit h in
theorem sp_node : readRow (spotC o p t x a) 0 1 false = some (.int .i64 o.node) := rfl
omit h in
theorem sp_loops : readRow (spotC o p t x a) 1 1 false = some (.int .i64 o.loops) := rfl
theorem sp_parent : readRow (spotC o p t x a) 26 1 false = some (.int .i64 p) := row_app (oriC o) (spotT p t x a) 0 26 (oriC_len h)
theorem sp_tag : readRow (spotC o p t x a) 27 1 false = some (.str t) := row_app (oriC o) (spotT p t x a) 1 26 (oriC_len h)
theorem sp_text : readRow (spotC o p t x a) 28 1 false = some (.str x) := row_app (oriC o) (spotT p t x a) 2 26 (oriC_len h)
theorem sp_attrs : readRow (spotC o p t x a) 29 1 false = some a := row_app (oriC o) (spotT p t x a) 3 26 (oriC_len h)
theorem sp_all : readRow (spotC o p t x a) 0 30 true = some (.agg (spotC o p t x a)) := row_all _ _ (spotC_len h _ _ _ _)
theorem sp_set (v : AV) : setAt (spotC o p t x a) 29 [v] = some (spotC o p t x v) := by
  have := setAt_app (oriC o) (spotT p t x a) [v] 3
  rw [oriC_len h] at this
  exact this
end
theorem ld70 (st : St) (p : AV) : ldA Try.prog st 70 p = readA st p 30 true := by
  have h1 : aggT Try.prog 70 = some true := by kernel_rfl
  have h2 : szOf Try.prog 70 = some 30 := by kernel_rfl
  unfold ldA readA
  rw [h1, h2]; rfl
theorem ld73 (st : St) (p : AV) : ldA Try.prog st 73 p = readA st p 27 true := by
  have h1 : aggT Try.prog 73 = some true := by kernel_rfl
  have h2 : szOf Try.prog 73 = some 27 := by kernel_rfl
  unfold ldA readA
  rw [h1, h2]; rfl
theorem cell1_lent {kd : Nat} {v : AV} {c e : List (List AV)} (h : Lent kd v c e) : cell1 v = some v := h.sl.cell1
theorem lendSpot_run (st : St) (hs : Cl st) {s : Spot} {cs : List AV} (h : SpotR s cs) (hl : s.attrs.length < 10000000) : ∃ cs', cw 38 [.agg cs] st = some (.ret (.agg cs'), st) ∧ SpotL s cs' := by
  have hlen := h.len
  have hcc := h.closed
  obtain ⟨ho, a, rfl, hA, hac⟩ := h
  have hz : ∃ z : List AV, z = [AV.int IntKind.i64 0, AV.int IntKind.i64 0, AV.int IntKind.i64 0, AV.int IntKind.i64 0, AV.str [], AV.int IntKind.i64 0, AV.int IntKind.i64 0, AV.str [], AV.int IntKind.i64 0, AV.int IntKind.i64 0, AV.str [],
                AV.int IntKind.i64 0, AV.int IntKind.i64 0, AV.str [], AV.int IntKind.i64 0, AV.int IntKind.i64 0, AV.str [], AV.int IntKind.i64 0, AV.int IntKind.i64 0, AV.str [], AV.int IntKind.i64 0, AV.int IntKind.i64 0, AV.str [],
                AV.int IntKind.i64 0, AV.int IntKind.i64 0, AV.str [], AV.int IntKind.i64 0, AV.str [], AV.str [], AV.nils] ∧ z.length = 30 ∧ ∀ n, AV.closeds n z = true := ⟨_, rfl, rfl, fun n => rfl⟩
  obtain ⟨z, hz, hzl, hzc⟩ := hz
  have hS : Cl (AObj.free 0 :: AObj.box 70 z :: AObj.free 0 :: AObj.box 70 (spotC s.ori s.parent s.tag s.text a) :: st) := Cl.free (Cl.cons (Cl.free (Cl.cons hs (hcc _))) (hzc _))
  obtain ⟨v, v1, v2⟩ := lendAttrs_run _ hS hA hl
  refine ⟨spotC s.ori s.parent s.tag s.text v, F38 _ _ ?_, ho, v, rfl, v2⟩
  rw [cells_agg hlen, Option.bind_some, ← hz]
  have g1 : St.get (AObj.free 0 :: AObj.box 70 z :: AObj.free 0 :: AObj.box 70 (spotC s.ori s.parent s.tag s.text a) :: st) st.length = some (.box 70 (spotC s.ori s.parent s.tag s.text a)) := get_at4 rfl
  rw [box_read g1, sp_attrs ho]
  simp only [Option.bind_some, v1, callB_ret, cell1_lent v2]
  rw [box_write g1 (sp_set ho _ _ _ _ _), Option.bind_some]
  have hp : St.put (AObj.free 0 :: AObj.box 70 z :: AObj.free 0 :: AObj.box 70 (spotC s.ori s.parent s.tag s.text a) :: st) st.length (.box 70 (spotC s.ori s.parent s.tag s.text v)) = AObj.free 0 :: AObj.box 70 z :: AObj.free 0 :: AObj.box 70 (spotC s.ori s.parent s.tag s.text v) :: st := by
    rw [St.put_under (by simp only [List.length_cons]; omega), St.put_under (by simp only [List.length_cons]; omega), St.put_under (by simp), St.put_top]
  rw [hp, box_read (get_at4 rfl), sp_all ho, Option.bind_some, cells_agg (spotC_len ho _ _ _ _), Option.bind_some]
  have g2 : St.get (AObj.free 0 :: AObj.box 70 z :: AObj.free 0 :: AObj.box 70 (spotC s.ori s.parent s.tag s.text v) :: st) (AObj.free 0 :: AObj.box 70 (spotC s.ori s.parent s.tag s.text a) :: st).length = some (.box 70 z) := get_at2 (by simp)
  rw [box_write g2 (setAt_all z _ (by rw [hzl, spotC_len ho])), Option.bind_some]
  have hp2 : St.put (AObj.free 0 :: AObj.box 70 z :: AObj.free 0 :: AObj.box 70 (spotC s.ori s.parent s.tag s.text v) :: st) (AObj.free 0 :: AObj.box 70 (spotC s.ori s.parent s.tag s.text a) :: st).length (.box 70 (spotC s.ori s.parent s.tag s.text v)) =
      AObj.free 0 :: AObj.box 70 (spotC s.ori s.parent s.tag s.text v) :: AObj.free 0 :: AObj.box 70 (spotC s.ori s.parent s.tag s.text v) :: st := by
    rw [St.put_under (by simp)]
    congr 1
    exact St.put_top _ _ _
  rw [hp2, ld70, box_read (get_at2 (by simp)), sp_all ho]
  simp only [Option.bind_some, outV1]
  have := outL_agg (m := st.length) (cs := spotC s.ori s.parent s.tag s.text v) (st := AObj.free 0 :: AObj.box 70 (spotC s.ori s.parent s.tag s.text v) :: AObj.free 0 :: AObj.box 70 (spotC s.ori s.parent s.tag s.text v) :: st)
    (fun c hc => by
      simp only [spotC, spotT, List.mem_append, List.mem_cons, List.not_mem_nil, or_false] at hc
      rcases hc with hc | rfl | rfl | rfl | rfl
      · exact (oriC_plain _ c hc).1 _
      · rfl
      · rfl
      · rfl
      · exact v2.strip)
    (fun c hc => by
      simp only [spotC, spotT, List.mem_append, List.mem_cons, List.not_mem_nil, or_false] at hc
      rcases hc with hc | rfl | rfl | rfl | rfl
      · exact (oriC_plain _ c hc).2.1 _
      · rfl
      · rfl
      · rfl
      · exact v2.closed (by rw [← attrs_app]; exact closed_attrs _ _))
    (by rw [trunc_at4]; exact hs) (by simp only [List.length_cons]; omega)
  rw [trunc_at4] at this
  exact this

/-- What grew in a home, lent: with marked room behind it. -/
theorem lend_end {kd bytes n : Nat} {a v : AV} {c extra : List (List AV)} {S st : St} (hA : Acc kd st.length S v c) (hl : lenSl a = some (.int .i64 c.length)) (ht : S.trunc st.length = st) (hs : Cl st) (hn : extra.length = n) (he : 0 < n) (h1 : (c.length + n) * bytes ≤ roomA) (h2 : c.length + n ≤ roomA) (hc : ∀ m, AV.closedss m (c ++ extra) = true) :
    ∃ v', (bind2 (appendL S (some (st.length + 0, false)) bytes kd v (AV.sl kd extra 0 n Tok.exact)) fun v st_2 =>
      (lenSl a).bind fun v_1 => (intV IntKind.i64 v_1).bind fun n => (sliceSl st_2 kd v none (some (AV.int IntKind.i64 n)) none).bind fun v => bind2 (freezeA st_2 v) fun v st_3 => outL false st.length (AOut.ret v) st_3) = some (.ret v', st) ∧ Lent kd v' c extra := by
  subst hn
  have hlt : st.length < S.length := by
    rcases hA with ⟨_, _, e, h⟩ | ⟨ep, _, h⟩ | ⟨_, e, h⟩ <;> exact St.get_lt h
  obtain ⟨v1, y, h5, h7⟩ := hA.app (x := .sl kd extra 0 extra.length .exact) (new := extra) (bytes := bytes) (by simp [rowsOf]) h1 h2
  have key : ∃ tok tok', v1 = .sl kd (c ++ extra) 0 (c.length + extra.length) tok ∧ AV.stripR st.length (.sl kd (c ++ extra) 0 c.length tok) = .sl kd (c ++ extra) 0 c.length tok' ∧ (tok' = .no ∨ tok' = .exact) := by
    rcases h7 with ⟨_, h6, _⟩ | ⟨ep, rfl, _⟩ | ⟨rfl, e, _⟩
    · simp at h6; rw [h6.2] at he; simp at he
    · exact ⟨_, .no, by rw [List.length_append], by simp only [AV.stripR, AV.stripN]; rw [if_neg (by omega)], .inl rfl⟩
    · exact ⟨_, .exact, by rw [List.length_append], rfl, .inr rfl⟩
  obtain ⟨tok, tok', rfl, k2, k3⟩ := key
  have hcl : AV.closed st.length (.sl kd (c ++ extra) 0 c.length tok') = true := by
    have := hc st.length
    rcases k3 with rfl | rfl <;> simpa [AV.closed] using this
  refine ⟨.sl kd (c ++ extra) 0 c.length tok', ?_, tok', k3, rfl⟩
  rw [Nat.add_zero, h5]
  have hcut : ∀ s, sliceSl s kd (.sl kd (c ++ extra) 0 (c.length + extra.length) tok) none (some (.int .i64 c.length)) none = some (.sl kd (c ++ extra) 0 c.length tok) := fun s => by
    simp [sliceSl, optA]
  simp only [bind2_some, hl, Option.bind_some, intV_int, hcut, freezeA]
  have hne : ((St.put S st.length y).length == st.length) = false := by simp only [St.length_put, beq_eq_false_iff_ne]; omega
  have htr : (St.put S st.length y).trunc st.length = st := by rw [St.trunc_put (Nat.le_refl _)]; exact ht
  unfold outL
  simp only [hne, Bool.or_self, Bool.false_eq_true, if_false, k2, htr, hcl, Bool.true_and]
  rw [if_pos (show St.closed st.length st = true from hs)]
theorem lnR {α : Type} {R : Type} {Q : α → List AV → Prop} {st : St} {kd : Nat} {a : AV} {xs : List α} {rows : List (List AV)} (h : Rd st kd a rows) (he : Each Q xs rows) (K : Int → Option R) : ((lenSl a).bind fun v => (intV .i64 v).bind K) = K xs.length := by rw [h.lenI, he.1]
theorem rdR {α : Type} {R : Type} {Q : α → List AV → Prop} {st : St} {kd n : Nat} {a : AV} {xs : List α} {rows : List (List AV)} (h : Rd st kd a rows) (he : Each Q xs rows) (hn : ∀ x r, Q x r → r.length = n) {j : Nat} {x : α} (hj : xs[j]? = some x) :
    ∃ r, Q x r ∧ ∀ K : AV → Option R, ((natA (.int .i64 (j : Int))).bind fun j => (idxSl st kd a j).bind fun v => (readA st v n true).bind K) = K (.agg r) := by
  obtain ⟨r, hr, hq⟩ := he.get hj
  exact ⟨r, hq, fun K => h.agg hr (hn x r hq) K⟩
theorem SpotL.strip {s : Spot} {cs : List AV} (h : SpotL s cs) : SpotL s (cs.map AV.strip) := by
  obtain ⟨h1, a, rfl, h3⟩ := h
  refine ⟨h1, a.strip, ?_, h3.strip1⟩
  simp only [spotC, spotT, List.map_append, oriC_strip]
  rfl
def noOri : Ori := ⟨0, 0, List.replicate 8 ⟨0, 0, []⟩⟩
def moreS : List AV := spotC noOri (-7) [] [] .nils
theorem moreS_r : SpotR ⟨noOri, -7, [], [], []⟩ moreS := ⟨rfl, .nils, rfl, .nil, fun _ => rfl⟩
theorem lendSpots_loop {st : St} (hs : Cl st) {a : AV} {ss : List Spot} {rows : List (List AV)} (hA : Sl 30 a rows) (hE : Each SpotR ss rows) (hl : ss.length < 10000000) (hla : ∀ s ∈ ss, s.attrs.length < 10000000) : ∀ (d i : Nat), i + d = ss.length → ∀ (v : AV) (S : St) (out : List (List AV)), Each SpotL (ss.take i) out → Acc 30 st.length S v out → S.trunc st.length = st → Cl S →
    ∃ v' out', aw 23 st.length p23_0 ⟨[(0, a), (3, v), (4, .int .i64 (i : Int))], []⟩ S = some (.ret v', st) ∧ Lent 30 v' out' [moreS, moreS] ∧ Each SpotL ss out' := by
  intro d
  induction d with
  | zero =>
    intro i hi v S out hO hM ht hc
    rw [List.take_of_length_le (by omega)] at hO
    have hol : out.length = ss.length := hO.1.symm
    obtain ⟨v', h1, h2⟩ := lend_end (bytes := 336) (n := 2) (extra := [moreS, moreS]) (a := a) hM (by rw [hA.len, ← hE.1, hol]) ht hs rfl (by omega) (by simp [roomA]; omega) (by simp [roomA]; omega) (fun m => by
      refine closedss_get fun j r hj => ?_
      rcases List.mem_append.1 (List.mem_of_getElem? hj) with hm | hm
      · obtain ⟨k, hk⟩ := List.getElem?_of_mem hm
        have hkl := (List.getElem?_eq_some_iff.1 hk).1
        exact (hO.2 k _ r (List.getElem?_eq_getElem (by omega)) hk).r.closed m
      · simp at hm; subst hm; exact moreS_r.closed m)
    refine ⟨v', out, F23_0 _ _ _ _ _ ?_, h2, hO⟩
    rw [lnR (st := []) hA.rd hE, if_neg (by simp; omega)]
    rw [show AV.agg [AV.int IntKind.i64 0, AV.int IntKind.i64 0, AV.int IntKind.i64 0, AV.int IntKind.i64 0, AV.str [], AV.int IntKind.i64 0, AV.int IntKind.i64 0, AV.str [], AV.int IntKind.i64 0, AV.int IntKind.i64 0, AV.str [], AV.int IntKind.i64 0, AV.int IntKind.i64 0, AV.str [], AV.int IntKind.i64 0, AV.int IntKind.i64 0,
      AV.str [], AV.int IntKind.i64 0, AV.int IntKind.i64 0, AV.str [], AV.int IntKind.i64 0, AV.int IntKind.i64 0, AV.str [], AV.int IntKind.i64 0, AV.int IntKind.i64 0, AV.str [], AV.int IntKind.i64 (-7), AV.str [], AV.str [], AV.nils] = .agg moreS from rfl, cells_agg moreS_r.len]
    exact h1
  | succ d ih =>
    intro i hi v S out hO hM ht hc
    have gs : ss[i]? = some (ss[i]'(by omega)) := List.getElem?_eq_getElem _
    have hsa := hla _ (List.getElem_mem (show i < ss.length by omega))
    generalize ss[i]'(by omega) = s at gs hsa
    obtain ⟨r, hr, hrd⟩ := rdR (R := AOut × St) (st := S) hA.rd hE (fun x r h => h.len) gs
    obtain ⟨cs', c1, c2⟩ := lendSpot_run S hc hr hsa
    have hol : out.length = i := by have := hO.1; simp at this; omega
    obtain ⟨v2, y, q1, q2⟩ := hM.app (x := .sl 30 [cs'.map AV.strip] 0 1 .exact) (new := [cs'.map AV.strip]) (bytes := 336) rfl (by simp [roomA]; omega) (by simp [roomA]; omega)
    have hnext : Each SpotL (ss.take (i + 1)) (out ++ [cs'.map AV.strip]) := by
      rw [List.take_add_one, gs]
      exact hO.snoc c2.strip
    obtain ⟨v', out', h1, h2, h3⟩ := ih (i + 1) (by omega) v2 (S.put st.length y) _ hnext q2 (by rw [St.trunc_put (Nat.le_refl _)]; exact ht) (q2.clp hc)
    refine ⟨v', out', F23_0 _ _ _ _ _ ?_, h2, h3⟩
    have e1 : IntKind.i64.wrap ((i : Int) + 1) = ((i + 1 : Nat) : Int) := by rw [i64_in _ (by omega)]; rfl
    rw [lnR (st := []) hA.rd hE, if_pos (by simp; omega), hrd, c1]
    simp only [callB_ret, cells_agg c2.r.len, Option.bind_some, Nat.add_zero, q1, bind2_some, e1, h1]
theorem lendSpots_run (st : St) (hs : Cl st) {a : AV} {ss : List Spot} {rows : List (List AV)} (hA : Sl 30 a rows) (hE : Each SpotR ss rows) (hl : ss.length < 10000000) (hla : ∀ s ∈ ss, s.attrs.length < 10000000) :
    ∃ v' out', cw 23 [a] st = some (.ret v', st) ∧ Lent 30 v' out' [moreS, moreS] ∧ Each SpotL ss out' := by
  obtain ⟨v', out', h1, h2, h3⟩ := lendSpots_loop hs hA hE hl hla ss.length 0 (by omega) .nils (.free 0 :: st) [] ⟨rfl, by simp⟩ (.inl ⟨rfl, rfl, 0, St.get_top _ _⟩) (St.trunc_cons _ _) hs.free
  exact ⟨v', out', F23 _ _ h1, h2, h3⟩

theorem sameSpot_refl {st : St} (hs : Cl st) {s : Spot} {cs ds : List AV} (h : SpotR s cs) (h' : SpotR s ds) (hl : s.attrs.length < 10000000) : cw 50 [.agg cs, .agg ds] st = some (.ret (.bool true), st) := by
  have l1 := h.len
  have l2 := h'.len
  obtain ⟨ho, a, rfl, hA, hac⟩ := h
  obtain ⟨_, b, rfl, hB, hbc⟩ := h'
  refine F50 _ _ _ ?_
  have g1 : St.get (AObj.free 0 :: AObj.box 70 (spotC s.ori s.parent s.tag s.text b) :: AObj.free 0 :: AObj.box 70 (spotC s.ori s.parent s.tag s.text a) :: st) st.length = some (.box 70 (spotC s.ori s.parent s.tag s.text a)) := get_at4 rfl
  have g2 : St.get (AObj.free 0 :: AObj.box 70 (spotC s.ori s.parent s.tag s.text b) :: AObj.free 0 :: AObj.box 70 (spotC s.ori s.parent s.tag s.text a) :: st) (AObj.free 0 :: AObj.box 70 (spotC s.ori s.parent s.tag s.text a) :: st).length = some (.box 70 (spotC s.ori s.parent s.tag s.text b)) := get_at2 rfl
  rw [cells_agg l1, Option.bind_some, cells_agg l2, Option.bind_some]
  simp only [box_read g1, box_read g2, sp_ori ho, sp_parent ho, sp_tag ho, sp_text ho, sp_attrs ho, Option.bind_some, binA_ori ho ho, decide_true, boolV_bool, if_true, intV_int, beq_self_eq_true, strV_str, strA, sameAttrs_run hA.rd hB.rd hl, callB_ret]
  have := outL_plain (n := st.length) (v := .bool true) (st := AObj.free 0 :: AObj.box 70 (spotC s.ori s.parent s.tag s.text b) :: AObj.free 0 :: AObj.box 70 (spotC s.ori s.parent s.tag s.text a) :: st) rfl rfl (by rw [trunc_at4]; exact hs) (by simp only [List.length_cons]; omega)
  rw [trunc_at4] at this
  exact this
theorem keptSpot_run {st : St} (hs : Cl st) {s : Spot} {cs ds : List AV} (h : SpotL s cs) (h' : SpotR s ds) (hl : s.attrs.length < 10000000) : cw 51 [.agg cs, .agg ds] st = some (.ret (.bool true), st) := by
  have l1 := h.r.len
  have l2 := h'.len
  obtain ⟨ho, a, rfl, hA⟩ := h
  obtain ⟨_, b, rfl, hB, hbc⟩ := h'
  refine F51 _ _ _ ?_
  have g1 : St.get (AObj.free 0 :: AObj.box 70 (spotC s.ori s.parent s.tag s.text b) :: AObj.free 0 :: AObj.box 70 (spotC s.ori s.parent s.tag s.text a) :: st) st.length = some (.box 70 (spotC s.ori s.parent s.tag s.text a)) := get_at4 rfl
  have g2 : St.get (AObj.free 0 :: AObj.box 70 (spotC s.ori s.parent s.tag s.text b) :: AObj.free 0 :: AObj.box 70 (spotC s.ori s.parent s.tag s.text a) :: st) (AObj.free 0 :: AObj.box 70 (spotC s.ori s.parent s.tag s.text a) :: st).length = some (.box 70 (spotC s.ori s.parent s.tag s.text b)) := get_at2 rfl
  rw [cells_agg l1, Option.bind_some, cells_agg l2, Option.bind_some]
  simp only [box_read g1, box_read g2, sp_ori ho, sp_parent ho, sp_tag ho, sp_text ho, sp_attrs ho, Option.bind_some, binA_ori ho ho, decide_true, boolV_bool, if_true, intV_int, beq_self_eq_true, strV_str, strA, keptAttrs_run hA hB.rd hl, callB_ret]
  have := outL_plain (n := st.length) (v := .bool true) (st := AObj.free 0 :: AObj.box 70 (spotC s.ori s.parent s.tag s.text b) :: AObj.free 0 :: AObj.box 70 (spotC s.ori s.parent s.tag s.text a) :: st) rfl rfl (by rw [trunc_at4]; exact hs) (by simp only [List.length_cons]; omega)
  rw [trunc_at4] at this
  exact this
theorem keptSpots_loop {st : St} (hs : Cl st) {v a : AV} {ss : List Spot} {out rows : List (List AV)} (hV : Sl 30 v out) (hO : Each SpotL ss out) (hA : Sl 30 a rows) (hE : Each SpotR ss rows) (hl : ss.length < 10000000) (hla : ∀ s ∈ ss, s.attrs.length < 10000000) : ∀ (d i : Nat), i + d = ss.length →
    aw 29 st.length p29_0 ⟨[(0, v), (1, a), (6, .int .i64 (i : Int))], []⟩ st = some (.ret (.bool true), st) := by
  intro d
  induction d with
  | zero =>
    intro i hi
    refine F29_0 _ _ _ _ _ ?_
    rw [lnR (st := []) hA.rd hE, if_neg (by simp; omega)]
    simp
  | succ d ih =>
    intro i hi
    have gs : ss[i]? = some (ss[i]'(by omega)) := List.getElem?_eq_getElem _
    have hsa := hla _ (List.getElem_mem (show i < ss.length by omega))
    generalize ss[i]'(by omega) = s at gs hsa
    obtain ⟨r, hr, hrd⟩ := rdR (R := AOut × St) (st := st) hA.rd hE (fun x r h => h.len) gs
    obtain ⟨q, hq, hqd⟩ := rdR (R := AOut × St) (st := st) hV.rd hO (fun x r h => h.r.len) gs
    have e1 : IntKind.i64.wrap ((i : Int) + 1) = ((i + 1 : Nat) : Int) := by rw [i64_in _ (by omega)]; rfl
    refine F29_0 _ _ _ _ _ ?_
    rw [lnR (st := []) hA.rd hE, if_pos (by simp; omega), hqd, hrd, keptSpot_run hs hq hr hsa]
    simp only [callB_ret, boolV_bool, Option.bind_some, Bool.not_true, Bool.false_eq_true, if_false, e1]
    exact ih (i + 1) (by omega)
theorem keptSpots_run {st : St} (hs : Cl st) {v a : AV} {ss : List Spot} {out rows : List (List AV)} (hV : Lent 30 v out [moreS, moreS]) (hO : Each SpotL ss out) (hA : Sl 30 a rows) (hE : Each SpotR ss rows) (hl : ss.length < 10000000) (hla : ∀ s ∈ ss, s.attrs.length < 10000000) :
    cw 29 [v, a] st = some (.ret (.bool true), st) := by
  obtain ⟨v', h1, h2⟩ := hV.behind (n := 2) rfl st
  have hol : out.length = ss.length := hO.1.symm
  rw [hol] at h1
  have e : IntKind.i64.wrap ((ss.length : Int) + 2) = ((ss.length + 2 : Nat) : Int) := by rw [i64_in _ (by omega)]; rfl
  have e1 : IntKind.i64.wrap ((ss.length : Int) + 1) = ((ss.length + 1 : Nat) : Int) := by rw [i64_in _ (by omega)]; rfl
  have m1 : (out ++ [moreS, moreS])[ss.length]? = some moreS := by rw [List.getElem?_append_right (by omega), hol]; simp
  have m2 : (out ++ [moreS, moreS])[ss.length + 1]? = some moreS := by rw [List.getElem?_append_right (by omega), hol]; simp
  refine F29 _ _ _ ?_
  rw [show AV.agg [AV.int IntKind.i64 0, AV.int IntKind.i64 0, AV.int IntKind.i64 0, AV.int IntKind.i64 0, AV.str [], AV.int IntKind.i64 0, AV.int IntKind.i64 0, AV.str [], AV.int IntKind.i64 0, AV.int IntKind.i64 0, AV.str [], AV.int IntKind.i64 0, AV.int IntKind.i64 0, AV.str [], AV.int IntKind.i64 0, AV.int IntKind.i64 0,
      AV.str [], AV.int IntKind.i64 0, AV.int IntKind.i64 0, AV.str [], AV.int IntKind.i64 0, AV.int IntKind.i64 0, AV.str [], AV.int IntKind.i64 0, AV.int IntKind.i64 0, AV.str [], AV.int IntKind.i64 (-7), AV.str [], AV.str [], AV.nils] = .agg moreS from rfl]
  rw [lnR (st := []) hV.sl.rd hO, e, h1, Option.bind_some, lnR (st := []) hV.sl.rd hO, lnR (st := []) hA.rd hE, if_neg (by simp), lnR (st := []) hA.rd hE]
  rw [h2.rd.agg m1 moreS_r.len, sameSpot_refl hs moreS_r moreS_r (by decide)]
  simp only [callB_ret, boolV_bool, Option.bind_some, Bool.not_true, Bool.false_eq_true, if_false]
  rw [lnR (st := []) hA.rd hE, e1, h2.rd.agg m2 moreS_r.len, sameSpot_refl hs moreS_r moreS_r (by decide)]
  simp only [callB_ret, boolV_bool, Option.bind_some, Bool.not_true, Bool.false_eq_true, if_false]
  exact keptSpots_loop hs hV.sl hO hA hE hl hla ss.length 0 (by omega)
end Go.Abs
