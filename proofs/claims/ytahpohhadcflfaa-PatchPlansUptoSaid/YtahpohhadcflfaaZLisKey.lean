/- What the functions on keys of chapter 9 come to, by value. -/
import Derived.Test.YtahpohhadcflfaaZLisRef
namespace Go.Abs
open Go Go.Proofs Go.Proofs.Ytahpohhadcflfaa.LisMath Go.RowKit Go.IntWalk
set_option linter.unusedVariables false
set_option linter.unusedSimpArgs false

structure Key where
  kind : Int
  num : Int
  str : List UInt8
  deriving DecidableEq
def keyC (k : Key) : List AV := [.int .i64 k.kind, .int .i64 k.num, .str k.str]
def keys (l : List Key) : List (List AV) := l.map keyC
theorem keys_len (l : List Key) : (keys l).length = l.length := by simp [keys]
theorem keys_get {l : List Key} {j : Nat} {c : Key} (h : l[j]? = some c) : (keys l)[j]? = some (keyC c) := by simp [keys, h]
theorem keys_app (l m : List Key) : keys (l ++ m) = keys l ++ keys m := by simp [keys]
theorem closed_keys (n : Nat) (l : List Key) : AV.closedss n (keys l) = true := by
  induction l with
  | nil => rfl
  | cons c l ih => simp [keys, AV.closedss, AV.closeds, AV.closed, keyC] at ih ⊢; exact ih
section
variable {R : Type} {st : St} {a : AV} {l : List Key} {j : Nat} {c : Key}
theorem rdk (h : Rd st 3 a (keys l)) (hj : l[j]? = some c) (K : AV → Option R) :
    ((natA (.int .i64 (j : Int))).bind fun j => (idxSl st 3 a j).bind fun v => (readA st v 3 true).bind K) = K (.agg (keyC c)) := h.agg (keys_get hj) rfl K
theorem lnk (h : Rd st 3 a (keys l)) (K : Int → Option R) : ((lenSl a).bind fun v => (intV .i64 v).bind K) = K l.length := by rw [h.lenI, keys_len]
theorem cells_key (c : Key) : cellsV 3 (.agg (keyC c)) = some (keyC c) := rfl
theorem boxk_wr {z : List AV} (k : Key) : writeA (AObj.box 57 [AV.int IntKind.i64 0, AV.int IntKind.i64 0, AV.str []] :: st) (AV.bp st.length 0) (keyC k) = some (.box 57 (keyC k) :: st) := by
  simp [writeA, setAt, keyC, St.put_top]
theorem boxk_rd {o : Nat} {k : Key} (h : st.get o = some (.box 57 (keyC k))) : readA st (.bp o 0) 3 true = some (.agg (keyC k)) := by
  simp [readA, h, readRow, keyC]
theorem key_eq (k q : Key) : (k = q) ↔ (k.kind = q.kind ∧ k.num = q.num ∧ k.str = q.str) := by cases k; cases q; simp
theorem eqA_key (k q : Key) : eqA Try.prog 10000 57 (.agg (keyC k)) (.agg (keyC q)) = some (decide (k = q)) := by
  have h : eqA Try.prog 10000 57 (.agg (keyC k)) (.agg (keyC q)) = (some (k.kind == q.kind)).bind fun r => if r then ((some (k.num == q.num)).bind fun r => if r then ((some (k.str == q.str)).bind fun r => if r then some true else some false) else some false) else some false := by kernel_rfl
  rw [h]
  simp only [Option.bind_some]
  by_cases h1 : k.kind = q.kind
  · by_cases h2 : k.num = q.num
    · by_cases h3 : k.str = q.str
      · simp [h1, h2, h3, key_eq]
      · simp [h1, h2, h3, key_eq]
    · simp [h1, h2, key_eq]
  · simp [h1, key_eq]
theorem binA_eql (k q : Key) : binA Try.prog BinOp.eql 57 false (.agg (keyC k)) (.agg (keyC q)) = some (.bool (decide (k = q))) := by
  have h : binA Try.prog BinOp.eql 57 false (.agg (keyC k)) (.agg (keyC q)) = (eqA Try.prog 10000 57 (.agg (keyC k)) (.agg (keyC q))).map .bool := by kernel_rfl
  rw [h, eqA_key]; rfl
theorem binA_neq (k q : Key) : binA Try.prog BinOp.neq 57 false (.agg (keyC k)) (.agg (keyC q)) = some (.bool (!decide (k = q))) := by
  have h : binA Try.prog BinOp.neq 57 false (.agg (keyC k)) (.agg (keyC q)) = (eqA Try.prog 10000 57 (.agg (keyC k)) (.agg (keyC q))).map fun b => .bool (!b) := by kernel_rfl
  rw [h, eqA_key]; rfl
end

/-! ### Maps of keys -/
def ents (l : List Key) (i : Nat) : List (AV × AV) := match l with
  | [] => []
  | k :: r => (.agg (keyC k), .int .i64 (i : Int)) :: ents r (i + 1)
theorem ents_app (l : List Key) (k : Key) : ∀ i, ents (l ++ [k]) i = ents l i ++ [(.agg (keyC k), .int .i64 ((i + l.length : Nat) : Int))] := by
  induction l with
  | nil => intro i; simp [ents]
  | cons q l ih => intro i; simp only [List.cons_append, ents, ih, List.length_cons]; rw [show i + 1 + l.length = i + (l.length + 1) by omega]
theorem find_ents (k : Key) : ∀ (l : List Key) (i : Nat) (n : Nat), findA (eqA Try.prog 10000 57) (.agg (keyC k)) (ents l i) n = some ((place k l).map fun j => (n + j, .int .i64 ((i + j : Nat) : Int))) := by
  intro l
  induction l with
  | nil => intro i n; rfl
  | cons q l ih =>
    intro i n
    simp only [ents, findA, eqA_key, Option.bind_some, place]
    by_cases h : k = q
    · subst h; simp
    · rw [if_neg (by simpa using h), ih, if_neg (fun e => h e.symm), Option.map_map]
      congr 2
      funext j
      simp only [Function.comp]
      rw [show n + 1 + j = n + (j + 1) by omega, show i + 1 + j = i + (j + 1) by omega]
theorem keyOk57 (k : Key) : keyOk Try.prog 20 57 (.agg (keyC k)) = true := by kernel_rfl
theorem u59 : Try.prog.underlying 59 = some (.map 57 3) := by kernel_rfl
theorem zero3 : zeroA Try.prog 3 = some (.int .i64 0) := by kernel_rfl
theorem lookup_ok {st : St} {o : Nat} {l : List Key} (h : st.get o = some (.amap (ents l 0))) (k : Key) :
    lookupA Try.prog st 59 (.mp o) (.agg (keyC k)) true = some (.tup [.int .i64 (match place k l with | some j => (j : Int) | none => 0), .bool (place k l).isSome]) := by
  unfold lookupA
  rw [u59]
  simp only [keyOk57, if_true, zero3, Option.bind_some, h, find_ents, Option.map_some]
  cases place k l with
  | none => rfl
  | some j => simp
theorem update_ok {st : St} {o : Nat} {l : List Key} (h : st.get o = some (.amap (ents l 0))) {k : Key} (hk : place k l = none) {i : Nat} (hi : i = l.length) :
    mapUpdateA Try.prog st 59 (.mp o) (.agg (keyC k)) (.int .i64 (i : Int)) = some (st.put o (.amap (ents (l ++ [k]) 0))) := by
  unfold mapUpdateA
  rw [u59]
  simp only [keyOk57, if_true, h, find_ents, hk, Option.map_none, Option.bind_some]
  rw [ents_app, hi, Nat.zero_add]
theorem closed_ents (n : Nat) : ∀ (l : List Key) (i : Nat), ((ents l i).all fun p => AV.closed n p.1 && AV.closed n p.2) = true
  | [], i => rfl
  | k :: l, i => by simp [ents, closed_ents n l, AV.closed, keyC, AV.closeds]

theorem nodup_take {l : List Key} {i : Nat} {k : Key} (h : l[i]? = some k) : (l.take (i + 1)).Nodup ↔ (l.take i).Nodup ∧ place k (l.take i) = none := by
  have hl := (List.getElem?_eq_some_iff.1 h).1
  have e : l.take (i + 1) = l.take i ++ [k] := by
    rw [List.take_add_one, h]; rfl
  rw [e, List.nodup_append, place_none]
  simp
  intro _
  constructor
  · intro h q; exact h k q rfl
  · intro h a ha b; subst b; exact h ha

theorem box_put {st : St} {x : AObj} {n o : Nat} (ho : o < n) (hn : n = st.length) (y : AObj) : St.trunc (St.put (x :: st) o y) n = St.put st o y := by
  subst hn
  rw [St.put_under ho, St.trunc_le (by simp), ← St.length_put st o y, St.trunc_self]

theorem places_loop {st0 : St} (hcl : Cl st0) {a : AV} {l : List Key} (hA : Sl 3 a (keys l)) (hac : AV.closed st0.length a = true) (hl : l.length < 1000000000000) : ∀ (d i : Nat), i + d = l.length → (l.take i).Nodup →
    ∃ js, aw 34 st0.length p34_0 ⟨[(4, .mp st0.length), (10, a), (11, .int .i64 (l.length : Int)), (12, .int .i64 (i : Int))], []⟩ (.amap (ents (l.take i) 0) :: st0) =
      some (.ret (.tup [if l.Nodup then .mp st0.length else .nilm, .bool (decide l.Nodup)]), js ++ st0) ∧ (l.Nodup → js = [.amap (ents l 0)]) ∧ Cl (js ++ st0) := by
  intro d
  induction d with
  | zero =>
    intro i hi hn
    rw [List.take_of_length_le (by omega)] at hn ⊢
    refine ⟨[.amap (ents l 0)], F34_0 _ _ _ _ _ _ ?_, fun _ => rfl, hcl.cons (closed_ents _ _ _)⟩
    rw [if_neg (by simp; omega)]
    simp [hn]
  | succ d ih =>
    intro i hi hn
    have gk : l[i]? = some (l[i]'(by omega)) := List.getElem?_eq_getElem _
    generalize l[i]'(by omega) = k at gk
    have hm : St.get (.box 57 (keyC k) :: .amap (ents (l.take i) 0) :: st0) st0.length = some (.amap (ents (l.take i) 0)) := by rw [St.get_under (by simp), St.get_top]
    have hb : St.get (.box 57 (keyC k) :: .amap (ents (l.take i) 0) :: st0) (AObj.amap (ents (l.take i) 0) :: st0).length = some (.box 57 (keyC k)) := St.get_top _ _
    have hnt := nodup_take gk
    by_cases hp : place k (l.take i) = none
    · obtain ⟨js, h1, h2⟩ := ih (i + 1) (by omega) (hnt.2 ⟨hn, hp⟩)
      refine ⟨js, F34_0 _ _ _ _ _ _ ?_, h2⟩
      rw [if_pos (by simp; omega), rdk hA.rd gk, cells_key, Option.bind_some, boxk_wr (z := []) k]
      simp only [Option.bind_some, boxk_rd hb, lookup_ok hm, hp]
      simp only [extractA_tup, List.getElem?_cons_zero, List.getElem?_cons_succ, Option.bind_some, intV_int, boolV_bool, Option.isSome_none, Bool.false_eq_true, if_false]
      rw [update_ok hm hp (by simp; omega)]
      have e1 : IntKind.i64.wrap ((i : Int) + 1) = ((i + 1 : Nat) : Int) := by rw [i64_in _ (by omega)]; rfl
      have et : l.take i ++ [k] = l.take (i + 1) := by rw [List.take_add_one, gk]; rfl
      have htr : St.trunc (St.put (AObj.box 57 (keyC k) :: AObj.amap (ents (l.take i) 0) :: st0) st0.length (.amap (ents (l.take (i + 1)) 0))) (AObj.amap (ents (l.take i) 0) :: st0).length = .amap (ents (l.take (i + 1)) 0) :: st0 := by
        rw [box_put (by simp) rfl, St.put_top]
      have hr : roundV (AObj.amap (ents (l.take i) 0) :: st0).length ⟨[(4, .mp st0.length), (10, a), (11, .int .i64 (l.length : Int)), (12, .int .i64 ((i + 1 : Nat) : Int))], []⟩ (St.put (AObj.box 57 (keyC k) :: AObj.amap (ents (l.take i) 0) :: st0) st0.length (.amap (ents (l.take (i + 1)) 0))) =
          some (⟨[(4, .mp st0.length), (10, a), (11, .int .i64 (l.length : Int)), (12, .int .i64 ((i + 1 : Nat) : Int))], []⟩, .amap (ents (l.take (i + 1)) 0) :: st0) := by
        unfold roundV
        rw [htr]
        have hne : (List.length (St.put (AObj.box 57 (keyC k) :: AObj.amap (ents (l.take i) 0) :: st0) st0.length (.amap (ents (l.take (i + 1)) 0))) == (AObj.amap (ents (l.take i) 0) :: st0).length) = false := by simp
        have hcl2 : St.closed (AObj.amap (ents (l.take i) 0) :: st0).length (.amap (ents (l.take (i + 1)) 0) :: st0) = true := by
          have : Cl (.amap (ents (l.take (i + 1)) 0) :: st0) := hcl.cons (closed_ents _ _ _)
          exact this
        rw [hne, hcl2]
        have ha2 : AV.closed (st0.length + 1) a = true := AV.closed_mono (by omega) a hac
        simp [AV.closed, ha2]
      rw [et]
      simp only [Option.bind_some, e1, hr]
      exact h1
    · have hnn : ¬ l.Nodup := fun h => hp (hnt.1 (h.sublist (List.take_sublist _ _))).2
      refine ⟨[.box 57 (keyC k), .amap (ents (l.take i) 0)], F34_0 _ _ _ _ _ _ ?_, fun h => absurd h hnn, (hcl.cons (x := .amap (ents (l.take i) 0)) (closed_ents _ _ _)).cons (by simp [AObj.closed, keyC, AV.closeds, AV.closed])⟩
      rw [if_pos (by simp; omega), rdk hA.rd gk, cells_key, Option.bind_some, boxk_wr (z := []) k]
      simp only [Option.bind_some, boxk_rd hb, lookup_ok hm]
      obtain ⟨j, hj⟩ := Option.ne_none_iff_exists'.1 hp
      simp [hj, hnn]
theorem places_run (st : St) (hcl : Cl st) {a : AV} {l : List Key} (hA : Sl 3 a (keys l)) (hac : AV.closed st.length a = true) (hl : l.length < 1000000000000) :
    ∃ js, cw 34 [a] st = some (.ret (.tup [if l.Nodup then .mp st.length else .nilm, .bool (decide l.Nodup)]), js ++ st) ∧ (l.Nodup → js = [.amap (ents l 0)]) ∧ Cl (js ++ st) := by
  obtain ⟨js, h1, h2⟩ := places_loop hcl hA hac hl l.length 0 (by omega) (by simp)
  refine ⟨js, F34 _ _ ?_, h2⟩
  rw [lnk (st := []) hA.rd]
  exact h1
theorem trunc_app (js st : St) : St.trunc (js ++ st) st.length = st := by
  unfold St.trunc
  rw [List.length_append, Nat.add_sub_cancel]
  exact List.drop_left

/-! ### Moves -/
theorem moves_loop {st0 : St} {b : AV} {ol nw : List Key} {mo : Nat} (hB : Sl 3 b (keys nw)) (hbc : AV.closed st0.length b = true) (hl : nw.length < 1000000000000) (hol : ol.length < 1000000000000) : ∀ (r : List Key) (i : Nat), nw.drop i = r → ∀ (acc : List Int) (v : AV) (st : St),
    acc.length ≤ i → acc.length ≤ nw.length → st0.length < mo → st.trunc st0.length = st0 → Cl st0 → Cl st → st.get mo = some (.amap (ents ol 0)) → Acc 1 st0.length st v (ints acc) →
    aw 17 st0.length p17_0 ⟨[(7, .mp mo), (11, v), (32, b), (33, .int .i64 (nw.length : Int)), (34, .int .i64 (i : Int))], []⟩ st =
      some (.ret (.tup [.int .i64 ((acc ++ common ol r).length : Int), .int .i64 (((acc ++ common ol r).length : Int) - (lis (acc ++ common ol r) : Nat)), .int .i64 0]), st0) := by
  intro r
  induction r with
  | nil =>
    intro i hi acc v st ha ha2 hmo htr hc0 hcl hg hM
    have : nw.length ≤ i := by simpa using hi
    refine F17_0 _ _ _ _ _ _ _ ?_
    rw [if_neg (by simp; omega)]
    have hal : acc.length < 1000000000000 := by omega
    obtain ⟨w, y, q1, q2, q3⟩ := longest_run st hcl hM.sl hal
    rw [ln (st := []) hM.sl.rd, ln (st := []) hM.sl.rd, q1]
    simp only [callB_ret]
    rw [ln q2.rd]
    have hlo := (longest_ok acc).1
    have hle : lis acc ≤ acc.length := bst_le_length all acc
    have e : IntKind.i64.wrap ((acc.length : Int) - ((longest acc).length : Int)) = (acc.length : Int) - (lis acc : Nat) := by
      rw [hlo]
      exact i64_in _ (by omega)
    have hst : st0.length < st.length := by
      have := St.get_lt hg
      omega
    have ht : St.trunc (y :: st) st0.length = st0 := by rw [St.trunc_le (by omega)]; exact htr
    have := outL_plain (n := st0.length) (v := .tup [.int .i64 (acc.length : Int), .int .i64 ((acc.length : Int) - (lis acc : Nat)), .int .i64 0]) (st := y :: st) rfl rfl (by rw [ht]; exact hc0) (by simp; omega)
    rw [ht] at this
    simpa [common, e] using this
  | cons k r ih =>
    intro i hi acc v st ha ha2 hmo htr hc0 hcl hg hM
    have hil : i < nw.length := by have := congrArg List.length hi; simp at this; omega
    have hr : nw.drop (i + 1) = r := by have := congrArg List.tail hi; simpa using this
    have gk : nw[i]? = some k := by
      have : (nw.drop i)[0]? = some k := by rw [hi]; rfl
      rw [List.getElem?_drop] at this; simpa using this
    have e1 : IntKind.i64.wrap ((i : Int) + 1) = ((i + 1 : Nat) : Int) := by rw [i64_in _ (by omega)]; rfl
    have hst := St.get_lt hg
    have hm : St.get (.box 57 (keyC k) :: st) mo = some (.amap (ents ol 0)) := by rw [St.get_under (by omega)]; exact hg
    have hbx : St.get (.box 57 (keyC k) :: st) st.length = some (.box 57 (keyC k)) := St.get_top _ _
    have hb2 : AV.closed st.length b = true := AV.closed_mono (by omega) b hbc
    have hround : ∀ (v : AV) (st1 : St) (x : AObj), st1.length = st.length → Cl st1 → AV.closed st.length v = true → roundV st.length ⟨[(7, .mp mo), (11, v), (32, b), (33, .int .i64 (nw.length : Int)), (34, .int .i64 ((i + 1 : Nat) : Int))], []⟩ (x :: st1) =
        some (⟨[(7, .mp mo), (11, v), (32, b), (33, .int .i64 (nw.length : Int)), (34, .int .i64 ((i + 1 : Nat) : Int))], []⟩, st1) := by
      intro v st1 x h1 h2 h3
      unfold roundV
      have hne : (List.length (x :: st1) == st.length) = false := by simp; omega
      have htt : St.trunc (x :: st1) st.length = st1 := by rw [← h1]; exact St.trunc_cons x st1
      have : St.closed st.length st1 = true := by rw [← h1]; exact h2
      rw [hne, htt, this]
      simp [AV.closed, hb2, h3, hst]
    refine F17_0 _ _ _ _ _ _ _ ?_
    rw [if_pos (by simp; omega), rdk hB.rd gk, cells_key, Option.bind_some, boxk_wr (z := []) k]
    simp only [Option.bind_some, boxk_rd hbx, lookup_ok hm]
    simp only [extractA_tup, List.getElem?_cons_zero, List.getElem?_cons_succ, Option.bind_some, intV_int, boolV_bool]
    cases hp : place k ol with
    | none =>
      have hcm : common ol (k :: r) = common ol r := by simp [common, hp]
      simp only [Option.isSome_none, Bool.false_eq_true, if_false, e1]
      have hvc : AV.closed st.length v = true := by
        rcases hM with ⟨rfl, _⟩ | ⟨ep, rfl, h⟩ | ⟨rfl, _⟩
        · rfl
        · have := St.get_lt h; simp [AV.closed, closed_ints]; omega
        · simp [AV.closed, closed_ints]
      rw [hround v st _ rfl hcl hvc]
      simp only [Option.bind_some]
      rw [hcm]
      exact ih (i + 1) hr acc v st (by omega) ha2 hmo htr hc0 hcl hg hM
    | some j =>
      have hcm : common ol (k :: r) = (j : Int) :: common ol r := by simp [common, hp]
      have hM2 : Acc 1 st0.length (.box 57 (keyC k) :: st) v (ints acc) := by
        rcases hM with ⟨h1, h2, e, h3⟩ | ⟨ep, h1, h2⟩ | ⟨h1, e, h2⟩
        · exact .inl ⟨h1, h2, e, Ext.cons _ _ _ _ h3⟩
        · exact .inr (.inl ⟨ep, h1, Ext.cons _ _ _ _ h2⟩)
        · exact .inr (.inr ⟨h1, e, Ext.cons _ _ _ _ h2⟩)
      obtain ⟨v2, y2, q1, q2⟩ := hM2.app (x := .sl 1 [[.int .i64 (j : Int)]] 0 1 .exact) (new := ints [(j : Int)]) (bytes := 8) rfl (by simp [ints, roomA]; omega) (by simp [ints, roomA]; omega)
      rw [← ints_app] at q2
      simp only [Option.isSome_some, if_true, Nat.add_zero, q1, bind2_some, e1]
      rw [St.put_under (by omega)] at q2 ⊢
      have hlp : (st.put st0.length y2).length = st.length := St.length_put _ _ _
      have hM3 : Acc 1 st0.length (st.put st0.length y2) v2 (ints (acc ++ [(j : Int)])) := by
        have hun : ∀ z, St.get (.box 57 (keyC k) :: st.put st0.length y2) st0.length = some z → St.get (st.put st0.length y2) st0.length = some z := fun z hz => by rwa [St.get_under (by rw [hlp]; omega)] at hz
        rcases q2 with ⟨h1, h2, e, h3⟩ | ⟨ep, h1, h2⟩ | ⟨h1, e, h2⟩
        · exact .inl ⟨h1, h2, e, hun _ h3⟩
        · exact .inr (.inl ⟨ep, h1, hun _ h2⟩)
        · exact .inr (.inr ⟨h1, e, hun _ h2⟩)
      have hvc : AV.closed st.length v2 = true := by
        rcases hM3 with ⟨rfl, _⟩ | ⟨ep, rfl, h⟩ | ⟨rfl, _⟩
        · rfl
        · simp [AV.closed, closed_ints]; omega
        · simp [AV.closed, closed_ints]
      have hyc : AObj.closed st.length y2 = true := by
        have hy : St.get (st.put st0.length y2) st0.length = some y2 := St.get_put_same (by omega)
        rcases hM3 with ⟨_, _, e, h⟩ | ⟨ep, _, h⟩ | ⟨_, e, h⟩ <;> (rw [hy] at h; cases h; rfl)
      have hcl2 : Cl (st.put st0.length y2) := hcl.put hyc
      rw [hround v2 (st.put st0.length y2) _ hlp hcl2 hvc]
      simp only [Option.bind_some]
      rw [hcm]
      have := ih (i + 1) hr (acc ++ [(j : Int)]) v2 (st.put st0.length y2) (by simp; omega) (by simp; omega) hmo (by rw [St.trunc_put (Nat.le_refl _)]; exact htr) hc0 hcl2 (by rw [St.get_put_ne (by omega)]; exact hg) hM3
      simpa using this
end Go.Abs
