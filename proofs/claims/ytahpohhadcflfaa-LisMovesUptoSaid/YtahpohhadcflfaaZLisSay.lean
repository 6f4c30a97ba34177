/- The statements' functions of chapter 9 answer true. -/
import Derived.Test.YtahpohhadcflfaaZLisTop
namespace Go.Abs
open Go Go.Proofs Go.Proofs.Ytahpohhadcflfaa.LisMath Go.RowKit Go.IntWalk
set_option linter.unusedVariables false
set_option linter.unusedSimpArgs false

theorem out_bool {st0 st : St} (hcl : Cl st0) (ht : st.trunc st0.length = st0) (hl : st0.length ≤ st.length) (b : Bool) : outL false st0.length (.ret (.bool b)) st = some (.ret (.bool b), st0) := by
  have := outL_plain (n := st0.length) (v := .bool b) (st := st) rfl rfl (by rw [ht]; exact hcl) hl
  rwa [ht] at this
theorem Acc.cl {kd t : Nat} {st : St} {y : AObj} {v : AV} {c : List (List AV)} (h : Acc kd t (st.put t y) v c) (hc : Cl st) : Cl (st.put t y) := by
  have ht : t < (st.put t y).length := by
    rcases h with ⟨_, _, e, h⟩ | ⟨ep, _, h⟩ | ⟨_, e, h⟩ <;> exact St.get_lt h
  have hy : St.get (st.put t y) t = some y := St.get_put_same (by simpa using ht)
  refine hc.put ?_
  rcases h with ⟨_, _, e, h⟩ | ⟨ep, _, h⟩ | ⟨_, e, h⟩ <;> (rw [hy] at h; cases h; rfl)
theorem Acc.clt {kd : Nat} {st : St} {y : AObj} {v : AV} {c : List (List AV)} (h : Acc kd st.length (y :: st) v c) (hc : Cl st) : Cl (y :: st) := by
  have := Acc.cl (st := .free 0 :: st) (t := st.length) (y := y) (by rw [St.put_top]; exact h) hc.free
  rwa [St.put_top] at this
theorem Acc.closed {kd t : Nat} {st : St} {v : AV} {c : List (List AV)} (h : Acc kd t st v c) (hc : AV.closedss st.length c = true) : AV.closed st.length v = true := by
  rcases h with ⟨rfl, _⟩ | ⟨ep, rfl, h⟩ | ⟨rfl, _⟩
  · rfl
  · have := St.get_lt h; simp [AV.closed, hc, this]
  · simp [AV.closed, hc]

theorem awake_run (st : St) (hcl : Cl st) : cw 15 [] st = some (.ret (.bool true), st) := by
  refine F15 _ ?_
  obtain ⟨v, y, h1, h2, h3⟩ := longest_run st hcl (a := .sl 1 (ints [5, 1, 6, 2]) 0 4 .exact) (xs := [5, 1, 6, 2]) (.inr ⟨_, 0, _, rfl, by decide, rfl⟩) (by decide)
  have hl : longest [5, 1, 6, 2] = [0, 2] := by decide
  rw [hl] at h2
  rw [show [[AV.int IntKind.i64 5], [AV.int IntKind.i64 1], [AV.int IntKind.i64 6], [AV.int IntKind.i64 2]] = ints [5, 1, 6, 2] from rfl, h1]
  simp only [callB_ret, key_run _ h3, cells_key, Option.bind_some]
  have hm := moves_run (y :: st) h3 (a := .sl 3 (keys [⟨3, 1, []⟩, ⟨3, 2, []⟩, ⟨3, 3, []⟩]) 0 3 .exact) (b := .sl 3 (keys [⟨3, 3, []⟩, ⟨3, 1, []⟩, ⟨3, 2, []⟩]) 0 3 .exact) (ol := [⟨3, 1, []⟩, ⟨3, 2, []⟩, ⟨3, 3, []⟩]) (nw := [⟨3, 3, []⟩, ⟨3, 1, []⟩, ⟨3, 2, []⟩])
    (.inr ⟨_, 0, _, rfl, by decide, rfl⟩) (by simp only [AV.closed, closed_keys]; rfl) (.inr ⟨_, 0, _, rfl, by decide, rfl⟩) (by simp only [AV.closed, closed_keys]; rfl) (by decide) (by decide)
  have hmv : moved [⟨3, 1, []⟩, ⟨3, 2, []⟩, ⟨3, 3, []⟩] [⟨3, 3, []⟩, ⟨3, 1, []⟩, ⟨3, 2, []⟩] = (3, 1, 0) := by decide
  rw [hmv] at hm
  rw [show [List.map AV.strip (keyC ⟨3, 1, []⟩), List.map AV.strip (keyC ⟨3, 2, []⟩), List.map AV.strip (keyC ⟨3, 3, []⟩)] = keys [⟨3, 1, []⟩, ⟨3, 2, []⟩, ⟨3, 3, []⟩] from rfl,
    show [List.map AV.strip (keyC ⟨3, 3, []⟩), List.map AV.strip (keyC ⟨3, 1, []⟩), List.map AV.strip (keyC ⟨3, 2, []⟩)] = keys [⟨3, 3, []⟩, ⟨3, 1, []⟩, ⟨3, 2, []⟩] from rfl, hm]
  have hs := sameInts_run (st := y :: st) (b := .sl 1 [[AV.int IntKind.i64 0], [AV.int IntKind.i64 2]] 0 2 .exact) (m := [0, 2]) h2.rd (Sl.rd (.inr ⟨_, 0, _, rfl, by decide, rfl⟩)) (by decide)
  simp only [res3, callB_ret, extractA_tup, List.getElem?_cons_zero, List.getElem?_cons_succ, Option.bind_some, intV_int, hs, boolV_bool, num_run]
  exact out_bool hcl (St.trunc_cons _ _) (by simp) true

/-! ### Longest -/
theorem spoil_loop {st : St} {v : AV} {o : Nat} : ∀ (d i : Nat) (l : List Int) (s : St), i + d = l.length → l.length < 1000000000000 → s.length = st.length → MuN s 1 v o (ints l) →
    ∃ y, aw 14 st.length p14_0 ⟨[(0, v), (2, .int .i64 (i : Int))], []⟩ s = some (.ret (.tup []), s.put o y) ∧ ((∃ e, y = .free e) ∨ ∃ ep l', y = .rows 1 ep (ints l')) := by
  intro d
  induction d with
  | zero =>
    intro i l s hi hl hs h
    have key : ∃ y, s.get o = some y ∧ ((∃ e, y = .free e) ∨ ∃ ep l', y = .rows 1 ep (ints l')) := by
      rcases h with ⟨_, _, e, h⟩ | ⟨ep, _, h⟩
      · exact ⟨_, h, .inl ⟨e, rfl⟩⟩
      · exact ⟨_, h, .inr ⟨ep, l, rfl⟩⟩
    obtain ⟨y, hy, hy2⟩ := key
    refine ⟨y, F14_0 _ _ _ _ ?_, hy2⟩
    rw [ln h.rd, if_neg (by simp; omega), St.put_same hy, ← hs, outL_same]
  | succ d ih =>
    intro i l s hi hl hs h
    have gl : l[i]? = some (l[i]'(by omega)) := List.getElem?_eq_getElem _
    generalize l[i]'(by omega) = x at *
    have hM : Mu s 1 v o (ints l) := by
      rcases h with ⟨_, h, _⟩ | h
      · have := ints_get gl; rw [h] at this; simp at this
      · exact h
    have e1 : IntKind.i64.wrap ((i : Int) + 1) = ((i + 1 : Nat) : Int) := by rw [i64_in _ (by omega)]; rfl
    obtain ⟨y, w1, w2, ep, w3⟩ := wr hM (d := IntKind.i64.wrap (-9 - x)) gl (fun s => aw 14 st.length p14_0 ⟨[(0, v), (2, .int .i64 (IntKind.i64.wrap ((i : Int) + 1)))], []⟩ s)
    obtain ⟨y2, q1, q2⟩ := ih (i + 1) (l.set i (IntKind.i64.wrap (-9 - x))) (s.put o y) (by simp; omega) (by simpa using hl) (by simpa using hs) (.inr w2)
    refine ⟨y2, F14_0 _ _ _ _ ?_, q2⟩
    rw [ln hM.rd, if_pos (by simp; omega), rd hM.rd gl, w1, e1, q1, St.put_put]
theorem spoil_run {st : St} {v : AV} {o : Nat} {l : List Int} (hl : l.length < 1000000000000) (h : MuN st 1 v o (ints l)) (hc : Cl st) : ∃ y, cw 14 [v] st = some (.ret (.tup []), st.put o y) ∧ Cl (st.put o y) := by
  obtain ⟨y, h1, h2⟩ := spoil_loop (st := st) l.length 0 l st (by omega) hl rfl h
  refine ⟨y, F14 _ _ h1, hc.put ?_⟩
  rcases h2 with ⟨e, rfl⟩ | ⟨ep, l', rfl⟩
  · rfl
  · exact closed_ints _ _
theorem lisLongest_run (st : St) (hcl : Cl st) {a : AV} {xs : List Int} (hX : Sl 1 a (ints xs)) (hxl : xs.length < 10000000) : cw 3 [a] st = some (.ret (.bool true), st) := by
  have hxl' : xs.length < 1000000000000 := by omega
  obtain ⟨lo1, lo2, lo3⟩ := longest_ok xs
  have hll : (nats (longest xs)).length < 1000000000000 := by have := bst_le_length all xs; simp only [List.length_map, lo1]; exact Nat.lt_of_le_of_lt this hxl'
  refine F3 _ _ ?_
  obtain ⟨x, hx1, hx2⟩ := lendInts_run st hcl hX hxl'
  obtain ⟨v1, y1, a1, a2, a3⟩ := longest_run st hcl hx2.sl hxl'
  obtain ⟨v2, y2, b1, b2, b3⟩ := longest_run (y1 :: st) a3 hx2.sl hxl'
  obtain ⟨w, w1, w2⟩ := rlongest_run (y2 :: y1 :: st) b3 hX hxl'
  have a4 : MuN (y2 :: y1 :: st) 1 v1 st.length (ints (nats (longest xs))) := a2.ext (Ext.cons _ _)
  obtain ⟨y3, s1, s2⟩ := spoil_run hll a4 b3
  have hp : St.put (y2 :: y1 :: st) st.length y3 = y2 :: y3 :: st := by rw [St.put_under (by simp), St.put_top]
  rw [hp] at s1 s2
  have b4 : MuN (y2 :: y3 :: st) 1 v2 (y1 :: st).length (ints (nats (longest xs))) := b2.same (by rw [St.get_cons, if_pos (by simp), St.get_cons, if_pos (by simp)])
  simp only [hx1, callB_ret, a1, b1, w1, sameInts_run a4.rd w2.rd hll, decide_true, boolV_bool, Option.bind_some, Bool.not_true, Bool.false_eq_true, if_false, keptInts_run hx2 hX.rd hxl', s1, sameInts_run b4.rd w2.rd hll, if_true, awake_run _ s2]
  exact out_bool hcl (St.trunc_cons2 _ _ _) (by simp; omega) true

/-! ### Moves -/
theorem lisMoves_run (st : St) (hcl : Cl st) {a b : AV} {ol nw : List Key} (hA : Sl 3 a (keys ol)) (hB : Sl 3 b (keys nw)) (hol : ol.length < 1000000000000) (hl : nw.length < 1000000000000) : cw 4 [a, b] st = some (.ret (.bool true), st) := by
  refine F4 _ _ _ ?_
  obtain ⟨x, x1, x2, x3⟩ := lendKeys_run st hcl hA hol
  obtain ⟨y, y1, y2, y3⟩ := lendKeys_run st hcl hB hl
  simp only [x1, y1, callB_ret, moves_run st hcl x2.sl x3 y2.sl y3 hol hl, rmoves_run st hcl hA hB hol hl, res3, extractA_tup, List.getElem?_cons_zero, List.getElem?_cons_succ, Option.bind_some, intV_int, beq_self_eq_true, if_true, num_run,
    keptKeys_run x2 hA.rd hol, keptKeys_run y2 hB.rd hl, boolV_bool, awake_run st hcl, outL_same]
theorem lisKeys_run (st : St) (hcl : Cl st) {a b : AV} {ol nw : List Key} (hA : Sl 3 a (keys ol)) (hB : Sl 3 b (keys nw)) (hol : ol.length < 1000000000000) (hl : nw.length < 1000000000000) : cw 7 [a, b] st = some (.ret (.bool true), st) := by
  refine F7 _ _ _ ?_
  obtain ⟨x, y1, x1, x2⟩ := copyKeys_run st hA hol
  obtain ⟨y, y2, q1, q2⟩ := copyKeys_run (y1 :: st) hB hl
  have c1 : Cl (y1 :: st) := x2.clt hcl
  have c2 : Cl (y2 :: y1 :: st) := q2.clt c1
  obtain ⟨z, y3, z1, z2⟩ := copyKeys_run (y2 :: y1 :: st) hB hl
  have c3 : Cl (y3 :: y2 :: y1 :: st) := z2.clt c2
  obtain ⟨u, y4, u1, u2⟩ := copyKeys_run (y3 :: y2 :: y1 :: st) hA hol
  have c4 : Cl (y4 :: y3 :: y2 :: y1 :: st) := u2.clt c3
  have m1 := moves_run (y2 :: y1 :: st) c2 x2.sl (AV.closed_mono (by simp) _ (x2.closed (closed_keys _ _))) q2.sl (q2.closed (closed_keys _ _)) hol hl
  have m2 := moves_run (y4 :: y3 :: y2 :: y1 :: st) c4 z2.sl (AV.closed_mono (by simp) _ (z2.closed (closed_keys _ _))) u2.sl (u2.closed (closed_keys _ _)) hl hol
  have bad : ∀ {s : St} (b : Bool), s = y4 :: y3 :: y2 :: y1 :: st → outL false st.length (.ret (.bool b)) s = some (.ret (.bool b), st) := fun b hs => by
    subst hs
    exact out_bool hcl (by rw [St.trunc_le (by simp; omega), St.trunc_le (by simp; omega), St.trunc_cons2]) (by simp; omega) b
  simp only [awake_run st hcl, callB_ret, boolV_bool, Option.bind_some, Bool.not_true, Bool.false_eq_true, if_false, x1, q1, m1, z1, u1, m2, res3, extractA_tup, List.getElem?_cons_zero, List.getElem?_cons_succ, intV_int, num_run]
  by_cases hn : ol.Nodup ∧ nw.Nodup
  · have e1 : moved ol nw = (((common ol nw).length : Int), ((common ol nw).length : Int) - (lis (common ol nw) : Nat), 0) := by simp [moved, hn]
    have e2 : moved nw ol = (((common ol nw).length : Int), ((common ol nw).length : Int) - (lis (common ol nw) : Nat), 0) := by simp [moved, hn.1, hn.2, len_common hn.2 hn.1, lis_common hn.2 hn.1]
    have e3 : moved ol ol = ((ol.length : Int), 0, 0) := by
      have h3 : common ol ol = (List.range ol.length).map fun i : Nat => (i : Int) := common_self hn.1
      have h4 : lis (common ol ol) = ol.length := by rw [h3]; exact lis_range _
      have h5 : (common ol ol).length = ol.length := by rw [h3]; simp
      simp only [moved, hn.1, and_self, if_true, h4, h5]
      simp
    obtain ⟨p, y5, p1, p2⟩ := copyKeys_run (y4 :: y3 :: y2 :: y1 :: st) hA hol
    have c5 : Cl (y5 :: y4 :: y3 :: y2 :: y1 :: st) := p2.clt c4
    obtain ⟨q, y6, r1, r2⟩ := copyKeys_run (y5 :: y4 :: y3 :: y2 :: y1 :: st) hA hol
    have c6 : Cl (y6 :: y5 :: y4 :: y3 :: y2 :: y1 :: st) := r2.clt c5
    have m3 := moves_run (y6 :: y5 :: y4 :: y3 :: y2 :: y1 :: st) c6 p2.sl (AV.closed_mono (by simp) _ (p2.closed (closed_keys _ _))) r2.sl (r2.closed (closed_keys _ _)) hol hol
    have hle : lis (common ol nw) ≤ (common ol nw).length := bst_le_length all _
    have good : ∀ b, outL false st.length (.ret (.bool b)) (y6 :: y5 :: y4 :: y3 :: y2 :: y1 :: st) = some (.ret (.bool b), st) := fun b =>
      out_bool hcl (by rw [St.trunc_le (by simp; omega), St.trunc_le (by simp; omega), St.trunc_le (by simp; omega), St.trunc_le (by simp; omega), St.trunc_cons2]) (by simp; omega) b
    have hpos : (common ol nw).length ≠ 0 → 0 < lis (common ol nw) := fun h => lis_pos (fun e => h (by rw [e]; rfl))
    have hlk : lenSl a = some (.int .i64 ol.length) := by rw [hA.len, keys_len]
    simp only [e1, e2, bne_self_eq_false, Bool.false_eq_true, if_false, callB_ret, p1, r1, m3, e3, res3, extractA_tup, List.getElem?_cons_zero, List.getElem?_cons_succ, Option.bind_some, intV_int, beq_self_eq_true, if_true, hlk, num_run]
    rw [if_pos (by simp; omega)]
    by_cases h0 : (common ol nw).length = 0
    · rw [if_pos (by simp [h0])]
      exact good _
    · rw [if_neg (by simpa using h0)]
      have := hpos h0
      rw [if_pos (by simp; omega)]
      exact good _
  · have e1 : moved ol nw = (0, 0, 900) := by simp [moved, hn]
    have e2 : moved nw ol = (0, 0, 900) := by simp only [moved]; rw [if_neg (fun h => hn ⟨h.2, h.1⟩)]
    simp only [e1, e2]
    simp [bad true rfl]
/-! ### Rises -/
theorem rises_check {st0 S : St} {a v : AV} {xs : List Int} (hX : Sl 1 a (ints xs)) (hxl : xs.length < 1000000000000) (hR : Rd S 1 v (ints (nats (longest xs)))) (more : Int) (q : AOut × St)
    (h : aw 5 st0.length p5_1 ⟨[(0, a), (1, .int .i64 more), (5, v), (7, .int .i64 ((0 : Nat) : Int)), (8, .int .i64 ((0 : Nat) : Int))], []⟩ S = some q) : ∀ (d i : Nat), i + d = (longest xs).length →
    aw 5 st0.length p5_0 ⟨[(0, a), (1, .int .i64 more), (5, v), (6, .int .i64 (i : Int))], []⟩ S = some q := by
  obtain ⟨lo1, lo2, lo3⟩ := longest_ok xs
  have hle : lis xs ≤ xs.length := bst_le_length all xs
  have hnl : (nats (longest xs)).length = (longest xs).length := by simp
  intro d
  induction d with
  | zero =>
    intro i hi
    refine F5_0 _ _ _ _ _ _ ?_
    rw [ln hR, if_neg (by simp; omega)]
    exact h
  | succ d ih =>
    intro i hi
    have hil : i < (longest xs).length := by omega
    have gi : (longest xs)[i]? = some (longest xs)[i] := List.getElem?_eq_getElem hil
    have gn : (nats (longest xs))[i]? = some ((longest xs)[i] : Int) := by simp [nats, gi]
    have hb := lo2 _ (List.getElem_mem hil)
    have gx : xs[(longest xs)[i]]? = some (xs[(longest xs)[i]]'hb) := List.getElem?_eq_getElem hb
    have e1 : IntKind.i64.wrap ((i : Int) + 1) = ((i + 1 : Nat) : Int) := by rw [i64_in _ (by omega)]; rfl
    refine F5_0 _ _ _ _ _ _ ?_
    rw [ln hR, if_pos (by simp; omega), rd hR gn, if_neg (by simp), rd hR gn, ln (st := []) hX.rd, if_neg (by simp; omega)]
    by_cases h0 : 0 < i
    · have hil' : i - 1 < (longest xs).length := by omega
      have gi' : (longest xs)[i - 1]? = some (longest xs)[i - 1] := List.getElem?_eq_getElem hil'
      have gn' : (nats (longest xs))[i - 1]? = some ((longest xs)[i - 1] : Int) := by simp [nats, gi']
      have hb' := lo2 _ (List.getElem_mem hil')
      have gx' : xs[(longest xs)[i - 1]]? = some (xs[(longest xs)[i - 1]]'hb') := List.getElem?_eq_getElem hb'
      have e2 : IntKind.i64.wrap ((i : Int) - 1) = ((i - 1 : Nat) : Int) := by rw [i64_in _ (by omega)]; omega
      have hp := List.pairwise_iff_getElem.1 lo3 (i - 1) i hil' hil (by omega)
      have hp2 := hp.2 _ _ gx' gx
      rw [if_pos (by simpa using h0), e2, rd hR gn', rd hR gn, if_neg (by simp; omega), rd hR gn', rd hX.rd gx', rd hR gn, rd hX.rd gx, if_neg (by simp; omega), e1]
      exact ih (i + 1) (by omega)
    · rw [if_neg (by simpa using h0), e1]
      exact ih (i + 1) (by omega)
theorem rises_gap {st0 S : St} {a v : AV} {xs : List Int} (hX : Sl 1 a (ints xs)) (hxl : xs.length < 1000000000000) (hR : Rd S 1 v (ints (nats (longest xs)))) (more : Int) (q : AOut × St) {i lo hi : Nat} (hil : i ≤ (longest xs).length)
    (hlo : ∀ b, (longest xs)[i - 1]? = some b → 0 < i → b < lo) (hhi : ∀ b, (longest xs)[i]? = some b → hi ≤ b) (hhn : hi ≤ xs.length)
    (h : aw 5 st0.length p5_1 ⟨[(0, a), (1, .int .i64 more), (5, v), (7, .int .i64 ((hi + 1 : Nat) : Int)), (8, .int .i64 ((i + 1 : Nat) : Int))], []⟩ S = some q) : ∀ (d k : Nat), (k + d = hi ∨ (hi ≤ k ∧ d = 0)) → lo ≤ k →
    aw 5 st0.length p5_3 ⟨[(0, a), (1, .int .i64 more), (5, v), (8, .int .i64 (i : Int)), (9, .int .i64 (hi : Int)), (10, .int .i64 (k : Int))], []⟩ S = some q := by
  obtain ⟨lo1, lo2, lo3⟩ := longest_ok xs
  have hle : lis xs ≤ xs.length := bst_le_length all xs
  have hnl : (nats (longest xs)).length = (longest xs).length := by simp
  intro d
  induction d with
  | zero =>
    intro k hk hlk
    have e1 : IntKind.i64.wrap ((hi : Int) + 1) = ((hi + 1 : Nat) : Int) := by rw [i64_in _ (by omega)]; rfl
    have e2 : IntKind.i64.wrap ((i : Int) + 1) = ((i + 1 : Nat) : Int) := by rw [i64_in _ (by omega)]; rfl
    refine F5_3 _ _ _ _ _ _ _ _ ?_
    rw [if_neg (by simp; omega), e1, e2]
    exact h
  | succ d ih =>
    intro k hk hlk
    have hkn : k < xs.length := by omega
    have gz : xs[k]? = some xs[k] := List.getElem?_eq_getElem hkn
    generalize xs[k] = z at gz
    have e1 : IntKind.i64.wrap ((k : Int) + 1) = ((k + 1 : Nat) : Int) := by rw [i64_in _ (by omega)]; rfl
    have next := ih (k + 1) (by omega) (by omega)
    have hno := no_between xs i k hil hkn z gz (fun b hb h0 => by have := hlo b hb h0; omega) (fun b hb => by have := hhi b hb; omega)
    -- what stands at the place behind
    have upper : i < (longest xs).length → ∃ b x, (nats (longest xs))[i]? = some ((b : Nat) : Int) ∧ (longest xs)[i]? = some b ∧ xs[b]? = some x := by
      intro hlt
      have gi : (longest xs)[i]? = some (longest xs)[i] := List.getElem?_eq_getElem hlt
      have hb := lo2 _ (List.getElem_mem hlt)
      exact ⟨_, _, by simp [nats, gi], gi, List.getElem?_eq_getElem hb⟩
    refine F5_3 _ _ _ _ _ _ _ _ ?_
    rw [if_pos (by simp; omega)]
    by_cases h0 : i = 0
    · subst h0
      rw [if_pos (by simp), ln hR]
      have hne : 0 ≠ (longest xs).length := fun e => hno ⟨.inl rfl, .inl e⟩
      obtain ⟨b, x, u1, u2, u3⟩ := upper (by omega)
      have hzx : ¬ z < x := fun hlt => hno ⟨.inl rfl, .inr ⟨b, x, u2, u3, hlt⟩⟩
      rw [if_neg (by simp; omega), rd hX.rd gz, rd hR u1, rd hX.rd u3, if_neg (by simpa using hzx), e1]
      exact next
    · have hil' : i - 1 < (longest xs).length := by omega
      have gi' : (longest xs)[i - 1]? = some (longest xs)[i - 1] := List.getElem?_eq_getElem hil'
      have gn' : (nats (longest xs))[i - 1]? = some ((longest xs)[i - 1] : Int) := by simp [nats, gi']
      have hb' := lo2 _ (List.getElem_mem hil')
      have gx' : xs[(longest xs)[i - 1]]? = some (xs[(longest xs)[i - 1]]'hb') := List.getElem?_eq_getElem hb'
      have e2 : IntKind.i64.wrap ((i : Int) - 1) = ((i - 1 : Nat) : Int) := by rw [i64_in _ (by omega)]; omega
      rw [if_neg (by simp; omega), rd hX.rd gz, e2, rd hR gn', rd hX.rd gx']
      by_cases hzw : z > xs[(longest xs)[i - 1]]'hb'
      · have hA : i = 0 ∨ ∃ a x, (longest xs)[i - 1]? = some a ∧ xs[a]? = some x ∧ x < z := .inr ⟨_, _, gi', gx', hzw⟩
        have hne : i ≠ (longest xs).length := fun e => hno ⟨hA, .inl e⟩
        obtain ⟨b, x, u1, u2, u3⟩ := upper (by omega)
        have hzx : ¬ z < x := fun hlt => hno ⟨hA, .inr ⟨b, x, u2, u3, hlt⟩⟩
        rw [if_pos (by simpa using hzw), ln hR, if_neg (by simp; omega), rd hX.rd gz, rd hR u1, rd hX.rd u3, if_neg (by simpa using hzx), e1]
        exact next
      · rw [if_neg (by simpa using hzw), e1]
        exact next
theorem rises_loop {st0 S : St} {a v : AV} {xs : List Int} (hX : Sl 1 a (ints xs)) (hxl : xs.length < 1000000000000) (hR : Rd S 1 v (ints (nats (longest xs)))) (more : Int) (q : AOut × St)
    (hend : ∀ f : Nat, aw 5 st0.length p5_1 ⟨[(0, a), (1, .int .i64 more), (5, v), (7, .int .i64 (f : Int)), (8, .int .i64 (((longest xs).length + 1 : Nat) : Int))], []⟩ S = some q) : ∀ (d i f : Nat), i + d = (longest xs).length + 1 → (∀ b, (longest xs)[i - 1]? = some b → 0 < i → b < f) →
    aw 5 st0.length p5_1 ⟨[(0, a), (1, .int .i64 more), (5, v), (7, .int .i64 (f : Int)), (8, .int .i64 (i : Int))], []⟩ S = some q := by
  obtain ⟨lo1, lo2, lo3⟩ := longest_ok xs
  have hle : lis xs ≤ xs.length := bst_le_length all xs
  have hnl : (nats (longest xs)).length = (longest xs).length := by simp
  intro d
  induction d with
  | zero => intro i f hi _; have : i = (longest xs).length + 1 := by omega
            subst this; exact hend f
  | succ d ih =>
    intro i f hi hf
    refine F5_1 _ _ _ _ _ _ _ ?_
    rw [ln hR, if_pos (by simp; omega), ln (st := []) hX.rd, ln hR]
    by_cases hlt : i < (longest xs).length
    · have gi : (longest xs)[i]? = some (longest xs)[i] := List.getElem?_eq_getElem hlt
      have gn : (nats (longest xs))[i]? = some ((longest xs)[i] : Int) := by simp [nats, gi]
      have hb := lo2 _ (List.getElem_mem hlt)
      rw [if_pos (by simp; omega), rd hR gn]
      refine F5_2 _ _ _ _ _ _ _ _ ?_
      refine rises_gap hX hxl hR more q (i := i) (lo := f) (hi := (longest xs)[i]) (by omega) hf (fun b hb => by rw [gi] at hb; cases hb; exact Nat.le_refl _) (by omega) ?_ ((longest xs)[i] - f) f (by omega) (Nat.le_refl _)
      exact ih (i + 1) _ (by omega) (fun b hb _ => by simp only [Nat.add_sub_cancel] at hb; rw [gi] at hb; cases hb; omega)
    · have : i = (longest xs).length := by omega
      rw [if_neg (by simp; omega)]
      refine F5_2 _ _ _ _ _ _ _ _ ?_
      refine rises_gap hX hxl hR more q (i := i) (lo := f) (hi := xs.length) (by omega) hf (fun b hb => by rw [List.getElem?_eq_none (by omega)] at hb; cases hb) (Nat.le_refl _) ?_ (xs.length - f) f (by omega) (Nat.le_refl _)
      subst this
      exact hend _
theorem lisRises_run (st : St) (hcl : Cl st) {a : AV} {xs : List Int} (hX : Sl 1 a (ints xs)) (hxl : xs.length < 10000000) (more : Int) : cw 5 [a, .int .i64 more] st = some (.ret (.bool true), st) := by
  have hxl' : xs.length < 1000000000000 := by omega
  refine F5 _ _ _ ?_
  obtain ⟨c, y1, c1, c2⟩ := copyInts_run (.free 0 :: st) hX hxl'
  have k1 : Cl (y1 :: .free 0 :: st) := c2.clt hcl.free
  obtain ⟨v, y2, l1, l2, l3⟩ := longest_run (y1 :: .free 0 :: st) k1 c2.sl hxl'
  simp only [awake_run _ hcl.free, callB_ret, boolV_bool, Option.bind_some, Bool.not_true, Bool.false_eq_true, if_false, c1, l1]
  refine rises_check hX hxl' l2.rd more _ ?_ _ 0 (Nat.zero_add _)
  refine rises_loop hX hxl' l2.rd more _ (fun f => ?_) ((longest xs).length + 1) 0 0 (by omega) (fun b hb h => by omega)
  refine F5_1 _ _ _ _ _ _ _ ?_
  obtain ⟨lo1, lo2, lo3⟩ := longest_ok xs
  obtain ⟨d, y3, d1, d2⟩ := copyInts_run (y2 :: y1 :: .free 0 :: st) hX hxl'
  have k3 : Cl (y3 :: y2 :: y1 :: .free 0 :: st) := d2.clt l3
  have hf : St.get (y3 :: y2 :: y1 :: .free 0 :: st) st.length = some (.free 0) := by
    rw [St.get_under (by simp only [List.length_cons]; omega), St.get_under (by simp only [List.length_cons]; omega), St.get_under (by simp), St.get_top]
  obtain ⟨w, t, y4, w1, w2, w3⟩ := d2.app2 (n := st.length) (t' := st.length) (x := .sl 1 [[.int .i64 more]] 0 1 .exact) (new := ints [more]) (bytes := 8) (by simp; omega) (Nat.le_refl _) hf rfl (by rw [ints_len, ints_len]; simp [roomA]; omega) (by rw [ints_len, ints_len]; simp [roomA]; omega)
  rw [← ints_app] at w3
  have k4 := w3.cl k3
  obtain ⟨u, y5, u1, u2, u3⟩ := longest_run _ k4 w3.sl (by simp; omega)
  rw [ln l2.rd, if_neg (by simp; omega), d1]
  simp only [callB_ret, Nat.add_zero, w1, bind2_some, u1]
  rw [ln u2.rd, ln l2.rd]
  have hm := lis_more xs more
  have lo4 := (longest_ok (xs ++ [more])).1
  have hle : lis xs ≤ xs.length := bst_le_length all xs
  have e1 : IntKind.i64.wrap (((nats (longest xs)).length : Int) + 1) = ((lis xs + 1 : Nat) : Int) := by simp only [List.length_map, lo1]; rw [i64_in _ (by omega)]; rfl
  have fin : ∀ b, outL false st.length (.ret (.bool b)) (y5 :: St.put (y3 :: y2 :: y1 :: .free 0 :: st) t y4) = some (.ret (.bool b), st) := fun b =>
    out_bool hcl (by rw [St.trunc_le (by simp only [St.length_put, List.length_cons]; omega), St.trunc_put w2, St.trunc_le (by simp only [List.length_cons]; omega), St.trunc_le (by simp only [List.length_cons]; omega), St.trunc_cons2]) (by simp only [St.length_put, List.length_cons]; omega) b
  simp only [List.length_map, lo1, lo4] at e1 ⊢
  rcases hm with hm | hm
  · rw [if_pos (by simp [hm])]
    exact fin true
  · rw [if_neg (by simp [hm]; omega), ln u2.rd, ln l2.rd]
    simp only [List.length_map, lo1, lo4, e1, hm]
    simpa using fin true

/-! ### Piles -/
def negs (l : List Int) : List Int := l.map fun x => -x
theorem turn_cons (x : Int) (r : List Int) : turn (x :: r) = turn r ++ [-x] := by simp [turn]
theorem turn_snoc (l : List Int) (x : Int) : turn (l ++ [x]) = -x :: turn l := by simp [turn]
theorem turn_len (l : List Int) : (turn l).length = l.length := by simp [turn]
theorem neg_wrap {x : Int} (h : i64 x) (hm : x ≠ -9223372036854775808) : IntKind.i64.wrap (0 - x) = -x := by
  obtain ⟨h1, h2⟩ := h
  rw [i64_in _ (by omega)]; omega
theorem pile_row {st0 : St} {a v5 v6 : AV} {xs : List Int} (hX : Sl 1 a (ints xs)) (hxl : xs.length < 10000000) {i : Nat} {x : Int} (gx : xs[i]? = some x) {P : List Int} (hf : Falls P) (hPl : P.length ≤ xs.length) {v : AV} {S : St} (hM : MuN S 1 v (st0.length + 1) (ints (negs P))) (q : AOut × St)
    (h : ∀ v' y, MuN (S.put (st0.length + 1) y) 1 v' (st0.length + 1) (ints (negs (put (-x) P))) →
      aw 6 st0.length p6_1 ⟨[(0, a), (5, v5), (6, v6), (7, v'), (8, .int .i64 ((i + 1 : Nat) : Int))], []⟩ (S.put (st0.length + 1) y) = some q) : ∀ (d k : Nat), k + d = pos (-x) P →
    aw 6 st0.length p6_2 ⟨[(0, a), (5, v5), (6, v6), (7, v), (8, .int .i64 (i : Int)), (9, .int .i64 (k : Int))], []⟩ S = some q := by
  have hil := (List.getElem?_eq_some_iff.1 gx).1
  have hpl := pos_le (-x) P
  have hnl : (negs P).length = P.length := by simp [negs]
  have heq := put_eq (-x) P
  have e2 : IntKind.i64.wrap ((i : Int) + 1) = ((i + 1 : Nat) : Int) := by rw [i64_in _ (by omega)]; rfl
  intro d
  induction d with
  | zero =>
    intro k hk
    have hk : k = pos (-x) P := by omega
    subst hk
    refine F6_2 _ _ _ _ _ _ _ _ ?_
    rw [ln hM.rd]
    by_cases hc : pos (-x) P = P.length
    · rw [if_neg (by simp; omega), ln hM.rd, if_pos (by simp; omega), rd hX.rd gx]
      rw [if_pos hc] at heq
      obtain ⟨v', y, q1, q2, q3⟩ := hM.app (x := .sl 1 [[.int .i64 x]] 0 1 .exact) (new := ints [x]) (bytes := 8) rfl (by rw [ints_len, ints_len]; simp [roomA]; omega) (by rw [ints_len, ints_len]; simp [roomA]; omega)
      rw [q1, bind2_some, e2]
      refine h v' y ?_
      rw [← ints_app] at q2
      rw [heq]
      simpa [negs] using q2
    · rw [if_neg hc] at heq
      have hlt : pos (-x) P < P.length := by omega
      have gp : P[pos (-x) P]? = some P[pos (-x) P] := List.getElem?_eq_getElem hlt
      have gn : (negs P)[pos (-x) P]? = some (-P[pos (-x) P]) := by simp [negs, gp]
      have hs := (pos_spec (-x) hf _ _ gp).2 (Nat.le_refl _)
      have hMu : Mu S 1 v (st0.length + 1) (ints (negs P)) := by
        rcases hM with ⟨_, h2, _⟩ | h2
        · have := ints_get gn; rw [h2] at this; simp at this
        · exact h2
      obtain ⟨y, w1, w2, ep, w3⟩ := wr hMu (d := x) gn (fun s => aw 6 st0.length p6_1 ⟨[(0, a), (5, v5), (6, v6), (7, v), (8, .int .i64 (IntKind.i64.wrap ((i : Int) + 1)))], []⟩ s)
      rw [if_pos (by simp; omega), rd hM.rd gn, rd hX.rd gx, if_neg (by simp; omega), ln hM.rd, if_neg (by simp; omega), rd hX.rd gx, w1, e2]
      refine h v y (.inr ?_)
      rw [heq]
      have : negs (P.set (pos (-x) P) (-x)) = (negs P).set (pos (-x) P) x := by simp [negs, List.map_set]
      rw [this]
      exact w2
  | succ d ih =>
    intro k hk
    have hlt : k < P.length := by omega
    have gp : P[k]? = some P[k] := List.getElem?_eq_getElem hlt
    have gn : (negs P)[k]? = some (-P[k]) := by simp [negs, gp]
    have hs : ¬ P[k] ≤ -x := fun h => by have := (pos_spec (-x) hf _ _ gp).1 h; omega
    have e1 : IntKind.i64.wrap ((k : Int) + 1) = ((k + 1 : Nat) : Int) := by rw [i64_in _ (by omega)]; rfl
    refine F6_2 _ _ _ _ _ _ _ _ ?_
    rw [ln hM.rd, if_pos (by simp; omega), rd hM.rd gn, rd hX.rd gx, if_pos (by simp; omega), e1]
    exact ih (k + 1) (by omega)
theorem pile_loop {st0 : St} (hcl : Cl st0) {a v5 v6 : AV} {xs : List Int} (hX : Sl 1 a (ints xs)) (hxl : xs.length < 10000000) (h5 : lenSl v5 = some (.int .i64 (lis xs : Nat))) (h6 : lenSl v6 = some (.int .i64 (lis xs : Nat))) : ∀ (d i : Nat), i + d = xs.length → ∀ (v : AV) (S : St), S.trunc st0.length = st0 → st0.length ≤ S.length → MuN S 1 v (st0.length + 1) (ints (negs (piles (turn (xs.take i))))) →
    aw 6 st0.length p6_1 ⟨[(0, a), (5, v5), (6, v6), (7, v), (8, .int .i64 (i : Int))], []⟩ S = some (.ret (.bool true), st0) := by
  intro d
  induction d with
  | zero =>
    intro i hi v S ht hl hM
    refine F6_1 _ _ _ _ _ _ _ ?_
    rw [List.take_of_length_le (by omega)] at hM
    have hn : (negs (piles (turn xs))).length = lis xs := by simp only [negs, List.length_map, piles_len, lis_turn]
    rw [ln (st := []) hX.rd, if_neg (by simp; omega)]
    simp only [h5, h6, Option.bind_some, intV_int, beq_self_eq_true, if_true]
    rw [ln hM.rd, hn]
    simp only [beq_self_eq_true]
    exact out_bool hcl ht hl true
  | succ d ih =>
    intro i hi v S ht hl hM
    have gx : xs[i]? = some (xs[i]'(by omega)) := List.getElem?_eq_getElem _
    generalize xs[i]'(by omega) = x at gx
    have et : xs.take (i + 1) = xs.take i ++ [x] := by rw [List.take_add_one, gx]; rfl
    have hPl : (piles (turn (xs.take i))).length ≤ xs.length := by
      rw [piles_len, lis_turn]
      have : lis (xs.take i) ≤ (xs.take i).length := bst_le_length all _
      simp at this; omega
    refine F6_1 _ _ _ _ _ _ _ ?_
    rw [ln (st := []) hX.rd, if_pos (by simp; omega)]
    refine pile_row hX hxl gx (piles_falls _) hPl hM _ (fun v' y hy => ih (i + 1) (by omega) v' _ (by rw [St.trunc_put (by omega)]; exact ht) (by simpa using hl) ?_) (pos (-x) (piles (turn (xs.take i)))) 0 (Nat.zero_add _)
    rw [et, turn_snoc]
    exact hy
theorem turn_loop {st0 : St} (hcl : Cl st0) {a : AV} {xs : List Int} (hX : Sl 1 a (ints xs)) (hok : ∀ x ∈ xs, i64 x) (hxl : xs.length < 10000000)
    (hend : ∀ (v : AV) (S : St), S.trunc st0.length = st0 → st0.length + 1 < S.length → Cl S → S.get (st0.length + 1) = some (.free 0) → Sl 1 v (ints (turn xs)) →
      aw 6 st0.length p6_0 ⟨[(0, a), (3, v), (4, .int .i64 (-1))], []⟩ S = some (.ret (.bool true), st0)) : ∀ (d : Nat), d ≤ xs.length → ∀ (v : AV) (S : St), S.trunc st0.length = st0 → st0.length + 1 < S.length → Cl S → S.get (st0.length + 1) = some (.free 0) → Acc 1 st0.length S v (ints (turn (xs.drop d))) →
    aw 6 st0.length p6_0 ⟨[(0, a), (3, v), (4, .int .i64 ((d : Int) - 1))], []⟩ S = some (.ret (.bool true), st0) := by
  intro d
  induction d with
  | zero =>
    intro _ v S ht hl hc hg hM
    exact hend v S ht hl hc hg hM.sl
  | succ d ih =>
    intro hd v S ht hl hc hg hM
    have hdl : d < xs.length := by omega
    have hx : xs.drop d = xs[d] :: xs.drop (d + 1) := List.drop_eq_getElem_cons hdl
    have gx : xs[d]? = some xs[d] := List.getElem?_eq_getElem hdl
    have hxo := hok _ (List.getElem_mem hdl)
    generalize xs[d] = x at hx gx hxo
    have e0 : ((d + 1 : Nat) : Int) - 1 = (d : Int) := by omega
    have e1 : IntKind.i64.wrap ((d : Int) - 1) = (d : Int) - 1 := i64_in _ (by omega)
    refine F6_0 _ _ _ _ _ ?_
    rw [e0, if_pos (by simp), rd hX.rd gx]
    by_cases hm : x = -9223372036854775808
    · rw [if_pos (by simp [hm])]
      exact out_bool hcl ht (by omega) true
    · rw [if_neg (by simpa using hm), rd hX.rd gx, neg_wrap hxo hm, e1]
      obtain ⟨v', y, q1, q2⟩ := hM.app (x := .sl 1 [[.int .i64 (-x)]] 0 1 .exact) (new := ints [-x]) (bytes := 8) rfl (by rw [ints_len, ints_len, turn_len]; simp [roomA]; omega) (by rw [ints_len, ints_len, turn_len]; simp [roomA]; omega)
      rw [← ints_app, ← turn_cons, ← hx] at q2
      simp only [Nat.add_zero, q1, bind2_some]
      exact ih (by omega) v' _ (by rw [St.trunc_put (Nat.le_refl _)]; exact ht) (by simpa using hl) (q2.cl hc) (by rw [St.get_put_ne (by omega)]; exact hg) q2
theorem lisPiles_run (st : St) (hcl : Cl st) {a : AV} {xs : List Int} (hX : Sl 1 a (ints xs)) (hok : ∀ x ∈ xs, i64 x) (hxl : xs.length < 10000000) : cw 6 [a] st = some (.ret (.bool true), st) := by
  have hxl' : xs.length < 1000000000000 := by omega
  refine F6 _ _ ?_
  simp only [awake_run _ hcl.free.free, callB_ret, boolV_bool, Option.bind_some, Bool.not_true, Bool.false_eq_true, if_false]
  have e1 : IntKind.i64.wrap ((xs.length : Int) - 1) = (xs.length : Int) - 1 := i64_in _ (by omega)
  rw [ln (st := []) hX.rd, e1]
  refine turn_loop hcl hX hok hxl (fun v S ht hl hc hg hv => ?_) xs.length (Nat.le_refl _) .nils _ (St.trunc_cons2 _ _ _) (by simp) hcl.free.free (by rw [St.get_cons, if_pos (by simp)]) (.inl ⟨rfl, by simp [turn, ints], 0, by rw [St.get_under (by simp), St.get_top]⟩)
  refine F6_0 _ _ _ _ _ ?_
  obtain ⟨c, y1, c1, c2⟩ := copyInts_run S hX hxl'
  have k1 : Cl (y1 :: S) := c2.clt hc
  obtain ⟨u, y2, u1, u2, u3⟩ := longest_run (y1 :: S) k1 c2.sl hxl'
  obtain ⟨w, y3, w1, w2, w3⟩ := longest_run (y2 :: y1 :: S) u3 hv (by rw [turn_len]; omega)
  rw [if_neg (by decide)]
  simp only [c1, u1, w1, callB_ret]
  have l1 : lenSl u = some (.int .i64 (lis xs : Nat)) := by rw [u2.rd.len, ints_len]; simp [(longest_ok xs).1]
  have l2 : lenSl w = some (.int .i64 (lis xs : Nat)) := by rw [w2.rd.len, ints_len]; simp [(longest_ok (turn xs)).1, lis_turn]
  exact pile_loop hcl hX hxl l1 l2 xs.length 0 (Nat.zero_add _) .nils _ (by rw [St.trunc_le (by simp only [List.length_cons]; omega), St.trunc_le (by simp only [List.length_cons]; omega), St.trunc_le (by omega)]; exact ht) (by simp only [List.length_cons]; omega)
    (.inl ⟨rfl, by simp [turn, piles, negs, ints], 0, by rw [St.get_under (by simp only [List.length_cons]; omega), St.get_under (by simp only [List.length_cons]; omega), St.get_under (by omega)]; exact hg⟩)
end Go.Abs
