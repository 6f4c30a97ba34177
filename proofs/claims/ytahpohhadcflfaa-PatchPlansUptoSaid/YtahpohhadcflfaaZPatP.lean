/- Every Least: the statement's function answers true. -/
import Derived.Test.YtahpohhadcflfaaZPatO
namespace Go.Abs
open Go Go.Proofs Go.Proofs.Ytahpohhadcflfaa.LisMath Go.RowKit Go.IntWalk
set_option linter.unusedVariables false
set_option linter.unusedSimpArgs false

section
variable {st : St}
def old2 : List Spot := [spotN 0 (-1), spotN 1 0]
def new3 : List Spot := [spotN 0 (-1), spotN 2 0, spotN 3 1]
theorem formedN (i : Int) (h : 0 ≤ i) : formed (oriN i) = true := by
  unfold formed oriN
  simp [h]
theorem nilLoops : LoopsOk [] := fun i s h => by simp at h
theorem rise_nil : RiseF [] 1 := fun j x y _ h => by simp at h
theorem good_old : SpotsOk old2 := fun i s h => by
  match i, h with
  | 0, h => cases h; exact ⟨by decide, by decide, fun h => absurd h (by decide), formedN 0 (by decide), by decide, by decide, rise_nil, by decide⟩
  | 1, h => cases h; exact ⟨by decide, by decide, fun _ p hp => by cases hp; decide, formedN 1 (by decide), by decide, by decide, rise_nil, by decide⟩
  | i + 2, h => simp [old2] at h
theorem good_new : SpotsOk new3 := fun i s h => by
  match i, h with
  | 0, h => cases h; exact ⟨by decide, by decide, fun h => absurd h (by decide), formedN 0 (by decide), by decide, by decide, rise_nil, by decide⟩
  | 1, h => cases h; exact ⟨by decide, by decide, fun _ p hp => by cases hp; decide, formedN 2 (by decide), by decide, by decide, rise_nil, by decide⟩
  | 2, h => cases h; exact ⟨by decide, by decide, fun _ p hp => by cases hp; decide, formedN 3 (by decide), by decide, by decide, rise_nil, by decide⟩
  | i + 3, h => simp [new3] at h
theorem tags_both : TagsOk old2 new3 := fun s hs k n _ hn => by
  have h1 : s.tag = [112] := by
    simp [old2] at hs
    rcases hs with rfl | rfl <;> rfl
  have h2 : n.tag = [112] := by
    have := List.mem_of_getElem? hn
    simp [new3] at this
    rcases this with rfl | rfl | rfl <;> rfl
  rw [h1, h2]
theorem res_both : res old2 [] new3 [] = ⟨[(0, 0)], [1], [1], 2, 1, 0, 1, 1, 0, 0⟩ := by
  have h : Good old2 [] new3 [] := ⟨⟨good_old, nilLoops⟩, ⟨good_new, nilLoops⟩, tags_both⟩
  unfold res
  rw [if_pos h]
  rfl
theorem err_both : err old2 [] new3 [] = 0 := if_pos ⟨⟨good_old, nilLoops⟩, ⟨good_new, nilLoops⟩, tags_both⟩
theorem err_one : err [spotN 0 0] [] [] [] = 1800 := if_neg fun h => by
  have := (h.1.1 0 _ rfl).high
  exact absurd this (by decide)
theorem given_both : Given (.sl 30 [spotC (oriN 0) (-1) [112] [] .nils, spotC (oriN 1) 0 [112] [] .nils] 0 2 .exact) .nils (.sl 30 [spotC (oriN 0) (-1) [112] [] .nils, spotC (oriN 2) 0 [112] [] .nils, spotC (oriN 3) 1 [112] [] .nils] 0 3 .exact) .nils old2 [] new3 [] where
  ga := ⟨_, Sl.mk (c := [spotC (oriN 0) (-1) [112] [] .nils, spotC (oriN 1) 0 [112] [] .nils]), (Each.nil.snoc (spotN_r 0 (-1))).snoc (spotN_r 1 0)⟩
  gb := ⟨[], .nil, .nil⟩
  gc := ⟨_, Sl.mk (c := [spotC (oriN 0) (-1) [112] [] .nils, spotC (oriN 2) 0 [112] [] .nils, spotC (oriN 3) 1 [112] [] .nils]), ((Each.nil.snoc (spotN_r 0 (-1))).snoc (spotN_r 2 0)).snoc (spotN_r 3 1)⟩
  gd := ⟨[], .nil, .nil⟩
  lo := by decide
  lol := by decide
  ln := by decide
  lnl := by decide
  lao := by decide
  lan := by decide
  lko := by simp
  lkn := by simp
  ca := fun _ => rfl
  cb := fun _ => rfl
  cc := fun _ => rfl
  cd := fun _ => rfl
theorem given_one : Given (.sl 30 [spotC (oriN 0) 0 [112] [] .nils] 0 1 .exact) .nils .nils .nils [spotN 0 0] [] [] [] where
  ga := ⟨_, Sl.mk (c := [spotC (oriN 0) 0 [112] [] .nils]), Each.nil.snoc (spotN_r 0 0)⟩
  gb := ⟨[], .nil, .nil⟩
  gc := ⟨[], .nil, .nil⟩
  gd := ⟨[], .nil, .nil⟩
  lo := by decide
  lol := by decide
  ln := by decide
  lnl := by decide
  lao := by decide
  lan := by simp
  lko := by simp
  lkn := by simp
  ca := fun _ => rfl
  cb := fun _ => rfl
  cc := fun _ => rfl
  cd := fun _ => rfl
theorem patAwake_run (hcl : Cl st) : cw 31 [] st = some (.ret (.bool true), st) := by
  obtain ⟨T, k, g, n, ok, og, on, e1, u1, cl1, m1, m2, m3, _⟩ := least_box hcl given_both
  rw [err_both] at e1
  rw [res_both] at e1 cl1 m1 m2 m3
  obtain ⟨T2, k', g', n', ok', og', on', e2, u2, cl2, _⟩ := least_box cl1 given_one
  rw [err_one] at e2
  have hC : ∀ i p : Int, cellsV 30 (.agg (spotC (oriN i) p [112] [] .nils)) = some (spotC (oriN i) p [112] [] .nils) := fun _ _ => rfl
  have hzz : [AV.nils, AV.nils, AV.nils, AV.int IntKind.i64 0, AV.int IntKind.i64 0, AV.int IntKind.i64 0, AV.int IntKind.i64 0, AV.int IntKind.i64 0, AV.int IntKind.i64 0, AV.int IntKind.i64 0] = zero10 := rfl
  have c10 : ∀ (k g n : AV) (p : Plan), cellsV 10 (.agg (planV k g n p)) = some (planV k g n p) := fun _ _ _ _ => cells_agg rfl
  have w10 : ∀ (X : St) (k g n : AV) (p : Plan), writeA (AObj.free 0 :: AObj.free 0 :: AObj.free 0 :: AObj.box 46 zero10 :: X) (.bp X.length 0) (planV k g n p) = some (AObj.free 0 :: AObj.free 0 :: AObj.free 0 :: AObj.box 46 (planV k g n p) :: X) := fun _ _ _ _ _ => wr10 rfl
  refine F31 _ ?_
  simp only [spotN_run hcl, callB_ret, hC, Option.bind_some, spotN_strip, hzz]
  rw [e1]
  simp only [callB_ret, extractA_tup, List.getElem?_cons_zero, List.getElem?_cons_succ, Option.bind_some, intV_int, c10, w10, spotN_run cl1, hC, spotN_strip]
  rw [e2]
  simp only [callB_ret, extractA_tup, List.getElem?_cons_zero, List.getElem?_cons_succ, Option.bind_some, intV_int, c10, w10, num_run]
  generalize hS : (AObj.free 0 :: AObj.free 0 :: AObj.free 0 :: AObj.box 46 (planV k' g' n' (res [spotN 0 0] [] [] [])) :: T2) = S at *
  have hu2 : Up (AObj.free 0 :: AObj.free 0 :: AObj.free 0 :: AObj.box 46 (planV k g n ⟨[(0, 0)], [1], [1], 2, 1, 0, 1, 1, 0, 0⟩) :: T) S := by
    rw [← hS]
    exact (((u2.push _).push _).push _).push _
  have hg : St.get S T.length = some (.box 46 (planV k g n ⟨[(0, 0)], [1], [1], 2, 1, 0, 1, 1, 0, 0⟩)) := hu2.get (get_at4 rfl)
  have hu : Up st S := ((((u1.push _).push _).push _).push _).trans hu2
  have lk : lenSl k = some (.int .i64 1) := (m1.up hu2).rd.len
  have one : Rd S 1 (AV.sl 1 [[AV.int IntKind.i64 1]] 0 1 Tok.exact) (ints [1]) := (Sl.mk (c := ints [1])).rd
  have s1 := sameInts_run (m2.up hu2).rd one (by decide)
  have s2 := sameInts_run (m3.up hu2).rd one (by decide)
  rw [if_pos (by decide)]
  simp only [box_read hg, planV, pc0, pc1, pc2, pcN, Option.bind_some, lk, intV_int]
  rw [if_pos (by decide), s1]
  simp only [callB_ret, boolV_bool, Option.bind_some, decide_true, if_true, box_read hg, planV, pc2, s2, pcN, eq44, num_run, intV_int]
  exact outL_up hcl hu rfl rfl

/-! ### The law -/
theorem lentS_closed {v : AV} {out : List (List AV)} {ss : List Spot} (h : Lent 30 v out [moreS, moreS]) (hO : Each SpotL ss out) (m : Nat) : AV.closed m v = true := by
  refine h.closed (closedss_get fun j r hj => ?_)
  have hol : out.length = ss.length := hO.1.symm
  rcases List.mem_append.1 (List.mem_of_getElem? hj) with hm | hm
  · obtain ⟨k, hk⟩ := List.getElem?_of_mem hm
    have hkl := (List.getElem?_eq_some_iff.1 hk).1
    exact (hO.2 k _ r (List.getElem?_eq_getElem (by omega)) hk).r.closed m
  · simp at hm; subst hm; exact moreS_r.closed m
theorem lentL_closed {v : AV} {out : List (List AV)} {ss : List Lp} (h : Lent 27 v out [moreL, moreL]) (hO : Each LoopL ss out) (m : Nat) : AV.closed m v = true := by
  refine h.closed (closedss_get fun j r hj => ?_)
  have hol : out.length = ss.length := hO.1.symm
  rcases List.mem_append.1 (List.mem_of_getElem? hj) with hm | hm
  · obtain ⟨k, hk⟩ := List.getElem?_of_mem hm
    have hkl := (List.getElem?_eq_some_iff.1 hk).1
    exact (hO.2 k _ r (List.getElem?_eq_getElem (by omega)) hk).r.closed m
  · simp at hm; subst hm; exact moreL_r.closed m
theorem patchPlans_run (hcl : Cl st) {a b c d : AV} {olds news : List Spot} {oldL newL : List Lp} (h : Given a b c d olds oldL news newL) : cw 8 [a, b, c, d] st = some (.ret (.bool true), st) := by
  obtain ⟨rA, hA, hEA⟩ := h.ga
  obtain ⟨rB, hB, hEB⟩ := h.gb
  obtain ⟨rC, hC, hEC⟩ := h.gc
  obtain ⟨rD, hD, hED⟩ := h.gd
  obtain ⟨va, oa, a1, a2, a3⟩ := lendSpots_run st hcl hA hEA h.lo h.lao
  obtain ⟨vb, ob, b1, b2, b3⟩ := lendLoops_run st hcl hB hEB h.lol h.lko
  obtain ⟨vc, oc, c1, c2, c3⟩ := lendSpots_run st hcl hC hEC h.ln h.lan
  obtain ⟨vd, od, d1, d2, d3⟩ := lendLoops_run st hcl hD hED h.lnl h.lkn
  have G : Given va vb vc vd olds oldL news newL :=
    ⟨⟨oa, a2.sl, a3.imp fun _ _ h => h.r⟩, ⟨ob, b2.sl, b3.imp fun _ _ h => h.r⟩, ⟨oc, c2.sl, c3.imp fun _ _ h => h.r⟩, ⟨od, d2.sl, d3.imp fun _ _ h => h.r⟩, h.lo, h.lol, h.ln, h.lnl, h.lao, h.lan, h.lko, h.lkn,
      fun m => lentS_closed a2 a3 m, fun m => lentL_closed b2 b3 m, fun m => lentS_closed c2 c3 m, fun m => lentL_closed d2 d3 m⟩
  obtain ⟨T, k, g, n, ok, og, on, e1, u1, cl1, m1, m2, m3, ⟨x1, x2, x3⟩, ⟨y1, y2, y3⟩, ⟨z1, z2, z3⟩⟩ := least_box hcl G
  obtain ⟨T2, k', g', n', ok', og', on', e2, u2, cl2, m1', m2', m3', ⟨x1', x2', x3'⟩, ⟨y1', y2', y3'⟩, _⟩ := least_box cl1 G
  obtain ⟨ku, gu, nu, e3, f1, f2, f3⟩ := rleast_res cl2 h
  have hzz : [AV.nils, AV.nils, AV.nils, AV.int IntKind.i64 0, AV.int IntKind.i64 0, AV.int IntKind.i64 0, AV.int IntKind.i64 0, AV.int IntKind.i64 0, AV.int IntKind.i64 0, AV.int IntKind.i64 0] = zero10 := rfl
  have c10 : ∀ (k g n : AV) (p : Plan), cellsV 10 (.agg (planV k g n p)) = some (planV k g n p) := fun _ _ _ _ => cells_agg rfl
  have w10 : ∀ (X : St) (k g n : AV) (p : Plan), writeA (AObj.free 0 :: AObj.free 0 :: AObj.free 0 :: AObj.box 46 zero10 :: X) (.bp X.length 0) (planV k g n p) = some (AObj.free 0 :: AObj.free 0 :: AObj.free 0 :: AObj.box 46 (planV k g n p) :: X) := fun _ _ _ _ _ => wr10 rfl
  have rA10 : ∀ (k g n : AV) (p : Plan), readRow (planV k g n p) 0 10 true = some (.agg (planV k g n p)) := fun _ _ _ _ => rfl
  have lk := res_k (oldL := oldL) (news := news) (newL := newL) h.lo
  have lg := res_g (oldL := oldL) (news := news) (newL := newL) h.lo
  have ln' := res_n (oldL := oldL) (olds := olds) (newL := newL) h.ln
  generalize hP : res olds oldL news newL = P at *
  refine F8 _ _ _ _ _ ?_
  simp only [a1, b1, c1, d1, callB_ret, hzz]
  rw [e1]
  simp only [callB_ret, extractA_tup, List.getElem?_cons_zero, List.getElem?_cons_succ, Option.bind_some, intV_int, c10, w10]
  rw [e2]
  simp only [callB_ret, extractA_tup, List.getElem?_cons_zero, List.getElem?_cons_succ, Option.bind_some, intV_int, c10, w10]
  rw [e3]
  simp only [callB_ret, extractA_tup, List.getElem?_cons_zero, List.getElem?_cons_succ, Option.bind_some, intV_int, c10, w10, num_run]
  rw [if_neg (by simp), if_neg (by simp)]
  generalize hS1 : (AObj.free 0 :: AObj.free 0 :: AObj.free 0 :: AObj.box 46 (planV k g n P) :: T) = S1 at *
  have L1 : S1.length = T.length + 4 := by rw [← hS1]; simp
  have G1 : St.get S1 T.length = some (.box 46 (planV k g n P)) := by rw [← hS1]; exact get_at4 rfl
  have U1 : Up st S1 := by rw [← hS1]; exact (((u1.push _).push _).push _).push _
  generalize hS2 : (AObj.free 0 :: AObj.free 0 :: AObj.free 0 :: AObj.box 46 (planV k' g' n' P) :: T2) = S2 at *
  have G2 : St.get S2 T2.length = some (.box 46 (planV k' g' n' P)) := by rw [← hS2]; exact get_at4 rfl
  have U2 : Up S1 S2 := by rw [← hS2]; exact (((u2.push _).push _).push _).push _
  have L2 := u2.len
  have hU3 : Up S2 (AObj.free 0 :: AObj.free 0 :: AObj.free 0 :: AObj.box 46 (planV ku gu nu P) :: S2) := (((Up.cons _ S2).push _).push _).push _
  have cl3 : Cl (AObj.free 0 :: AObj.free 0 :: AObj.free 0 :: AObj.box 46 (planV ku gu nu P) :: S2) := (((cl2.cons (x := .box 46 (planV ku gu nu P)) (planC_closed (f1.closed (closed_pairs _ _)) (f2.closed (closed_ints _ _)) (f3.closed (closed_ints _ _)))).free).free).free
  have G3 : St.get (AObj.free 0 :: AObj.free 0 :: AObj.free 0 :: AObj.box 46 (planV ku gu nu P) :: S2) S2.length = some (.box 46 (planV ku gu nu P)) := get_at4 rfl
  generalize (AObj.free 0 :: AObj.free 0 :: AObj.free 0 :: AObj.box 46 (planV ku gu nu P) :: S2) = S3 at *
  have U13 := U2.trans hU3
  have rP : Reads S3 k g n P := ⟨fun X hX => (m1.up (U13.trans hX)).rd, fun X hX => (m2.up (U13.trans hX)).rd, fun X hX => (m3.up (U13.trans hX)).rd⟩
  have rU : ∀ X, Reads X ku gu nu P := fun X => ⟨fun _ _ => f1.sl.rd, fun _ _ => f2.sl.rd, fun _ _ => f3.sl.rd⟩
  have l1 := m1.lt
  have l2 := m2.lt
  have l3 := m3.lt
  have l4 := St.get_lt G2
  obtain ⟨w1, w2, w3, s1, s2⟩ := clear_run cl3 z1 z2 z3 (m1.up U13) (m2.up U13) (m3.up U13) lk lg ln'
  have keep : ∀ o, S1.length ≤ o → St.get (St.put (St.put (St.put S3 ok w1) og w2) on w3) o = St.get S3 o := fun o ho => by
    rw [St.get_put_other (by omega), St.get_put_other (by omega), St.get_put_other (by omega)]
  have hst := U1.len
  have UF : Up st (St.put (St.put (St.put S3 ok w1) og w2) on w3) := (((U1.trans U13).put x1 _).put x2 _).put x3 _
  have G2' : St.get (St.put (St.put (St.put S3 ok w1) og w2) on w3) T2.length = some (.box 46 (planV k' g' n' P)) := by rw [keep _ L2]; exact hU3.get G2
  have G3' : St.get (St.put (St.put (St.put S3 ok w1) og w2) on w3) S2.length = some (.box 46 (planV ku gu nu P)) := by rw [keep _ (by omega)]; exact G3
  have q1 := (m1'.up hU3).same (keep _ x1')
  have q2 := (m2'.up hU3).same (keep _ x2')
  have q3 := (m3'.up hU3).same (keep _ x3')
  simp only [box_read (U13.get G1), box_read G3, rA10, Option.bind_some, same2_run cl3 rP (rU S3) lk lg ln', callB_ret, boolV_bool, Bool.not_true, Bool.false_eq_true, if_false, s1]
  generalize (St.put (St.put (St.put S3 ok w1) og w2) on w3) = F at *
  have rQ : Reads F k' g' n' P := ⟨fun X hX => (q1.up hX).rd, fun X hX => (q2.up hX).rd, fun X hX => (q3.up hX).rd⟩
  simp only [box_read G2', box_read G3', rA10, Option.bind_some, same2_run s2 rQ (rU F) lk lg ln', callB_ret, boolV_bool, if_true, keptSpots_run s2 a2 a3 hA hEA h.lo h.lao, keptLoops_run s2 b2 b3 hB hEB h.lol h.lko, keptSpots_run s2 c2 c3 hC hEC h.ln h.lan, keptLoops_run s2 d2 d3 hD hED h.lnl h.lkn, patAwake_run s2]
  exact outL_up hcl UF rfl rfl
end
end Go.Abs
