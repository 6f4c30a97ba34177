/- The reference's Least by value: all of it. -/
import Derived.Test.YtahpohhadcflfaaZPatK
namespace Go.Abs
open Go Go.Proofs Go.Proofs.Ytahpohhadcflfaa.LisMath Go.RowKit Go.IntWalk
set_option linter.unusedVariables false
set_option linter.unusedSimpArgs false

theorem Acc.strp {kd t n : Nat} {st : St} {v : AV} {c : List (List AV)} (h : Acc kd t st v c) : AV.stripR n v = AV.stripN n v := by
  rcases h with ⟨rfl, _⟩ | ⟨ep, rfl, _⟩ | ⟨rfl, _⟩ <;> rfl
structure RInv1 (S T : St) (kv gv nv : AV) (kept : List (Nat × Nat)) (gone new : List Int) (cr pl mv rm fr at' tx : Int) : Prop where
  up : Up S T
  cl : Cl T
  box : T.get (S.length + 2) = some (.box 46 (planC kv gv nv cr pl mv rm fr at' tx))
  mu : Acc 2 (S.length + 3) T kv (pairsC kept)
theorem RInv1.set {S T : St} {kv gv nv : AV} {kept : List (Nat × Nat)} {gone new : List Int} {cr pl mv rm fr at' tx : Int} (h : RInv1 S T kv gv nv kept gone new cr pl mv rm fr at' tx) (hg : Full 1 gv (ints gone)) (hn : Full 1 nv (ints new)) (mv2 : Int) :
    RInv1 S (T.put (S.length + 2) (.box 46 (planC kv gv nv cr pl mv2 rm fr at' tx))) kv gv nv kept gone new cr pl mv2 rm fr at' tx :=
  ⟨h.up.put (by omega) _, h.cl.put (planC_closed (h.mu.clv h.mu.lt (closed_pairs _ _)) (hg.closed (closed_ints _ _)) (hn.closed (closed_ints _ _))), St.get_put_same (St.get_lt h.box), h.mu.same (St.get_put_other (by omega))⟩
theorem rleast_loop2 {st0 S : St} (hS : Up st0 S) (hst : Cl st0) {b d : AV} {oldL newL : List Lp} {rowsO rowsN : List (List AV)} (hA : Sl 27 b rowsO) (hEO : Each LoopR oldL rowsO) (hN : Sl 27 d rowsN) (hEN : Each LoopR newL rowsN)
    (hlo : oldL.length < 10000000) (hln : newL.length < 10000000) (hlao : ∀ s ∈ oldL, s.ks.length < 10000000) (hlan : ∀ s ∈ newL, s.ks.length < 10000000) (hSO : LoopsOk oldL) (hSN : LoopsOk newL)
    (hz : S.get st0.length = some (.box 46 zero10)) {kept : List (Nat × Nat)} {gone new : List Int} {cr pl rm fr at' tx : Int} {kv gv nv : AV} (hg : Full 1 gv (ints gone)) (hn : Full 1 nv (ints new)) : ∀ (r : List Lp) (i : Nat), oldL.drop i = r → i ≤ oldL.length → ∀ (mv : Int) (T : St), RInv1 S T kv gv nv kept gone new cr pl mv rm fr at' tx → 0 ≤ mv → mv ≤ i * 10000000 →
    ∃ kv', Full 2 kv' (pairsC kept) ∧ aw 26 st0.length p26_2 ⟨[(1, b), (3, d), (8, .bp st0.length 0), (13, .bp (S.length + 2) 0), (16, .int .i64 (i : Int))], []⟩ T = some (.ret (.tup [.agg (planC kv' gv nv cr pl (mv + sumI (r.map (movD newL))) rm fr at' tx), .int .i64 0]), st0) := by
  intro r
  induction r with
  | nil =>
    intro i hi hio mv T hI h0 h1
    have : i = oldL.length := by have h1 : oldL.length ≤ i := by simpa using hi
                                 omega
    subst this
    have hz' := hI.up.get hz
    have hb := St.get_lt hz
    refine ⟨AV.stripN st0.length kv, hI.mu.full (by have := hS.len; omega), F26_2 _ _ _ _ _ _ _ ?_⟩
    have w3 := box_write hz' (c := 0) (cs := planC kv gv nv cr pl mv rm fr at' tx) (setAt_all _ _ rfl)
    rw [lnR (st := []) hA.rd hEO, if_neg (by simp)]
    simp only [box_read hI.box, pcA, pcC, Option.bind_some, w3, ld46, box_read (St.get_put_same (St.get_lt hz')), List.map_nil, sumI, Int.add_zero]
    have hUU : Up st0 (T.put st0.length (.box 46 (planC kv gv nv cr pl mv rm fr at' tx))) := (hS.trans hI.up).put (Nat.le_refl _) _
    have hne : ((T.put st0.length (.box 46 (planC kv gv nv cr pl mv rm fr at' tx))).length == st0.length) = false := by
      have := (St.get_lt hz')
      simp; omega
    have hsr : AV.stripR st0.length (outV1 [.agg (planC kv gv nv cr pl mv rm fr at' tx), .int .i64 0]) = .tup [.agg (planC (AV.stripN st0.length kv) gv nv cr pl mv rm fr at' tx), .int .i64 0] := by
      simp only [outV1, AV.stripR, List.map_cons, List.map_nil, planC, hg.strip, hn.strip]
      rfl
    have hcl : AV.closed st0.length (.tup [.agg (planC (AV.stripN st0.length kv) gv nv cr pl mv rm fr at' tx), .int .i64 0]) = true := by
      simp only [AV.closed, AV.closeds, Bool.and_true]
      exact planC_closed ((hI.mu.full (by have := hS.len; omega)).closed (closed_pairs _ _)) (hg.closed (closed_ints _ _)) (hn.closed (closed_ints _ _))
    unfold outL
    simp only [hne, Bool.or_self, Bool.false_eq_true, if_false, hsr, hcl, hUU.low, show St.closed st0.length st0 = true from hst, Bool.and_self, if_true]
  | cons s r ih =>
    intro i hi hio mv T hI h0 h1
    have hil : i < oldL.length := by have := congrArg List.length hi; simp at this; omega
    have hr : oldL.drop (i + 1) = r := by have := congrArg List.tail hi; simpa using this
    have gs : oldL[i]? = some s := by
      have : (oldL.drop i)[0]? = some s := by rw [hi]; rfl
      rw [List.getElem?_drop] at this; simpa using this
    obtain ⟨row, ⟨ho, x, rfl, hX, hxc⟩, hrd⟩ := ixR hA hEO gs
    have ei := e1i (show i < 1000000000000 by omega)
    have hf := lfind_run hI.cl hN hEN hln ho
    have key : ∀ R, _ := fun R => F26_2 b d (.bp st0.length 0) (.bp (S.length + 2) 0) (i : Int) st0.length T (r := R)
    rw [lnR (st := []) hA.rd hEO, if_pos (by simp; omega)] at key
    simp only [hrd, ptrAdd_ip, readA_ip, Option.bind_some, Nat.zero_add, lp_ori ho, lp_keys ho, hf, callB_ret, intV_int, decide_eq_true_eq, ei, ptrAdd_bp, Nat.reduceAdd] at key
    cases hp : place s.ori (loris newL) with
    | none =>
      simp only [hp, plI] at key
      rw [if_neg (by decide)] at key
      have hd : movD newL s = 0 := by simp [movD, hp]
      obtain ⟨kv', q1, q2⟩ := ih (i + 1) hr hil mv T hI h0 (by omega)
      refine ⟨kv', q1, key _ ?_⟩
      simp only [List.map_cons, sumI, hd, Int.zero_add]; exact q2
    | some k =>
      obtain ⟨n, gn, hno⟩ := place_lp hp
      obtain ⟨rown, ⟨hon, y, rfl, hY, hyc⟩, hrdn⟩ := ixR hN hEN gn
      have la := hlao s (List.mem_of_getElem? gs)
      have lb := hlan n (List.mem_of_getElem? gn)
      have hmv := rmoves_run T hI.cl hX hY (by omega) (by omega)
      have hmd : (moved s.ks n.ks).2.1 = movD newL s := by
        unfold moved
        rw [if_pos ⟨(hSO i s gs).once, (hSN k n gn).once⟩]
        simp [movD, hp, gn]
      have hbd := movD_bound hlan s
      have ew : IntKind.i64.wrap (mv + movD newL s) = mv + movD newL s := i64_in _ (by omega)
      have hI2 := hI.set hg hn (mv + movD newL s)
      have w1 := box_write hI.box (c := 5) (cs := [.int .i64 (mv + movD newL s)]) (row' := planC kv gv nv cr pl (mv + movD newL s) rm fr at' tx) rfl
      simp only [hp, plI, Nat.zero_add] at key
      rw [if_pos (by omega)] at key
      simp only [hrdn, ptrAdd_ip, readA_ip, Option.bind_some, Nat.zero_add, lp_keys hon, hmv, res3, callB_ret, extractA_tup, List.getElem?_cons_zero, List.getElem?_cons_succ, intV_int, box_read hI.box, pc5, hmd, ew, w1] at key
      obtain ⟨kv', q1, q2⟩ := ih (i + 1) hr hil _ _ hI2 (by omega) (by omega)
      refine ⟨kv', q1, key _ ?_⟩
      simp only [List.map_cons, sumI, ← Int.add_assoc]; exact q2
theorem make_ok (X : St) {n : Nat} (hn : n < 10000000) : makeSl X none 8 1 [AV.int IntKind.i64 0] (.int .i64 (n : Int)) (.int .i64 (n : Int)) = some (.ms X.length 0 0 n n, .rows 1 0 (ints (List.replicate n 0)) :: X) := by
  unfold makeSl
  simp only
  rw [if_pos ⟨by omega, Int.le_refl _, by simp [roomA]; omega, by simp [roomA]; omega⟩]
  simp [ints, int1]
theorem rleast_loop0 {S : St} {a b c d to : AV} {news : List Spot} {base : Nat} {x : AObj} {rowsN : List (List AV)} (hN : Sl 30 c rowsN) (hEN : Each SpotR news rowsN) (hln : news.length < 10000000) (R : AOut × St)
    (hR : aw 26 base p26_1 ⟨[(0, a), (1, b), (2, c), (3, d), (8, .bp base 0), (10, to), (11, .ms (S.length + 1) 0 0 news.length news.length), (13, .bp (S.length + 2) 0), (14, .int .i64 (0 : Nat))], []⟩ (.free 0 :: .free 0 :: .free 0 :: .box 46 zero10 :: .rows 1 0 (ints (List.replicate news.length (-1))) :: x :: S) = some R) : ∀ (d' i : Nat), i + d' = news.length →
    aw 26 base p26_0 ⟨[(0, a), (1, b), (2, c), (3, d), (8, .bp base 0), (10, to), (11, .ms (S.length + 1) 0 0 news.length news.length), (12, .int .i64 (i : Int))], []⟩ (.rows 1 0 (ints (List.replicate i (-1) ++ List.replicate d' 0)) :: x :: S) = some R := by
  intro d'
  induction d' with
  | zero =>
    intro i hi
    have : i = news.length := by omega
    subst this
    refine F26_0 _ _ _ _ _ _ _ _ _ _ ?_
    have hc10 : cellsV 10 (AV.agg [AV.nils, AV.nils, AV.nils, AV.int IntKind.i64 0, AV.int IntKind.i64 0, AV.int IntKind.i64 0, AV.int IntKind.i64 0, AV.int IntKind.i64 0, AV.int IntKind.i64 0, AV.int IntKind.i64 0]) = some zero10 := rfl
    have hzz : [AV.nils, AV.nils, AV.nils, AV.int IntKind.i64 0, AV.int IntKind.i64 0, AV.int IntKind.i64 0, AV.int IntKind.i64 0, AV.int IntKind.i64 0, AV.int IntKind.i64 0, AV.int IntKind.i64 0] = zero10 := rfl
    rw [lnR (st := []) hN.rd hEN, if_neg (by simp)]
    simp only [hc10, Option.bind_some]
    simp only [hzz, List.replicate_zero, List.append_nil]
    rw [box_write (get_at4 rfl) (setAt_all _ _ rfl), St.put_same (get_at4 rfl), Option.bind_some]
    exact hR
  | succ d' ih =>
    intro i hi
    have hg : St.get (.rows 1 0 (ints (List.replicate i (-1) ++ List.replicate (d' + 1) 0)) :: x :: S) (S.length + 1) = some (.rows 1 0 (ints (List.replicate i (-1) ++ List.replicate (d' + 1) 0))) := get_at1 (by simp)
    have hj : (List.replicate i (-1 : Int) ++ List.replicate (d' + 1) 0)[i]? = some 0 := by
      rw [List.getElem?_append_right (by simp)]; simp
    refine F26_0 _ _ _ _ _ _ _ _ _ _ ?_
    rw [lnR (st := []) hN.rd hEN, if_pos (by simp; omega), wr0 hg (by simp; omega) hj]
    have hset : (List.replicate i (-1 : Int) ++ List.replicate (d' + 1) 0).set i (-1) = List.replicate (i + 1) (-1) ++ List.replicate d' 0 := by
      rw [List.set_append_right _ _ (by simp)]
      simp only [List.length_replicate, Nat.sub_self]
      rw [List.replicate_succ, List.set_cons_zero, List.replicate_succ', List.append_assoc]
      rfl
    rw [hset, show S.length + 1 = (x :: S).length by simp, St.put_top, e1i (show i < 1000000000000 by omega)]
    exact ih (i + 1) (by omega)
theorem plI_neg {l : List Ori} {o : Ori} : plI 0 (place o l) < 0 ↔ isIn l o = false := by
  unfold isIn
  cases place o l with
  | none => simp [plI]
  | some j => simp [plI]
theorem rleast_run {st : St} (hcl : Cl st) {a b c d : AV} {olds news : List Spot} {oldL newL : List Lp} (h : Given a b c d olds oldL news newL) :
    (Good olds oldL news newL ∧ ∃ kv gv nv, cw 26 [a, b, c, d] st = some (.ret (.tup [.agg (planV kv gv nv (plan olds oldL news newL)), .int .i64 0]), st) ∧ Full 2 kv (pairsC (plan olds oldL news newL).kept) ∧ Full 1 gv (ints (plan olds oldL news newL).gone) ∧
        Full 1 nv (ints (plan olds oldL news newL).new)) ∨
      (¬ Good olds oldL news newL ∧ cw 26 [a, b, c, d] st = some (.ret (.tup [.agg zero10, .int .i64 1800]), st)) := by
  obtain ⟨rA, hA, hEA⟩ := h.ga
  obtain ⟨rB, hB, hEB⟩ := h.gb
  obtain ⟨rC, hC, hEC⟩ := h.gc
  obtain ⟨rD, hD, hED⟩ := h.gd
  have hokd := each_okl hED
  have hU0 : Up st (AObj.free 0 :: AObj.free 0 :: AObj.free 0 :: AObj.box 46 zero10 :: st) := (((Up.cons _ st).push _).push _).push _
  have hC0 : Cl (AObj.free 0 :: AObj.free 0 :: AObj.free 0 :: AObj.box 46 zero10 :: st) := (((hcl.cons (x := .box 46 zero10) rfl).free).free).free
  have hz0 : St.get (AObj.free 0 :: AObj.free 0 :: AObj.free 0 :: AObj.box 46 zero10 :: st) st.length = some (.box 46 zero10) := get_at4 rfl
  obtain ⟨t1, s1, m1⟩ := rspots_run hC0 hA hEA h.lo h.lao h.ca
  obtain ⟨t2, s2, m2⟩ := rspots_run hC0 hC hEC h.ln h.lan h.cc
  obtain ⟨t3, s3, m3⟩ := rloops_run hC0 hB hEB h.lol h.lko
  obtain ⟨t4, s4, m4⟩ := rloops_run hC0 hD hED h.lnl h.lkn
  have hc10 : cellsV 10 (AV.agg [AV.nils, AV.nils, AV.nils, AV.int IntKind.i64 0, AV.int IntKind.i64 0, AV.int IntKind.i64 0, AV.int IntKind.i64 0, AV.int IntKind.i64 0, AV.int IntKind.i64 0, AV.int IntKind.i64 0]) = some zero10 := rfl
  have hzz : [AV.nils, AV.nils, AV.nils, AV.int IntKind.i64 0, AV.int IntKind.i64 0, AV.int IntKind.i64 0, AV.int IntKind.i64 0, AV.int IntKind.i64 0, AV.int IntKind.i64 0, AV.int IntKind.i64 0] = zero10 := rfl
  have hw : writeA (AObj.free 0 :: AObj.free 0 :: AObj.free 0 :: AObj.box 46 zero10 :: st) (.bp st.length 0) zero10 = some (AObj.free 0 :: AObj.free 0 :: AObj.free 0 :: AObj.box 46 zero10 :: st) := by rw [box_write hz0 (setAt_all _ _ rfl), St.put_same hz0]
  have hrz : readRow zero10 0 10 true = some (.agg zero10) := rfl
  have hout : outL false st.length (AOut.ret (outV1 [.agg zero10, .int .i64 1800])) (AObj.free 0 :: AObj.free 0 :: AObj.free 0 :: AObj.box 46 zero10 :: st) = some (.ret (.tup [.agg zero10, .int .i64 1800]), st) := by
    have := outL_plain (n := st.length) (v := .tup [.agg zero10, .int .i64 1800]) (st := AObj.free 0 :: AObj.free 0 :: AObj.free 0 :: AObj.box 46 zero10 :: st) rfl rfl (by rw [hU0.low]; exact hcl) hU0.len
    rw [hU0.low] at this
    exact this
  have key : ∀ R, _ := fun R => F26 a b c d st (r := R)
  simp only [hc10, Option.bind_some] at key
  simp only [hzz, m1, m2, m3, m4, callB_ret, boolV_bool, hw, ld46, box_read hz0, hrz, hout, Option.bind_some] at key
  cases t1 with
  | false => exact .inr ⟨fun hg => (by have := s1.2 hg.1.1; cases this), key _ rfl⟩
  | true =>
  cases t2 with
  | false => exact .inr ⟨fun hg => (by have := s2.2 hg.2.1.1; cases this), key _ rfl⟩
  | true =>
  cases t3 with
  | false => exact .inr ⟨fun hg => (by have := s3.2 hg.1.2; cases this), key _ rfl⟩
  | true =>
  cases t4 with
  | false => exact .inr ⟨fun hg => (by have := s4.2 hg.2.1.2; cases this), key _ rfl⟩
  | true =>
  have g1 := s1.1 rfl
  have g2 := s3.1 rfl
  have g3 := s2.1 rfl
  have g4 := s4.1 rfl
  simp only [Bool.not_true, Bool.false_eq_true, if_false] at key
  rw [lnR (st := []) hA.rd hEA, make_ok _ h.lo] at key
  simp only [bind2_some] at key
  rw [lnR (st := []) hC.rd hEC, make_ok _ h.ln] at key
  simp only [bind2_some] at key
  generalize hS : (AObj.free 0 :: AObj.free 0 :: AObj.free 0 :: AObj.box 46 zero10 :: st) = S at *
  have hC1 : Cl (.rows 1 0 (ints (List.replicate olds.length 0)) :: S) := hC0.cons (closed_ints _ _)
  have hC2 : Cl (.rows 1 0 (ints (List.replicate news.length (-1))) :: .rows 1 0 (ints (List.replicate olds.length 0)) :: S) := hC1.cons (closed_ints _ _)
  have hI0 : RInv S (.free 0 :: .free 0 :: .free 0 :: .box 46 zero10 :: .rows 1 0 (ints (List.replicate news.length (-1))) :: .rows 1 0 (ints (List.replicate olds.length 0)) :: S) .nils [] (List.replicate olds.length 0) (List.replicate news.length (-1)) 0 0 0 := by
    refine ⟨(((((Up.cons _ S).push _).push _).push _).push _).push _, (((hC2.cons (x := .box 46 zero10) rfl).free).free).free, ?_, ?_, get_at4 rfl, .inl ⟨rfl, rfl, 0, get_at3 rfl⟩⟩
    · rw [St.get_under (by simp only [List.length_cons]; omega), St.get_under (by simp only [List.length_cons]; omega)]; exact get_at4 rfl
    · rw [St.get_under (by simp only [List.length_cons]; omega)]; exact get_at4 rfl
  have hto0 : ToOk news olds 0 (List.replicate olds.length 0) := ⟨by simp, fun j s hj => by omega⟩
  have hbk0 : BkOk news olds 0 (List.replicate news.length (-1)) := ⟨by simp, fun k n hn => ⟨-1, by
    have := (List.getElem?_eq_some_iff.1 hn).1
    rw [List.getElem?_replicate, if_pos this], by simp [oris]⟩⟩
  have key1 : ∀ R, aw 26 st.length p26_1 ⟨[(0, a), (1, b), (2, c), (3, d), (8, .bp st.length 0), (10, .ms S.length 0 0 olds.length olds.length), (11, .ms (S.length + 1) 0 0 news.length news.length), (13, .bp (S.length + 2) 0), (14, .int .i64 (0 : Nat))], []⟩ (.free 0 :: .free 0 :: .free 0 :: .box 46 zero10 :: .rows 1 0 (ints (List.replicate news.length (-1))) :: .rows 1 0 (ints (List.replicate olds.length 0)) :: S) = some R → cw 26 [a, b, c, d] st = some R := fun R hR => by
    refine key R ?_
    have := rleast_loop0 hC hEC h.ln R hR news.length 0 (by omega)
    exact this
  rcases rleast_loop1 (b := b) (d := d) hU0 hcl hA hEA hC hEC h.lo h.ln h.lao h.lan g1 g3 hz0 olds 0 (by simp) (by omega) .nils [] _ _ 0 0 0 _ hI0 hto0 hbk0 (by simp) (by omega) (by omega) (by omega) (by omega) (by omega) with ⟨n1, e1⟩ | ⟨n1, kv, T', tol, bkl, hI, hto, hbk, hk⟩
  · exact .inr ⟨fun hg => n1 hg.2.2, key1 _ e1⟩
  · simp only [List.nil_append, Nat.zero_add, Int.zero_add] at hI
    have mto : ∀ T2, Up T' T2 → Rd T2 1 (.ms S.length 0 0 olds.length olds.length) (ints tol) := fun T2 hu => Mu.rd (o := S.length) ⟨0, by rw [ints_len, hto.1], hu.get hI.to⟩
    obtain ⟨gv, q1, q2⟩ := rtops_run (keep := isIn (oris news)) hI.cl hA hEA h.lo g1.below mto (fun i s gs => ⟨_, hto.2 i s (List.getElem?_eq_some_iff.1 gs).1 gs, plI_neg⟩)
    have hC5 : Cl (T'.put (S.length + 2) (.box 46 (planC kv gv .nils 0 0 0 0 (lostF (isIn (oris news)) olds : Nat) (sumI (olds.map (pairD atrD news))) (sumI (olds.map (pairD txtD news)))))) := hI.cl.put (planC_closed (hI.mu.clv hI.mu.lt (closed_pairs _ _)) (q2.closed (closed_ints _ _)) rfl)
    have w1 := box_write hI.box (c := 1) (cs := [gv]) (row' := planC kv gv .nils 0 0 0 0 (lostF (isIn (oris news)) olds : Nat) (sumI (olds.map (pairD atrD news))) (sumI (olds.map (pairD txtD news)))) rfl
    have P5 := St.get_lt hI.box
    have hbk5 : St.get (T'.put (S.length + 2) (.box 46 (planC kv gv .nils 0 0 0 0 (lostF (isIn (oris news)) olds : Nat) (sumI (olds.map (pairD atrD news))) (sumI (olds.map (pairD txtD news)))))) (S.length + 1) = some (.rows 1 0 (ints bkl)) := by rw [St.get_put_other (by omega)]; exact hI.bk
    have mbk : ∀ T2, Up (T'.put (S.length + 2) (.box 46 (planC kv gv .nils 0 0 0 0 (lostF (isIn (oris news)) olds : Nat) (sumI (olds.map (pairD atrD news))) (sumI (olds.map (pairD txtD news)))))) T2 → Rd T2 1 (.ms (S.length + 1) 0 0 news.length news.length) (ints bkl) := fun T2 hu => Mu.rd (o := S.length + 1) ⟨0, by rw [ints_len, hbk.1], hu.get hbk5⟩
    obtain ⟨nv, q3, q4⟩ := rtops_run (keep := isIn (oris olds)) hC5 hC hEC h.ln g3.below mbk (fun k n gn => by
      obtain ⟨c, c1, c2⟩ := hbk.2 k n gn
      refine ⟨c, c1, c2.trans ?_⟩
      rw [isIn_iff, List.take_length]
      simp)
    have hce := created_eq (olds := olds) (news := news) (by have := oris_nodup g1 olds.length; rwa [List.take_length] at this) (by have := oris_nodup g3 news.length; rwa [List.take_length] at this)
    have hkl : (keptF news olds 0).length ≤ olds.length := by
      rw [kept_len]
      exact Nat.le_trans (List.length_filter_le _ _) (by simp [oris])
    have ecr : IntKind.i64.wrap ((news.length : Int) - ((keptF news olds 0).length : Nat)) = ((lostF (isIn (oris olds)) news : Nat) : Int) := by
      have h1 := h.lo
      have h2 := h.ln
      rw [i64_in _ (by omega), hce]
    have lk : lenSl kv = some (.int .i64 ((keptF news olds 0).length : Nat)) := by rw [hI.mu.sl.len, pairsC_len]
    have lg : lenSl gv = some (.int .i64 ((topsF olds (isIn (oris news)) olds 0).length : Nat)) := by rw [q2.sl.len, ints_len]
    have ln' : lenSl nv = some (.int .i64 ((topsF news (isIn (oris olds)) news 0).length : Nat)) := by rw [q4.sl.len, ints_len]
    generalize hA0 : sumI (olds.map (pairD atrD news)) = A0 at *
    generalize hX0 : sumI (olds.map (pairD txtD news)) = X0 at *
    generalize hGo : topsF olds (isIn (oris news)) olds 0 = gone at *
    generalize hNe : topsF news (isIn (oris olds)) news 0 = new at *
    generalize hFr : lostF (isIn (oris news)) olds = fr at *
    generalize hCr : lostF (isIn (oris olds)) news = cr at *
    generalize hKe : keptF news olds 0 = kept at *
    have w2 : writeA (T'.put (S.length + 2) (.box 46 (planC kv gv .nils 0 0 0 0 fr A0 X0))) (.bp (S.length + 2) 2) [nv] = some (T'.put (S.length + 2) (.box 46 (planC kv gv nv 0 0 0 0 fr A0 X0))) := by
      rw [box_write (St.get_put_same P5) (row' := planC kv gv nv 0 0 0 0 fr A0 X0) rfl, St.put_put]
    have w3 : writeA (T'.put (S.length + 2) (.box 46 (planC kv gv nv 0 0 0 0 fr A0 X0))) (.bp (S.length + 2) 3) [.int .i64 (cr : Int)] = some (T'.put (S.length + 2) (.box 46 (planC kv gv nv cr 0 0 0 fr A0 X0))) := by
      rw [box_write (St.get_put_same P5) (row' := planC kv gv nv cr 0 0 0 fr A0 X0) rfl, St.put_put]
    have w4 : writeA (T'.put (S.length + 2) (.box 46 (planC kv gv nv cr 0 0 0 fr A0 X0))) (.bp (S.length + 2) 4) [.int .i64 (new.length : Int)] = some (T'.put (S.length + 2) (.box 46 (planC kv gv nv cr new.length 0 0 fr A0 X0))) := by
      rw [box_write (St.get_put_same P5) (row' := planC kv gv nv cr new.length 0 0 fr A0 X0) rfl, St.put_put]
    have w5 : writeA (T'.put (S.length + 2) (.box 46 (planC kv gv nv cr new.length 0 0 fr A0 X0))) (.bp (S.length + 2) 6) [.int .i64 (gone.length : Int)] = some (T'.put (S.length + 2) (.box 46 (planC kv gv nv cr new.length 0 gone.length fr A0 X0))) := by
      rw [box_write (St.get_put_same P5) (row' := planC kv gv nv cr new.length 0 gone.length fr A0 X0) rfl, St.put_put]
    have hI5 : RInv1 S (T'.put (S.length + 2) (.box 46 (planC kv gv nv cr new.length 0 gone.length fr A0 X0))) kv gv nv kept gone new cr new.length 0 gone.length fr A0 X0 :=
      ⟨hI.up.put (by omega) _, hI.cl.put (planC_closed (hI.mu.clv hI.mu.lt (closed_pairs _ _)) (q2.closed (closed_ints _ _)) (q4.closed (closed_ints _ _))), St.get_put_same P5, hI.mu.same (St.get_put_other (by omega))⟩
    obtain ⟨ku, z1, z2⟩ := rleast_loop2 hU0 hcl hB hEB hD hED h.lol h.lnl h.lko h.lkn g2 g4 hz0 q2 q4 oldL 0 (by simp) (by omega) 0 _ hI5 (by omega) (by omega)
    have key2 : ∀ R, _ := fun R => F26_1 a b c d (.bp st.length 0) (.ms S.length 0 0 olds.length olds.length) (.ms (S.length + 1) 0 0 news.length news.length) (.bp (S.length + 2) 0) (olds.length : Int) st.length T' (r := R)
    rw [lnR (st := []) hA.rd hEA, if_neg (by simp)] at key2
    simp only [q1, callB_ret, ptrAdd_bp, Nat.zero_add, Nat.reduceAdd, Option.bind_some, q2.sl.cell1, w1, q3, q4.sl.cell1, w2] at key2
    rw [lnR (st := []) hC.rd hEC] at key2
    simp only [box_read (St.get_put_same P5), pc0, pc1, pc2, lk, lg, ln', intV_int, Option.bind_some, ecr, w3, w4, w5] at key2
    have hplan : planV ku gv nv (plan olds oldL news newL) = planC ku gv nv cr new.length (0 + sumI (oldL.map (movD newL))) gone.length fr A0 X0 := by
      simp only [planV, plan, hGo, hNe, hFr, hCr, hA0, hX0, Int.zero_add]
    have k1 : (plan olds oldL news newL).kept = kept := hKe
    have k2 : (plan olds oldL news newL).gone = gone := hGo
    have k3 : (plan olds oldL news newL).new = new := hNe
    refine .inl ⟨⟨⟨g1, g2⟩, ⟨g3, g4⟩, n1⟩, ku, gv, nv, ?_, by rw [k1]; exact z1, by rw [k2]; exact q2, by rw [k3]; exact q4⟩
    rw [hplan]
    exact key1 _ (hk _ (key2 _ z2))
end Go.Abs
