/- Least by value: all of it. -/
import Derived.Test.YtahpohhadcflfaaZPatG
namespace Go.Abs
open Go Go.Proofs Go.Proofs.Ytahpohhadcflfaa.LisMath Go.RowKit Go.IntWalk
set_option linter.unusedVariables false
set_option linter.unusedSimpArgs false

theorem place_lp {o : Ori} {ss : List Lp} {k : Nat} (h : place o (loris ss) = some k) : ∃ n, ss[k]? = some n ∧ n.ori = o := by
  have := place_some h
  rw [loris, List.getElem?_map] at this
  obtain ⟨n, h1, h2⟩ := Option.map_eq_some_iff.1 this
  exact ⟨n, h1, h2⟩
structure PInv1 (S T : St) (kv gv nv : AV) (og on : Nat) (kept : List (Nat × Nat)) (gone new : List Int) (cr pl mv rm fr at' tx : Int) : Prop where
  up : Up S T
  cl : Cl T
  box : T.get S.length = some (.box 46 (planC kv gv nv cr pl mv rm fr at' tx))
  muk : MuN T 2 kv (S.length + 1) (pairsC kept)
  mug : MuN T 1 gv og (ints gone)
  mun : MuN T 1 nv on (ints new)
  hog : S.length + 3 < og
  hon : og < on
theorem PInv1.set {S T : St} {kv gv nv : AV} {og on : Nat} {kept : List (Nat × Nat)} {gone new : List Int} {cr pl mv rm fr at' tx : Int} (h : PInv1 S T kv gv nv og on kept gone new cr pl mv rm fr at' tx) (cr2 pl2 mv2 rm2 fr2 at2 tx2 : Int) :
    PInv1 S (T.put S.length (.box 46 (planC kv gv nv cr2 pl2 mv2 rm2 fr2 at2 tx2))) kv gv nv og on kept gone new cr2 pl2 mv2 rm2 fr2 at2 tx2 := by
  have h1 := h.hog
  have h2 := h.hon
  exact ⟨h.up.put (Nat.le_refl _) _, h.cl.put (planC_closed (h.muk.clv h.muk.lt) (h.mug.clv h.mug.lt) (h.mun.clv h.mun.lt)), St.get_put_same (St.get_lt h.box), h.muk.same (St.get_put_other (by omega)), h.mug.same (St.get_put_other (by omega)), h.mun.same (St.get_put_other (by omega)), h1, h2⟩
theorem PInv1.vals {S T : St} {kv gv nv : AV} {og on : Nat} {kept : List (Nat × Nat)} {gone new : List Int} {cr pl mv rm fr at' tx : Int} (h : PInv1 S T kv gv nv og on kept gone new cr pl mv rm fr at' tx) {gv2 nv2 : AV} (hg : MuN T 1 gv2 og (ints gone)) (hn : MuN T 1 nv2 on (ints new)) :
    PInv1 S (T.put S.length (.box 46 (planC kv gv2 nv2 cr pl mv rm fr at' tx))) kv gv2 nv2 og on kept gone new cr pl mv rm fr at' tx := by
  have h1 := h.hog
  have h2 := h.hon
  exact ⟨h.up.put (Nat.le_refl _) _, h.cl.put (planC_closed (h.muk.clv h.muk.lt) (hg.clv hg.lt) (hn.clv hn.lt)), St.get_put_same (St.get_lt h.box), h.muk.same (St.get_put_other (by omega)), hg.same (St.get_put_other (by omega)), hn.same (St.get_put_other (by omega)), h1, h2⟩
section pc
variable (k g n : AV) (c p m r f a t : Int)
theorem pc0 : readRow (planC k g n c p m r f a t) 0 1 false = some k := rfl
theorem pc1 : readRow (planC k g n c p m r f a t) 1 1 false = some g := rfl
theorem pc2 : readRow (planC k g n c p m r f a t) 2 1 false = some n := rfl
theorem pc5 : readRow (planC k g n c p m r f a t) 5 1 false = some (.int .i64 m) := rfl
theorem pcA : readRow (planC k g n c p m r f a t) 0 10 true = some (.agg (planC k g n c p m r f a t)) := rfl
theorem pcC : cellsV 10 (.agg (planC k g n c p m r f a t)) = some (planC k g n c p m r f a t) := rfl
end pc
theorem movD_bound {news : List Lp} (hl : ∀ s ∈ news, s.ks.length < 10000000) (s : Lp) : 0 ≤ movD news s ∧ movD news s ≤ 10000000 := by
  unfold movD
  split
  · split
    · rename_i n hn
      have h1 := len_common_le (olds := s.ks) (news := n.ks)
      have h2 : lis (common s.ks n.ks) ≤ (common s.ks n.ks).length := bst_le_length all _
      have h3 := hl n (List.mem_of_getElem? hn)
      omega
    · omega
  · omega
theorem least_loop1 {S : St} {base oB mB1 mB2 : Nat} {b c d : AV} {oldL newL : List Lp} {xs : List Ori} {rowsO rowsN : List (List AV)} (hA : Sl 27 b rowsO) (hEO : Each LoopR oldL rowsO) (hN : Sl 27 d rowsN) (hEN : Each LoopR newL rowsN)
    (hlo : oldL.length < 10000000) (hln : newL.length < 10000000) (hlao : ∀ s ∈ oldL, s.ks.length < 10000000) (hlan : ∀ s ∈ newL, s.ks.length < 10000000) (hSO : LoopsOk oldL) (hSN : LoopsOk newL) (hokn : OksO (loris newL))
    (hB : Ren S oB c d mB1 mB2 xs (loris newL)) (hz : S.get base = some (.box 46 zero10)) {og on : Nat} {kept : List (Nat × Nat)} {gone new : List Int} {cr pl rm fr at' tx : Int} : ∀ (r : List Lp) (i : Nat), oldL.drop i = r → i ≤ oldL.length → ∀ (kv gv nv : AV) (mv : Int) (T : St), PInv1 S T kv gv nv og on kept gone new cr pl mv rm fr at' tx → 0 ≤ mv → mv ≤ i * 10000000 →
    ∃ kv' gv' nv' T', aw 25 base p25_1 ⟨[(1, b), (3, d), (8, .bp base 0), (11, .bp oB 0), (12, .bp S.length 0), (141, .int .i64 (oldL.length : Int)), (142, .int .i64 (i : Int))], []⟩ T = some (.ret (.tup [.agg (planC kv' gv' nv' cr pl (mv + sumI (r.map (movD newL))) rm fr at' tx), .int .i64 0]), T'.put base (.box 46 (planC kv' gv' nv' cr pl (mv + sumI (r.map (movD newL))) rm fr at' tx))) ∧
      PInv1 S T' kv' gv' nv' og on kept gone new cr pl (mv + sumI (r.map (movD newL))) rm fr at' tx := by
  intro r
  induction r with
  | nil =>
    intro i hi hio kv gv nv mv T hI h0 h1
    have : i = oldL.length := by have h1 : oldL.length ≤ i := by simpa using hi
                                 omega
    subst this
    obtain ⟨gv2, c1, c2⟩ := clip_run hI.mug
    obtain ⟨nv2, c3, c4⟩ := clip_run hI.mun
    have hI2 := hI.vals c2 hI.mun
    have hI3 := hI.vals c2 c4
    refine ⟨kv, gv2, nv2, _, F25_1 _ _ _ _ _ _ _ _ _ ?_, by simpa [sumI] using hI3⟩
    have w1 : writeA T (.bp S.length 1) [gv2] = some (T.put S.length (.box 46 (planC kv gv2 nv cr pl mv rm fr at' tx))) := box_write hI.box rfl
    have w2 : writeA (T.put S.length (.box 46 (planC kv gv2 nv cr pl mv rm fr at' tx))) (.bp S.length 2) [nv2] = some (T.put S.length (.box 46 (planC kv gv2 nv2 cr pl mv rm fr at' tx))) := by
      rw [box_write hI2.box (row' := planC kv gv2 nv2 cr pl mv rm fr at' tx) rfl, St.put_put]
    have hz' := hI3.up.get hz
    have w3 : writeA (T.put S.length (.box 46 (planC kv gv2 nv2 cr pl mv rm fr at' tx))) (.bp base 0) (planC kv gv2 nv2 cr pl mv rm fr at' tx) = some _ := box_write hz' (setAt_all _ _ rfl)
    rw [if_neg (by simp)]
    simp only [ptrAdd_bp, Nat.zero_add, Option.bind_some, box_read hI.box, pc1, pc2, c1, c3, callB_ret, c2.cell1, c4.cell1, w1, w2]
    rw [if_pos (by simp [isIp, List.range.loop, ld22, box_read hI.box, pc2, AV.beq_refl])]
    simp only [box_read hI3.box, pcA, pcC, Option.bind_some, w3, ld46, box_read (St.get_put_same (St.get_lt hz')), outL_true, outV1, List.map_nil, sumI, Int.add_zero]
  | cons s r ih =>
    intro i hi hio kv gv nv mv T hI h0 h1
    have hil : i < oldL.length := by have := congrArg List.length hi; simp at this; omega
    have hr : oldL.drop (i + 1) = r := by have := congrArg List.tail hi; simpa using this
    have gs : oldL[i]? = some s := by
      have : (oldL.drop i)[0]? = some s := by rw [hi]; rfl
      rw [List.getElem?_drop] at this; simpa using this
    obtain ⟨row, ⟨ho, x, rfl, hX, hxc⟩, hrd⟩ := ixR hA hEO gs
    have hB' := hB.up hI.up
    have ei := e1i (show i < 1000000000000 by omega)
    have hii : (i : Int) < (oldL.length : Int) := by omega
    have q3 : readRow [c, d, AV.mp mB1, AV.mp mB2] 3 1 false = some (.mp mB2) := rfl
    have key : ∀ R, _ := fun R => F25_1 b d (.bp base 0) (.bp oB 0) (.bp S.length 0) (oldL.length : Int) (i : Int) base T (r := R)
    simp only [nilCheckA_bp, ptrAdd_bp, Nat.zero_add, Nat.add_zero, Option.bind_some, box_read hB'.box, q3, hrd, ptrAdd_ip, nilCheckA_ip, readA_ip, lp_ori ho, lp_keys ho, olookup_ok hB'.p2 hokn ho, extractA_tup, List.getElem?_cons_zero, List.getElem?_cons_succ, intV_int, boolV_bool, decide_eq_true_eq, ei, if_pos hii, Nat.reduceAdd] at key
    cases hp : place s.ori (loris newL) with
    | none =>
      simp only [hp, Option.isSome_none, Bool.false_eq_true, if_false] at key
      have hd : movD newL s = 0 := by simp [movD, hp]
      obtain ⟨kv', gv', nv', T', q1, q2⟩ := ih (i + 1) hr hil kv gv nv mv T hI h0 (by omega)
      refine ⟨kv', gv', nv', T', key _ ?_, ?_⟩
      · simp only [List.map_cons, sumI, hd, Int.zero_add]; exact q1
      · simp only [List.map_cons, sumI, hd, Int.zero_add]; exact q2
    | some k =>
      obtain ⟨n, gn, hno⟩ := place_lp hp
      obtain ⟨rown, ⟨hon, y, rfl, hY, hyc⟩, hrdn⟩ := ixR hN hEN gn
      have la := hlao s (List.mem_of_getElem? gs)
      have lb := hlan n (List.mem_of_getElem? gn)
      have hmv := moves_run T hI.cl hX (hxc _) hY (hyc _) (by omega) (by omega)
      have hmd : (moved s.ks n.ks).2.1 = movD newL s := by
        unfold moved
        rw [if_pos ⟨(hSO i s gs).once, (hSN k n gn).once⟩]
        simp [movD, hp, gn]
      have hbd := movD_bound hlan s
      have ew : IntKind.i64.wrap (mv + movD newL s) = mv + movD newL s := i64_in _ (by omega)
      have hI2 := hI.set cr pl (mv + movD newL s) rm fr at' tx
      have w1 : writeA T (.bp S.length 5) [.int .i64 (mv + movD newL s)] = some (T.put S.length (.box 46 (planC kv gv nv cr pl (mv + movD newL s) rm fr at' tx))) := box_write hI.box rfl
      simp only [hp, Option.isSome_some, if_true, hrdn, ptrAdd_ip, readA_ip, Option.bind_some, Nat.zero_add, lp_keys hon, hmv, res3, callB_ret, extractA_tup, List.getElem?_cons_zero, List.getElem?_cons_succ, intV_int, box_read hI.box, pc5, hmd, ew, w1] at key
      obtain ⟨kv', gv', nv', T', q1, q2⟩ := ih (i + 1) hr hil kv gv nv _ _ hI2 (by omega) (by omega)
      refine ⟨kv', gv', nv', T', key _ ?_, ?_⟩
      · simp only [List.map_cons, sumI, ← Int.add_assoc]; exact q1
      · simp only [List.map_cons, sumI, ← Int.add_assoc]; exact q2
theorem eq75 (o : Nat) : binA Try.prog BinOp.eql 75 true (.bp o 0) .nilp = some (.bool false) := by kernel_rfl
theorem eq75n : binA Try.prog BinOp.eql 75 true .nilp .nilp = some (.bool true) := by kernel_rfl
def planV (kv gv nv : AV) (p : Plan) : List AV := planC kv gv nv p.created p.placed p.moved p.removed p.freed p.attrs p.texts
/-- What a call of Least is handed. -/
structure Given (a b c d : AV) (olds : List Spot) (oldL : List Lp) (news : List Spot) (newL : List Lp) : Prop where
  ga : ∃ rows, Sl 30 a rows ∧ Each SpotR olds rows
  gb : ∃ rows, Sl 27 b rows ∧ Each LoopR oldL rows
  gc : ∃ rows, Sl 30 c rows ∧ Each SpotR news rows
  gd : ∃ rows, Sl 27 d rows ∧ Each LoopR newL rows
  lo : olds.length < 10000000
  lol : oldL.length < 10000000
  ln : news.length < 10000000
  lnl : newL.length < 10000000
  lao : ∀ s ∈ olds, s.attrs.length < 10000000
  lan : ∀ s ∈ news, s.attrs.length < 10000000
  lko : ∀ s ∈ oldL, s.ks.length < 10000000
  lkn : ∀ s ∈ newL, s.ks.length < 10000000
  ca : ∀ n, AV.closed n a = true
  cb : ∀ n, AV.closed n b = true
  cc : ∀ n, AV.closed n c = true
  cd : ∀ n, AV.closed n d = true
theorem each_ok {ss : List Spot} {rows : List (List AV)} (h : Each SpotR ss rows) : ∀ s ∈ ss, s.ori.ok := fun s hs => by
  obtain ⟨j, hj⟩ := List.getElem?_of_mem hs
  obtain ⟨r, _, hr⟩ := h.get hj
  exact hr.1
theorem each_okl {ss : List Lp} {rows : List (List AV)} (h : Each LoopR ss rows) : ∀ s ∈ ss, s.ori.ok := fun s hs => by
  obtain ⟨j, hj⟩ := List.getElem?_of_mem hs
  obtain ⟨r, _, hr⟩ := h.get hj
  exact hr.1
theorem oks_of {ss : List Spot} (h : ∀ s ∈ ss, s.ori.ok) : OksO (oris ss) := fun o ho => by
  obtain ⟨z, hz, rfl⟩ := List.mem_map.1 ho
  exact h z hz
theorem oks_ofl {ss : List Lp} (h : ∀ s ∈ ss, s.ori.ok) : OksO (loris ss) := fun o ho => by
  obtain ⟨z, hz, rfl⟩ := List.mem_map.1 ho
  exact h z hz
def Good (olds : List Spot) (oldL : List Lp) (news : List Spot) (newL : List Lp) : Prop := (SpotsOk olds ∧ LoopsOk oldL) ∧ (SpotsOk news ∧ LoopsOk newL) ∧ TagsOk olds news
theorem least_run {st : St} (hcl : Cl st) {a b c d : AV} {olds news : List Spot} {oldL newL : List Lp} (h : Given a b c d olds oldL news newL) :
    ∃ T, Up st T ∧ Cl T ∧ ((Good olds oldL news newL ∧ ∃ kv gv nv ok og on, cw 25 [a, b, c, d] st = some (.ret (.tup [.agg (planV kv gv nv (plan olds oldL news newL)), .int .i64 0]), T) ∧ MuN T 2 kv ok (pairsC (plan olds oldL news newL).kept) ∧ MuN T 1 gv og (ints (plan olds oldL news newL).gone) ∧
        MuN T 1 nv on (ints (plan olds oldL news newL).new) ∧ st.length ≤ ok ∧ ok < og ∧ og < on) ∨
      (¬ Good olds oldL news newL ∧ cw 25 [a, b, c, d] st = some (.ret (.tup [.agg zero10, .int .i64 1800]), T))) := by
  obtain ⟨rA, hA, hEA⟩ := h.ga
  obtain ⟨rB, hB, hEB⟩ := h.gb
  obtain ⟨rC, hC, hEC⟩ := h.gc
  obtain ⟨rD, hD, hED⟩ := h.gd
  have hoka := each_ok hEA
  have hokb := each_okl hEB
  have hokc := each_ok hEC
  have hokd := each_okl hED
  have hU0 : Up st (AObj.free 0 :: AObj.free 0 :: AObj.free 0 :: AObj.box 46 zero10 :: st) := (((Up.cons _ st).push _).push _).push _
  have hC0 : Cl (AObj.free 0 :: AObj.free 0 :: AObj.free 0 :: AObj.box 46 zero10 :: st) := (((hcl.cons (x := .box 46 zero10) rfl).free).free).free
  have hz0 : St.get (AObj.free 0 :: AObj.free 0 :: AObj.free 0 :: AObj.box 46 zero10 :: st) st.length = some (.box 46 zero10) := get_at4 rfl
  obtain ⟨ra, S1, m1, u1, cl1, r1⟩ := made_run hC0 hA hEA h.lo h.lao hoka hB hEB h.lol h.lko hokb (h.ca _) (h.cb _)
  obtain ⟨rb, S2, m2, u2, cl2, r2⟩ := made_run cl1 hC hEC h.ln h.lan hokc hD hED h.lnl h.lkn hokd (h.cc _) (h.cd _)
  have hz2 := u2.get (u1.get hz0)
  have hU2 := (hU0.trans u1).trans u2
  have hc10 : cellsV 10 (AV.agg [AV.nils, AV.nils, AV.nils, AV.int IntKind.i64 0, AV.int IntKind.i64 0, AV.int IntKind.i64 0, AV.int IntKind.i64 0, AV.int IntKind.i64 0, AV.int IntKind.i64 0, AV.int IntKind.i64 0]) = some zero10 := rfl
  have hw : writeA S2 (.bp st.length 0) zero10 = some S2 := by rw [box_write hz2 (setAt_all _ _ rfl), St.put_same hz2]
  have hrz : readRow zero10 0 10 true = some (.agg zero10) := rfl
  have key : ∀ R, _ := fun R => F25 a b c d st (r := R)
  have hzz : [AV.nils, AV.nils, AV.nils, AV.int IntKind.i64 0, AV.int IntKind.i64 0, AV.int IntKind.i64 0, AV.int IntKind.i64 0, AV.int IntKind.i64 0, AV.int IntKind.i64 0, AV.int IntKind.i64 0] = zero10 := rfl
  simp only [hc10, Option.bind_some] at key
  simp only [hzz, m1, m2, callB_ret, hw, ld46, box_read hz2, hrz, outL_true, outV1, Option.bind_some] at key
  rcases r1 with ⟨g1, g2, oA, mA1, mA2, rfl, RA⟩ | ⟨g1, rfl⟩
  · rcases r2 with ⟨g3, g4, oB, mB1, mB2, rfl, RB⟩ | ⟨g3, rfl⟩
    · simp only [eq75, boolV_bool, Option.bind_some, Bool.false_eq_true, if_false] at key
      have RA' := RA.up u2
      have hok3 := oks_of hokc
      have hok1 := oks_of hoka
      have hI0 : PInv S2 (AObj.free 0 :: AObj.free 0 :: AObj.free 0 :: AObj.box 46 zero10 :: S2) .nils [] 0 0 :=
        ⟨(((Up.cons _ S2).push _).push _).push _, (((cl2.cons (x := .box 46 zero10) rfl).free).free).free, get_at4 rfl, .inl ⟨rfl, rfl, 0, get_at3 (by simp)⟩, ⟨0, get_at2 (by simp)⟩, ⟨0, get_at1 (by simp)⟩⟩
      rcases least_loop0 (base := st.length) (b := b) (ra := .bp oA 0) hA hEA hC hEC h.lo h.ln h.lao h.lan g1 g3 hok3 RB hz2 olds 0 (by simp) (by omega) .nils [] 0 0 _ hI0 (by simp) (by omega) (by omega) (by omega) (by omega) with ⟨n1, T', e1, e2, e3⟩ | ⟨n1, kv, T', hI, hk⟩
      · refine ⟨T', hU2.trans e2, e3, .inr ⟨fun hg => n1 hg.2.2, key _ ?_⟩⟩
        rw [lnR (st := []) hA.rd hEA]
        exact e1
      · simp only [List.nil_append, Int.zero_add] at hI
        obtain ⟨e3, hf3⟩ := hI.f3
        have l3 := St.get_lt hf3
        have RAT := RA'.up hI.up
        have RBT := RB.up hI.up
        obtain ⟨gv, T1, t1, t2, t3, t4⟩ := topmost_run hI.cl RAT.box RBT.box RBT.p1 hok3 hA hEA h.lo g1.below
        have kv1 : MuN T1 2 kv (S2.length + 1) (pairsC (keptF news olds 0)) := by
          rcases hI.mu with ⟨x1, x2, e, x3⟩ | ⟨ep, x1, x3⟩
          · exact .inl ⟨x1, x2, e, t3.get x3⟩
          · exact .inr ⟨ep, x1, t3.get x3⟩
        have b1 := t3.get hI.box
        have lT1 := t2.lt
        have w1 : writeA T1 (.bp S2.length 1) [gv] = some (T1.put S2.length (.box 46 (planC kv gv .nils 0 0 0 0 0 (sumI (olds.map (pairD atrD news))) (sumI (olds.map (pairD txtD news)))))) := box_write b1 rfl
        have w2 : writeA (T1.put S2.length (.box 46 (planC kv gv .nils 0 0 0 0 0 (sumI (olds.map (pairD atrD news))) (sumI (olds.map (pairD txtD news)))))) (.bp S2.length 7) [.int .i64 ((lostF (isIn (oris news)) olds : Nat) : Int)] =
            some (T1.put S2.length (.box 46 (planC kv gv .nils 0 0 0 0 (lostF (isIn (oris news)) olds : Nat) (sumI (olds.map (pairD atrD news))) (sumI (olds.map (pairD txtD news)))))) := by
          rw [box_write (St.get_put_same (St.get_lt b1)) (row' := planC kv gv .nils 0 0 0 0 (lostF (isIn (oris news)) olds : Nat) (sumI (olds.map (pairD atrD news))) (sumI (olds.map (pairD txtD news)))) rfl, St.put_put]
        have hU3 : Up S2 (T1.put S2.length (.box 46 (planC kv gv .nils 0 0 0 0 (lostF (isIn (oris news)) olds : Nat) (sumI (olds.map (pairD atrD news))) (sumI (olds.map (pairD txtD news)))))) := (hI.up.trans t3).put (Nat.le_refl _) _
        have hC3 : Cl (T1.put S2.length (.box 46 (planC kv gv .nils 0 0 0 0 (lostF (isIn (oris news)) olds : Nat) (sumI (olds.map (pairD atrD news))) (sumI (olds.map (pairD txtD news)))))) := t4.put (planC_closed (kv1.clv kv1.lt) (t2.clv t2.lt) rfl)
        have b3 : St.get (T1.put S2.length (.box 46 (planC kv gv .nils 0 0 0 0 (lostF (isIn (oris news)) olds : Nat) (sumI (olds.map (pairD atrD news))) (sumI (olds.map (pairD txtD news)))))) S2.length = some _ := St.get_put_same (St.get_lt b1)
        have kv3 : MuN (T1.put S2.length (.box 46 (planC kv gv .nils 0 0 0 0 (lostF (isIn (oris news)) olds : Nat) (sumI (olds.map (pairD atrD news))) (sumI (olds.map (pairD txtD news)))))) 2 kv (S2.length + 1) (pairsC (keptF news olds 0)) := kv1.same (St.get_put_other (by omega))
        have gv3 : MuN (T1.put S2.length (.box 46 (planC kv gv .nils 0 0 0 0 (lostF (isIn (oris news)) olds : Nat) (sumI (olds.map (pairD atrD news))) (sumI (olds.map (pairD txtD news)))))) 1 gv T'.length (ints (topsF olds (isIn (oris news)) olds 0)) := t2.same (St.get_put_other (by omega))
        have hlen3 : (T1.put S2.length (.box 46 (planC kv gv .nils 0 0 0 0 (lostF (isIn (oris news)) olds : Nat) (sumI (olds.map (pairD atrD news))) (sumI (olds.map (pairD txtD news)))))).length = T1.length := by simp
        generalize hT3 : T1.put S2.length (.box 46 (planC kv gv .nils 0 0 0 0 (lostF (isIn (oris news)) olds : Nat) (sumI (olds.map (pairD atrD news))) (sumI (olds.map (pairD txtD news))))) = T3 at w2 hU3 hC3 b3 kv3 gv3 hlen3
        have RA3 := RA'.up hU3
        have RB3 := RB.up hU3
        obtain ⟨nv, T4, s1, s2, s3, s4⟩ := topmost_run hC3 RB3.box RA3.box RA3.p1 hok1 hC hEC h.ln g3.below
        have up' : ∀ {kd o : Nat} {v : AV} {l : List (List AV)}, MuN T3 kd v o l → MuN T4 kd v o l := fun hm => by
          rcases hm with ⟨x1, x2, e, x3⟩ | ⟨ep, x1, x3⟩
          · exact .inl ⟨x1, x2, e, s3.get x3⟩
          · exact .inr ⟨ep, x1, s3.get x3⟩
        have kv4 := up' kv3
        have gv4 := up' gv3
        have b4 := s3.get b3
        generalize hA0 : sumI (olds.map (pairD atrD news)) = A0 at *
        generalize hX0 : sumI (olds.map (pairD txtD news)) = X0 at *
        generalize hGo : topsF olds (isIn (oris news)) olds 0 = gone at *
        generalize hNe : topsF news (isIn (oris olds)) news 0 = new at *
        generalize hFr : lostF (isIn (oris news)) olds = fr at *
        generalize hCr : lostF (isIn (oris olds)) news = cr at *
        generalize hKe : keptF news olds 0 = kept at *
        have P4 := St.get_lt b4
        have w3 : writeA T4 (.bp S2.length 2) [nv] = some (T4.put S2.length (.box 46 (planC kv gv nv 0 0 0 0 fr A0 X0))) := box_write b4 rfl
        have w4 : writeA (T4.put S2.length (.box 46 (planC kv gv nv 0 0 0 0 fr A0 X0))) (.bp S2.length 3) [.int .i64 (cr : Int)] = some (T4.put S2.length (.box 46 (planC kv gv nv cr 0 0 0 fr A0 X0))) := by
          rw [box_write (St.get_put_same P4) (row' := planC kv gv nv cr 0 0 0 fr A0 X0) rfl, St.put_put]
        have w5 : writeA (T4.put S2.length (.box 46 (planC kv gv nv cr 0 0 0 fr A0 X0))) (.bp S2.length 6) [.int .i64 (gone.length : Int)] = some (T4.put S2.length (.box 46 (planC kv gv nv cr 0 0 gone.length fr A0 X0))) := by
          rw [box_write (St.get_put_same P4) (row' := planC kv gv nv cr 0 0 gone.length fr A0 X0) rfl, St.put_put]
        have w6 : writeA (T4.put S2.length (.box 46 (planC kv gv nv cr 0 0 gone.length fr A0 X0))) (.bp S2.length 4) [.int .i64 (new.length : Int)] = some (T4.put S2.length (.box 46 (planC kv gv nv cr new.length 0 gone.length fr A0 X0))) := by
          rw [box_write (St.get_put_same P4) (row' := planC kv gv nv cr new.length 0 gone.length fr A0 X0) rfl, St.put_put]
        have lg : lenSl gv = some (.int .i64 (gone.length : Int)) := by rw [gv4.rd.len, ints_len]
        have ln' : lenSl nv = some (.int .i64 (new.length : Int)) := by rw [s2.rd.len, ints_len]
        have hI5 : PInv1 S2 (T4.put S2.length (.box 46 (planC kv gv nv cr new.length 0 gone.length fr A0 X0))) kv gv nv T'.length T3.length kept gone new cr new.length 0 gone.length fr A0 X0 :=
          ⟨(hU3.trans s3).put (Nat.le_refl _) _, s4.put (planC_closed (kv4.clv kv4.lt) (gv4.clv gv4.lt) (s2.clv s2.lt)), St.get_put_same P4, kv4.same (St.get_put_other (by omega)), gv4.same (St.get_put_other (by omega)), s2.same (St.get_put_other (by omega)), by omega, by omega⟩
        obtain ⟨kv', gv', nv', T6, z1, z2⟩ := least_loop1 (base := st.length) hB hEB hD hED h.lol h.lnl h.lko h.lkn g2 g4 (oks_ofl hokd) RB hz2 oldL 0 (by simp) (by omega) kv gv nv 0 _ hI5 (by omega) (by omega)
        have key2 : ∀ R, _ := fun R => F25_0 a b c d (.bp st.length 0) (.bp oA 0) (.bp oB 0) (.bp S2.length 0) (olds.length : Int) (olds.length : Int) st.length T' (r := R)
        simp only [Int.lt_irrefl, decide_false, Bool.false_eq_true, if_false, t1, callB_ret, extractA_tup, List.getElem?_cons_zero, List.getElem?_cons_succ, Option.bind_some, intV_int, ptrAdd_bp, Nat.zero_add, Nat.reduceAdd, t2.cell1, w1, w2, s1, s2.cell1, w3, w4, box_read (St.get_put_same P4), pc1, pc2, lg, ln', w5, w6] at key2
        have fin := key _ (by
          rw [lnR (st := []) hA.rd hEA]
          exact hk _ (key2 _ (by rw [lnR (st := []) hB.rd hEB]; exact z1)))
        have hplan : planV kv' gv' nv' (plan olds oldL news newL) = planC kv' gv' nv' cr new.length (0 + sumI (oldL.map (movD newL))) gone.length fr A0 X0 := by
          simp only [planV, plan, hGo, hNe, hFr, hCr, hA0, hX0, Int.zero_add]
        have k1 : (plan olds oldL news newL).kept = kept := hKe
        have k2 : (plan olds oldL news newL).gone = gone := hGo
        have k3 : (plan olds oldL news newL).new = new := hNe
        have hb := St.get_lt hz2
        have o1 := z2.hog
        have o2 := z2.hon
        refine ⟨T6.put st.length (.box 46 (planC kv' gv' nv' cr new.length (0 + sumI (oldL.map (movD newL))) gone.length fr A0 X0)), (hU2.trans z2.up).put (Nat.le_refl _) _, z2.cl.put (planC_closed (z2.muk.clv z2.muk.lt) (z2.mug.clv z2.mug.lt) (z2.mun.clv z2.mun.lt)), .inl ⟨⟨⟨g1, g2⟩, ⟨g3, g4⟩, n1⟩, kv', gv', nv', S2.length + 1, T'.length, T3.length, ?_, ?_, ?_, ?_, by omega, by omega, o2⟩⟩
        · rw [hplan]; exact fin
        · rw [k1]; exact z2.muk.same (St.get_put_other (by omega))
        · rw [k2]; exact z2.mug.same (St.get_put_other (by omega))
        · rw [k3]; exact z2.mun.same (St.get_put_other (by omega))
    · simp only [eq75, eq75n, boolV_bool, Option.bind_some, Bool.false_eq_true, if_false, if_true] at key
      exact ⟨S2, hU2, cl2, .inr ⟨fun hg => g3 hg.2.1, key _ rfl⟩⟩
  · simp only [eq75n, boolV_bool, Option.bind_some, if_true] at key
    exact ⟨S2, hU2, cl2, .inr ⟨fun hg => g1 hg.1, key _ rfl⟩⟩
end Go.Abs
