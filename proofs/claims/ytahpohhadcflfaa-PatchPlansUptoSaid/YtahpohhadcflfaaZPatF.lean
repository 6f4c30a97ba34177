/- Renderings by value: the topmost ones, attributes that differ. -/
import Derived.Test.YtahpohhadcflfaaZPatE
namespace Go.Abs
open Go Go.Proofs Go.Proofs.Ytahpohhadcflfaa.LisMath Go.RowKit Go.IntWalk
set_option linter.unusedVariables false
set_option linter.unusedSimpArgs false

section
variable {st : St}
theorem keeps_run {T : St} {c0 c1 o1 o2 m : Nat} {a b x1 y1 a2 b2 y2 : AV} {l : List Ori} {ss : List Spot} {rows : List (List AV)} (h0 : T.get c0 = some (.box 75 [.bp o2 0])) (h1 : T.get c1 = some (.box 75 [.bp o1 0])) (hR1 : T.get o1 = some (.box 79 [a, b, x1, y1])) (hR2 : T.get o2 = some (.box 79 [a2, b2, .mp m, y2]))
    (hm : T.get m = some (.amap (oents l 0))) (hl : OksO l) (hA : Sl 30 a rows) (hE : Each SpotR ss rows) {i : Nat} {s : Spot} (gs : ss[i]? = some s) : cw 60 [.int .i64 (i : Int), .bp c0 0, .bp c1 0] T = some (.ret (.bool (isIn l s.ori)), T) := by
  obtain ⟨r, ⟨ho, c, rfl, hC, hcc⟩, hrd⟩ := ixR hA hE gs
  refine F60 _ _ _ _ ?_
  have q : ∀ x : AV, readRow [x] 0 1 false = some x := fun x => rfl
  have q2 : readRow [a2, b2, AV.mp m, y2] 2 1 false = some (.mp m) := rfl
  have q0 : readRow [a, b, x1, y1] 0 1 false = some a := rfl
  simp only [box_read h0, box_read h1, q, Option.bind_some, nilCheckA_bp, ptrAdd_bp, Nat.zero_add, Nat.add_zero, box_read hR1, box_read hR2, q0, q2, hrd, ptrAdd_ip, readA_ip, sp_ori ho, olookup_ok hm hl ho, extractA_tup, List.getElem?_cons_zero, List.getElem?_cons_succ, intV_int, boolV_bool, outL_same]
  unfold isIn
  cases place s.ori l <;> simp
def Below (ss : List Spot) : Prop := ∀ (i : Nat) (s : Spot), ss[i]? = some s → s.parent < (i : Int)
theorem SpotsOk.below {ss : List Spot} (h : SpotsOk ss) : Below ss := fun i s hs => by
  have := (h i s hs).high
  have hl := (List.getElem?_eq_some_iff.1 hs).1
  simp at this
  omega
theorem tops_loop {S : St} {o1 o2 m n1 n2 : Nat} {a b x1 y1 a2 b2 y2 : AV} {l : List Ori} {ss : List Spot} {rows : List (List AV)} (hR1 : S.get o1 = some (.box 79 [a, b, x1, y1])) (hR2 : S.get o2 = some (.box 79 [a2, b2, .mp m, y2]))
    (hm : S.get m = some (.amap (oents l 0))) (hl : OksO l) (hA : Sl 30 a rows) (hE : Each SpotR ss rows) (hsl : ss.length < 10000000) (hb : Below ss) (hn1 : n1 ≠ S.length) (hn2 : n2 ≠ S.length) : ∀ (r : List Spot) (i : Nat), ss.drop i = r → ∀ (acc : List Int) (cnt : Nat) (v : AV) (T : St), acc.length ≤ i → cnt ≤ i → MuN T 1 v S.length (ints acc) → Up S T → Cl T →
      T.get n1 = some (.box 75 [.bp o1 0]) → T.get n2 = some (.box 75 [.bp o2 0]) →
      ∃ v' T', aw 42 S.length p42_0 ⟨[(2, .bp n1 0), (6, .fn 60 [.bp n2 0, .bp n1 0]), (7, v), (8, .int .i64 (cnt : Int)), (16, .int .i64 (ss.length : Int)), (17, .int .i64 (i : Int))], []⟩ T = some (.ret (.tup [v', .int .i64 ((cnt + lostF (isIn l) r : Nat) : Int)]), T') ∧
        MuN T' 1 v' S.length (ints (acc ++ topsF ss (isIn l) r i)) ∧ Up S T' ∧ Cl T' := by
  intro r
  induction r with
  | nil =>
    intro i hi acc cnt v T ha hc hM hU hC g1 g2
    have : ss.length ≤ i := by simpa using hi
    refine ⟨v, T, F42_0 _ _ _ _ _ _ _ _ ?_, by simpa [topsF] using hM, hU, hC⟩
    rw [if_neg (by simp; omega), outL_true]
    rfl
  | cons s r ih =>
    intro i hi acc cnt v T ha hc hM hU hC g1 g2
    have hil : i < ss.length := by have := congrArg List.length hi; simp at this; omega
    have hr : ss.drop (i + 1) = r := by have := congrArg List.tail hi; simpa using this
    have gs : ss[i]? = some s := by
      have : (ss.drop i)[0]? = some s := by rw [hi]; rfl
      rw [List.getElem?_drop] at this; simpa using this
    have hk := keeps_run g2 g1 (hU.get hR1) (hU.get hR2) (hU.get hm) hl hA hE gs
    obtain ⟨row, ⟨ho, c, rfl, hCc, hcc⟩, hrd⟩ := ixR hA hE gs
    have ei := e1i (show i < 1000000000000 by omega)
    have ec := e1i (show cnt < 1000000000000 by omega)
    have q : ∀ x : AV, readRow [x] 0 1 false = some x := fun x => rfl
    have q0 : readRow [a, b, x1, y1] 0 1 false = some a := rfl
    have fnq : fnV (.fn 60 [.bp n2 0, .bp n1 0]) = some (60, [.bp n2 0, .bp n1 0]) := rfl
    have key : ∀ R, _ := fun R => F42_0 (.bp n1 0) (.fn 60 [.bp n2 0, .bp n1 0]) v (cnt : Int) (ss.length : Int) (i : Int) S.length T (r := R)
    simp only [fnq, Option.bind_some, List.cons_append, List.nil_append, hk, callB_ret, boolV_bool, box_read g1, q, nilCheckA_bp, ptrAdd_bp, Nat.zero_add, Nat.add_zero, box_read (hU.get hR1), q0, hrd, ptrAdd_ip, readA_ip, sp_parent ho, intV_int, ei, ec, roundV_len rfl, decide_eq_true_eq] at key
    have hii : (i : Int) < (ss.length : Int) := by omega
    cases hin : isIn l s.ori with
    | true =>
      obtain ⟨v', T', q1, q2, q3, q4⟩ := ih (i + 1) hr acc cnt v T (by omega) (by omega) hM hU hC g1 g2
      refine ⟨v', T', key _ ?_, ?_, q3, q4⟩
      · rw [if_pos hii, hin]
        simp only [if_true, lostF, hin]
        exact q1
      · simp only [topsF, hin, if_true]; exact q2
    | false =>
      -- it is put to the others
      have add : ∃ v' T', (bind2 (appendL T (some (S.length, true)) 8 1 v (AV.sl 1 [[AV.int IntKind.i64 (i : Int)]] 0 1 Tok.exact)) fun v st_2 =>
          (roundV (T.length) ⟨[(2, .bp n1 0), (6, .fn 60 [.bp n2 0, .bp n1 0]), (7, v), (8, .int .i64 ((cnt + 1 : Nat) : Int)), (16, .int .i64 (ss.length : Int)), (17, .int .i64 ((i + 1 : Nat) : Int))], []⟩ st_2).bind fun e => aw 42 S.length p42_0 e.fst e.snd) = some (.ret (.tup [v', .int .i64 ((cnt + lostF (isIn l) (s :: r) : Nat) : Int)]), T') ∧
          MuN T' 1 v' S.length (ints (acc ++ (i : Int) :: topsF ss (isIn l) r (i + 1))) ∧ Up S T' ∧ Cl T' := by
        obtain ⟨v2, y, p1, p2, p3⟩ := hM.app (x := .sl 1 [[AV.int IntKind.i64 (i : Int)]] 0 1 .exact) (new := [[.int .i64 (i : Int)]]) (bytes := 8) rfl (by rw [ints_len]; simp [roomA]; omega) (by rw [ints_len]; simp [roomA]; omega)
        have hap : ints acc ++ [[.int .i64 (i : Int)]] = ints (acc ++ [(i : Int)]) := by rw [ints_app]; rfl
        rw [hap] at p2 p3
        have hC2 : Cl (T.put S.length y) := hC.put (by
          rcases p3 with ⟨e, rfl⟩ | ⟨ep, rfl⟩
          · rfl
          · exact closed_ints _ _)
        obtain ⟨v', T', q1, q2, q3, q4⟩ := ih (i + 1) hr (acc ++ [(i : Int)]) (cnt + 1) v2 (T.put S.length y) (by simp; omega) (by omega) p2 (hU.put (Nat.le_refl _) _) hC2 (by rw [St.get_put_other hn1]; exact g1) (by rw [St.get_put_other hn2]; exact g2)
        refine ⟨v', T', ?_, by simpa using q2, q3, q4⟩
        rw [p1, bind2_some, roundV_len (by simp), Option.bind_some]
        simp only [lostF, hin, Bool.false_eq_true, if_false]
        rw [show cnt + (lostF (isIn l) r + 1) = cnt + 1 + lostF (isIn l) r by omega]
        exact q1
      by_cases hp : s.parent < 0
      · obtain ⟨v', T', q1, q2, q3, q4⟩ := add
        refine ⟨v', T', key _ ?_, ?_, q3, q4⟩
        · rw [if_pos hii, hin, if_neg (by simp), if_pos hp]
          exact q1
        · simp only [topsF, hin, par, hp, if_true, Bool.false_eq_true, if_false]; exact q2
      · obtain ⟨k, hkp⟩ := Int.eq_ofNat_of_zero_le (show 0 ≤ s.parent by omega)
        have hki : k < i := by have := hb i s gs; omega
        have gp : ss[k]? = some (ss[k]'(by omega)) := List.getElem?_eq_getElem _
        generalize ss[k]'(by omega) = pp at gp
        have hk2 := keeps_run g2 g1 (hU.get hR1) (hU.get hR2) (hU.get hm) hl hA hE gp
        have hpar : par ss (isIn l) s = isIn l pp.ori := by
          unfold par
          rw [if_neg hp, hkp]
          simp [gp]
        cases hin2 : isIn l pp.ori with
        | true =>
          obtain ⟨v', T', q1, q2, q3, q4⟩ := add
          refine ⟨v', T', key _ ?_, ?_, q3, q4⟩
          · rw [if_pos hii, hin, if_neg (by simp), if_neg hp, hkp]
            simp only [hk2, callB_ret, boolV_bool, Option.bind_some, hin2, if_true]
            exact q1
          · simp only [topsF, hin, hpar, hin2, if_true, Bool.false_eq_true, if_false]; exact q2
        | false =>
          obtain ⟨v', T', q1, q2, q3, q4⟩ := ih (i + 1) hr acc (cnt + 1) v T (by omega) (by omega) hM hU hC g1 g2
          refine ⟨v', T', key _ ?_, ?_, q3, q4⟩
          · rw [if_pos hii, hin, if_neg (by simp), if_neg hp, hkp]
            simp only [hk2, callB_ret, boolV_bool, Option.bind_some, hin2, Bool.false_eq_true, if_false, lostF, hin, roundV_len rfl]
            rw [show cnt + (lostF (isIn l) r + 1) = cnt + 1 + lostF (isIn l) r by omega]
            exact q1
          · simp only [topsF, hin, hpar, hin2, Bool.false_eq_true, if_false]; exact q2
theorem topmost_run {S : St} (hC : Cl S) {o1 o2 m : Nat} {a b x1 y1 a2 b2 y2 : AV} {l : List Ori} {ss : List Spot} {rows : List (List AV)} (hR1 : S.get o1 = some (.box 79 [a, b, x1, y1])) (hR2 : S.get o2 = some (.box 79 [a2, b2, .mp m, y2]))
    (hm : S.get m = some (.amap (oents l 0))) (hl : OksO l) (hA : Sl 30 a rows) (hE : Each SpotR ss rows) (hsl : ss.length < 10000000) (hb : Below ss) :
    ∃ v T, cw 42 [.bp o1 0, .bp o2 0] S = some (.ret (.tup [v, .int .i64 ((lostF (isIn l) ss : Nat) : Int)]), T) ∧ MuN T 1 v S.length (ints (topsF ss (isIn l) ss 0)) ∧ Up S T ∧ Cl T := by
  have l1 := St.get_lt hR1
  have l2 := St.get_lt hR2
  have hU : Up S (AObj.box 75 [.bp o2 0] :: AObj.box 75 [.bp o1 0] :: AObj.free 0 :: S) := ((Up.cons _ S).push _).push _
  have hC2 : Cl (AObj.box 75 [.bp o2 0] :: AObj.box 75 [.bp o1 0] :: AObj.free 0 :: S) := (hC.free.cons (x := .box 75 [.bp o1 0]) (by simp [AObj.closed, AV.closeds, AV.closed]; omega)).cons (x := .box 75 [.bp o2 0]) (by simp [AObj.closed, AV.closeds, AV.closed]; omega)
  obtain ⟨v, T, q1, q2, q3, q4⟩ := tops_loop (n1 := (AObj.free 0 :: S).length) (n2 := (AObj.box 75 [.bp o1 0] :: AObj.free 0 :: S).length) hR1 hR2 hm hl hA hE hsl hb (by simp) (by simp only [List.length_cons]; omega) ss 0 (by simp) [] 0 .nils _ (by simp) (by simp) (.inl ⟨rfl, rfl, 0, get_at3 rfl⟩) hU hC2 (get_at2 rfl) (get_at1 rfl)
  refine ⟨v, T, F42 _ _ _ ?_, by simpa using q2, q3, q4⟩
  have c1 : ∀ o : Nat, cell1 (.bp o 0) = some (.bp o 0) := fun _ => rfl
  have q : ∀ x : AV, readRow [x] 0 1 false = some x := fun x => rfl
  have q0 : readRow [a, b, x1, y1] 0 1 false = some a := rfl
  simp only [c1, Option.bind_some]
  have g1 : St.get (AObj.box 75 [.bp o2 0] :: AObj.box 75 [.bp o1 0] :: AObj.free 0 :: S) (AObj.free 0 :: S).length = some (.box 75 [.bp o1 0]) := get_at2 rfl
  rw [box_read g1, q]
  simp only [Option.bind_some, nilCheckA_bp, ptrAdd_bp, Nat.add_zero, box_read (hU.get hR1), q0]
  rw [lnR (st := []) hA.rd hE]
  simpa using q1
end

/-! ### Attributes that differ -/
def aents (l : List Attr) : List (AV × AV) := l.map fun x => (.str x.name, .str x.value)
theorem eqA_str (a b : List UInt8) : eqA Try.prog 10000 9 (.str a) (.str b) = some (a == b) := by kernel_rfl
theorem keyOk9 (a : List UInt8) : keyOk Try.prog 20 9 (.str a) = true := by kernel_rfl
theorem u96 : Try.prog.underlying 96 = some (.map 9 9) := by kernel_rfl
theorem zero9 : zeroA Try.prog 9 = some (.str []) := by kernel_rfl
theorem find_aents (n : List UInt8) : ∀ (l : List Attr) (i : Nat), ∃ r, findA (eqA Try.prog 10000 9) (.str n) (aents l) i = some r ∧ r.map (·.2) = (lookA n l).map AV.str
  | [], i => ⟨none, rfl, rfl⟩
  | x :: l, i => by
    obtain ⟨r, h1, h2⟩ := find_aents n l (i + 1)
    simp only [aents, List.map_cons, findA, eqA_str, Option.bind_some, lookA] at h1 ⊢
    by_cases h : x.name = n
    · exact ⟨some (i, .str x.value), by simp [h], by simp [h]⟩
    · refine ⟨r, ?_, by simpa [h] using h2⟩
      rw [if_neg (by simpa using Ne.symm h)]
      exact h1
theorem alookup_ok {st : St} {o : Nat} {l : List Attr} (h : st.get o = some (.amap (aents l))) (n : List UInt8) :
    lookupA Try.prog st 96 (.mp o) (.str n) true = some (.tup [.str (match lookA n l with | some v => v | none => []), .bool (lookA n l).isSome]) := by
  obtain ⟨r, h1, h2⟩ := find_aents n l 0
  unfold lookupA
  rw [u96]
  simp only [keyOk9, if_true, zero9, Option.bind_some, h, h1, Option.map_some]
  cases r with
  | none => cases hl : lookA n l with
    | none => rfl
    | some v => rw [hl] at h2; simp at h2
  | some p => cases hl : lookA n l with
    | none => rw [hl] at h2; simp at h2
    | some v => rw [hl] at h2; simp at h2; simp [h2]
theorem aupdate_ok {st : St} {o : Nat} {l : List Attr} (h : st.get o = some (.amap (aents l))) {x : Attr} (hx : x.name ∉ names l) :
    mapUpdateA Try.prog st 96 (.mp o) (.str x.name) (.str x.value) = some (st.put o (.amap (aents (l ++ [x])))) := by
  obtain ⟨r, h1, h2⟩ := find_aents x.name l 0
  rw [lookA_none.2 hx] at h2
  have hr : r = none := by cases r with
    | none => rfl
    | some p => simp at h2
  subst hr
  unfold mapUpdateA
  rw [u96]
  simp only [keyOk9, if_true, h, h1, Option.bind_some]
  simp only [aents, List.map_append, List.map_cons, List.map_nil]
theorem closed_aents (n : Nat) (l : List Attr) : ((aents l).all fun p => AV.closed n p.1 && AV.closed n p.2) = true := by
  induction l with
  | nil => rfl
  | cons x l ih => simp [aents, AV.closed] at ih ⊢
section
variable {st : St}
theorem boxa_wr {T : St} (k : Attr) : writeA (AObj.box 98 [AV.str [], AV.str []] :: T) (AV.bp T.length 0) (attrC k) = some (.box 98 (attrC k) :: T) := by
  rw [box_write (row := [AV.str [], AV.str []]) (row' := attrC k) (cs := attrC k) (St.get_top _ _) (setAt_all _ _ rfl), St.put_top]
theorem attrC_n (k : Attr) : readRow (attrC k) 0 1 false = some (.str k.name) := rfl
theorem attrC_v (k : Attr) : readRow (attrC k) 1 1 false = some (.str k.value) := rfl
theorem differ_2 (hcl : Cl st) {y : AV} {a b : List Attr} (hB : Sl 2 y (attrs b)) (hyc : ∀ n, AV.closed n y = true) (hla : a.length < 10000000) (hlb : b.length < 10000000) : ∀ (r : List Attr) (i : Nat), b.drop i = r → ∀ (cnt : Int), -10000000 ≤ cnt - a.length + i → cnt ≤ a.length + i → cnt + i ≥ 0 →
    aw 41 st.length p41_1 ⟨[(5, .mp st.length), (8, .int .i64 cnt), (28, y), (29, .int .i64 (b.length : Int)), (30, .int .i64 (i : Int))], []⟩ (.amap (aents a) :: st) = some (.ret (.int .i64 (cnt + sumI (r.map (stepD a)))), st) := by
  intro r
  induction r with
  | nil =>
    intro i hi cnt h1 h2 h3
    have : b.length ≤ i := by simpa using hi
    refine F41_1 _ _ _ _ _ _ _ ?_
    rw [if_neg (by simp; omega), outL_s1 hcl _ rfl rfl]
    simp [sumI]
  | cons x r ih =>
    intro i hi cnt h1 h2 h3
    have hil : i < b.length := by have := congrArg List.length hi; simp at this; omega
    have hr : b.drop (i + 1) = r := by have := congrArg List.tail hi; simpa using this
    have gx : b[i]? = some x := by
      have : (b.drop i)[0]? = some x := by rw [hi]; rfl
      rw [List.getElem?_drop] at this; simpa using this
    have hm : St.get (.box 98 (attrC x) :: .amap (aents a) :: st) st.length = some (.amap (aents a)) := get_at2 rfl
    have hb : St.get (.box 98 (attrC x) :: .amap (aents a) :: st) (AObj.amap (aents a) :: st).length = some (.box 98 (attrC x)) := get_at1 rfl
    have hC1 : Cl (.amap (aents a) :: st) := hcl.cons (closed_aents _ _)
    have ei := e1i (show i < 1000000000000 by omega)
    have hrnd : ∀ cnt' : Int, roundV (AObj.amap (aents a) :: st).length ⟨[(5, .mp st.length), (8, .int .i64 cnt'), (28, y), (29, .int .i64 (b.length : Int)), (30, .int .i64 ((i + 1 : Nat) : Int))], []⟩ (.box 98 (attrC x) :: .amap (aents a) :: st) =
        some (⟨[(5, .mp st.length), (8, .int .i64 cnt'), (28, y), (29, .int .i64 (b.length : Int)), (30, .int .i64 ((i + 1 : Nat) : Int))], []⟩, .amap (aents a) :: st) := fun cnt' =>
      roundV_cut (St.trunc_cons _ _) rfl (by simp) hC1 (by simp [AV.closed, hyc]) rfl
    refine F41_1 _ _ _ _ _ _ _ ?_
    rw [if_pos (by simp; omega), rda hB.rd gx, cells_agg (show (attrC x).length = 2 from rfl), Option.bind_some, boxa_wr, Option.bind_some, box_read hb, attrC_n]
    simp only [Option.bind_some, strV_str, alookup_ok hm, extractA_tup, List.getElem?_cons_zero, List.getElem?_cons_succ, boolV_bool, ei, box_read hb, attrC_v, strA, hrnd]
    have e1 : IntKind.i64.wrap (cnt + 1) = cnt + 1 := i64_in _ (by omega)
    have e2 : IntKind.i64.wrap (cnt - 1) = cnt - 1 := i64_in _ (by omega)
    simp only [List.map_cons, sumI, stepD]
    cases hlk : lookA x.name a with
    | none =>
      simp only [Option.isSome_none, Bool.not_false, if_true, e1]
      rw [ih (i + 1) hr _ (by omega) (by omega) (by omega), Int.add_assoc]
    | some v =>
      simp only [Option.isSome_some, Bool.not_true, Bool.false_eq_true, if_false]
      by_cases hv : v = x.value
      · subst hv
        simp only [beq_self_eq_true, if_true, e2]
        rw [ih (i + 1) hr _ (by omega) (by omega) (by omega), show cnt - 1 + sumI (List.map (stepD a) r) = cnt + (-1 + sumI (List.map (stepD a) r)) by omega]
      · rw [if_neg (by simpa using hv), if_neg hv]
        rw [ih (i + 1) hr _ (by omega) (by omega) (by omega), Int.zero_add]
theorem differ_1 (hcl : Cl st) {x y : AV} {a b : List Attr} (hA : Sl 2 x (attrs a)) (hB : Sl 2 y (attrs b)) (hxc : ∀ n, AV.closed n x = true) (hyc : ∀ n, AV.closed n y = true) (hla : a.length < 10000000) (hlb : b.length < 10000000) (hn : (names a).Nodup) : ∀ (r : List Attr) (i : Nat), a.drop i = r →
    aw 41 st.length p41_0 ⟨[(0, x), (1, y), (5, .mp st.length), (14, x), (15, .int .i64 (a.length : Int)), (16, .int .i64 (i : Int))], []⟩ (.amap (aents (a.take i)) :: st) = some (.ret (.int .i64 (differ a b)), st) := by
  intro r
  induction r with
  | nil =>
    intro i hi
    have : a.length ≤ i := by simpa using hi
    refine F41_0 _ _ _ _ _ _ _ _ ?_
    rw [if_neg (by simp; omega), lna (st := []) hA.rd, lna (st := []) hB.rd, List.take_of_length_le (by omega)]
    exact differ_2 hcl hB hyc hla hlb b 0 (by simp) _ (by omega) (by omega) (by omega)
  | cons k r ih =>
    intro i hi
    have hil : i < a.length := by have := congrArg List.length hi; simp at this; omega
    have hr : a.drop (i + 1) = r := by have := congrArg List.tail hi; simpa using this
    have gx : a[i]? = some k := by
      have : (a.drop i)[0]? = some k := by rw [hi]; rfl
      rw [List.getElem?_drop] at this; simpa using this
    have hnew : k.name ∉ names (a.take i) := fun hmem => by
      have h1 : (names (a.take (i + 1))).Nodup := by
        refine List.Nodup.sublist ?_ hn
        exact (List.take_sublist _ _).map _
      rw [take_snoc gx, names, List.map_append] at h1
      exact (List.nodup_append.1 h1).2.2 _ hmem _ (by simp) rfl
    have hm : St.get (.box 98 (attrC k) :: .amap (aents (a.take i)) :: st) st.length = some (.amap (aents (a.take i))) := get_at2 rfl
    have hb : St.get (.box 98 (attrC k) :: .amap (aents (a.take i)) :: st) (AObj.amap (aents (a.take i)) :: st).length = some (.box 98 (attrC k)) := get_at1 rfl
    have hC1 : Cl (.amap (aents (a.take (i + 1))) :: st) := hcl.cons (closed_aents _ _)
    have ei := e1i (show i < 1000000000000 by omega)
    have hrnd : roundV (AObj.amap (aents (a.take i)) :: st).length ⟨[(0, x), (1, y), (5, .mp st.length), (14, x), (15, .int .i64 (a.length : Int)), (16, .int .i64 ((i + 1 : Nat) : Int))], []⟩ (St.put (.box 98 (attrC k) :: .amap (aents (a.take i)) :: st) st.length (.amap (aents (a.take (i + 1))))) =
        some (⟨[(0, x), (1, y), (5, .mp st.length), (14, x), (15, .int .i64 (a.length : Int)), (16, .int .i64 ((i + 1 : Nat) : Int))], []⟩, .amap (aents (a.take (i + 1))) :: st) := by
      refine roundV_cut ?_ (by simp) (by simp) hC1 (by simp [AV.closed, hyc, hxc]) rfl
      rw [box_put (by simp) rfl, St.put_top]
    refine F41_0 _ _ _ _ _ _ _ _ ?_
    rw [if_pos (by simp; omega), rda hA.rd gx, cells_agg (show (attrC k).length = 2 from rfl), Option.bind_some, boxa_wr, Option.bind_some, box_read hb, attrC_n]
    simp only [Option.bind_some, strV_str, box_read hb, attrC_v, aupdate_ok hm hnew]
    rw [← take_snoc gx, ei, hrnd]
    exact ih (i + 1) hr
theorem differ_run (hcl : Cl st) {x y : AV} {a b : List Attr} (hA : Sl 2 x (attrs a)) (hB : Sl 2 y (attrs b)) (hxc : ∀ n, AV.closed n x = true) (hyc : ∀ n, AV.closed n y = true) (hla : a.length < 10000000) (hlb : b.length < 10000000) (hn : (names a).Nodup) :
    cw 41 [x, y] st = some (.ret (.int .i64 (differ a b)), st) := by
  refine F41 _ _ _ ?_
  rw [lna (st := []) hA.rd]
  exact differ_1 hcl hA hB hxc hyc hla hlb hn a 0 (by simp)
/-- A row that may be written, cut to its length. -/
theorem clip_run {v : AV} {o : Nat} {l : List Int} (h : MuN st 1 v o (ints l)) : ∃ v', cw 43 [v] st = some (.ret v', st) ∧ MuN st 1 v' o (ints l) := by
  refine ⟨v, F43 _ _ ?_, h⟩
  rw [ln h.rd, ln h.rd]
  rcases h with ⟨rfl, h2, e, he⟩ | ⟨ep, rfl, he⟩
  · have : l = [] := List.map_eq_nil_iff.1 h2
    subst this
    simp [sliceSl, optA, natA]
  · simp [sliceSl, optA, msKd, he, ints_len]
end
end Go.Abs
