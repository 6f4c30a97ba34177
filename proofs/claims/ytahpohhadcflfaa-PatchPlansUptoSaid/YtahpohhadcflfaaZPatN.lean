/- Plans compared and written over; what every program answers. -/
import Derived.Test.YtahpohhadcflfaaZPatL
import Derived.Test.YtahpohhadcflfaaZLisSpo
namespace Go.Abs
open Go Go.Proofs Go.Proofs.Ytahpohhadcflfaa.LisMath Go.RowKit Go.IntWalk
set_option linter.unusedVariables false
set_option linter.unusedSimpArgs false

theorem eqA44 (c p m r f a t c' p' m' r' f' a' t' : Int) : eqA Try.prog 10000 44 (.agg [.int .i64 c, .int .i64 p, .int .i64 m, .int .i64 r, .int .i64 f, .int .i64 a, .int .i64 t]) (.agg [.int .i64 c', .int .i64 p', .int .i64 m', .int .i64 r', .int .i64 f', .int .i64 a', .int .i64 t']) =
    (some (c == c')).bind fun b => if b then (some (p == p')).bind fun b => if b then (some (m == m')).bind fun b => if b then (some (r == r')).bind fun b => if b then (some (f == f')).bind fun b => if b then (some (a == a')).bind fun b => if b then (some (t == t')).bind fun b => if b then some true else some false
      else some false else some false else some false else some false else some false else some false := by kernel_rfl
theorem eqA44s (c p m r f a t : Int) : eqA Try.prog 10000 44 (.agg [.int .i64 c, .int .i64 p, .int .i64 m, .int .i64 r, .int .i64 f, .int .i64 a, .int .i64 t]) (.agg [.int .i64 c, .int .i64 p, .int .i64 m, .int .i64 r, .int .i64 f, .int .i64 a, .int .i64 t]) = some true := by
  rw [eqA44]; simp
theorem neq44 (c p m r f a t : Int) : binA Try.prog BinOp.neq 44 false (.agg [.int .i64 c, .int .i64 p, .int .i64 m, .int .i64 r, .int .i64 f, .int .i64 a, .int .i64 t]) (.agg [.int .i64 c, .int .i64 p, .int .i64 m, .int .i64 r, .int .i64 f, .int .i64 a, .int .i64 t]) = some (.bool false) := by
  have h : binA Try.prog BinOp.neq 44 false (.agg [.int .i64 c, .int .i64 p, .int .i64 m, .int .i64 r, .int .i64 f, .int .i64 a, .int .i64 t]) (.agg [.int .i64 c, .int .i64 p, .int .i64 m, .int .i64 r, .int .i64 f, .int .i64 a, .int .i64 t]) =
    (eqA Try.prog 10000 44 (.agg [.int .i64 c, .int .i64 p, .int .i64 m, .int .i64 r, .int .i64 f, .int .i64 a, .int .i64 t]) (.agg [.int .i64 c, .int .i64 p, .int .i64 m, .int .i64 r, .int .i64 f, .int .i64 a, .int .i64 t])).map fun b => .bool (!b) := by kernel_rfl
  rw [h, eqA44s]; rfl
theorem eq44 (c p m r f a t : Int) : binA Try.prog BinOp.eql 44 false (.agg [.int .i64 c, .int .i64 p, .int .i64 m, .int .i64 r, .int .i64 f, .int .i64 a, .int .i64 t]) (.agg [.int .i64 c, .int .i64 p, .int .i64 m, .int .i64 r, .int .i64 f, .int .i64 a, .int .i64 t]) = some (.bool true) := by
  have h : binA Try.prog BinOp.eql 44 false (.agg [.int .i64 c, .int .i64 p, .int .i64 m, .int .i64 r, .int .i64 f, .int .i64 a, .int .i64 t]) (.agg [.int .i64 c, .int .i64 p, .int .i64 m, .int .i64 r, .int .i64 f, .int .i64 a, .int .i64 t]) =
    (eqA Try.prog 10000 44 (.agg [.int .i64 c, .int .i64 p, .int .i64 m, .int .i64 r, .int .i64 f, .int .i64 a, .int .i64 t]) (.agg [.int .i64 c, .int .i64 p, .int .i64 m, .int .i64 r, .int .i64 f, .int .i64 a, .int .i64 t])).map .bool := by kernel_rfl
  rw [h, eqA44s]; rfl
theorem neq81 (p : Nat × Nat) : binA Try.prog BinOp.neq 81 false (.agg (pairC p)) (.agg (pairC p)) = some (.bool false) := by
  have h1 : eqA Try.prog 10000 81 (.agg (pairC p)) (.agg (pairC p)) = (some ((p.1 : Int) == p.1)).bind fun b => if b then (some ((p.2 : Int) == p.2)).bind fun b => if b then some true else some false else some false := by kernel_rfl
  have h2 : binA Try.prog BinOp.neq 81 false (.agg (pairC p)) (.agg (pairC p)) = (eqA Try.prog 10000 81 (.agg (pairC p)) (.agg (pairC p))).map fun b => .bool (!b) := by kernel_rfl
  rw [h2, h1]; simp
theorem outL_up {st S : St} (hcl : Cl st) (hu : Up st S) {v : AV} (h1 : AV.stripR st.length v = v) (h2 : AV.closed st.length v = true) : outL false st.length (.ret v) S = some (.ret v, st) := by
  have := outL_plain (n := st.length) (v := v) (st := S) h1 h2 (by rw [hu.low]; exact hcl) hu.len
  rw [hu.low] at this
  exact this
section pc
variable (k g n : AV) (c p m r f a t : Int)
theorem pcN : readRow (planC k g n c p m r f a t) 3 7 true = some (.agg [.int .i64 c, .int .i64 p, .int .i64 m, .int .i64 r, .int .i64 f, .int .i64 a, .int .i64 t]) := rfl
theorem pcL : (planC k g n c p m r f a t).length = 10 := rfl
end pc
/-- A plan's lists may be read, whatever is put on top. -/
structure Reads (st : St) (k g n : AV) (p : Plan) : Prop where
  k : ∀ S, Up st S → Rd S 2 k (pairsC p.kept)
  g : ∀ S, Up st S → Rd S 1 g (ints p.gone)
  n : ∀ S, Up st S → Rd S 1 n (ints p.new)
theorem Reads.up {st S : St} {k g n : AV} {p : Plan} (h : Reads st k g n p) (hu : Up st S) : Reads S k g n p := ⟨fun T hT => h.k T (hu.trans hT), fun T hT => h.g T (hu.trans hT), fun T hT => h.n T (hu.trans hT)⟩
section
variable {st : St} {k g n k' g' n' : AV} {p : Plan}
theorem same_loop2 {S : St} (hcl : Cl st) (hu : Up st S) (h : Reads st k g n p) (h' : Reads st k' g' n' p) (hl : p.kept.length < 10000000) {o1 o2 : Nat} (g1 : S.get o1 = some (.box 46 (planV k g n p))) (g2 : S.get o2 = some (.box 46 (planV k' g' n' p))) : ∀ (d i : Nat), i + d = p.kept.length →
    aw 27 st.length p27_0 ⟨[(2, .bp o1 0), (3, .bp o2 0), (5, .int .i64 (i : Int))], []⟩ S = some (.ret (.bool true), st) := by
  have l1 : lenSl k = some (.int .i64 (p.kept.length : Int)) := by rw [(h.k S hu).len, pairsC_len]
  intro d
  induction d with
  | zero =>
    intro i hi
    refine F27_0 _ _ _ _ _ ?_
    simp only [ptrAdd_bp, Nat.zero_add, Option.bind_some, box_read g1, planV, pc0, l1, intV_int]
    rw [if_neg (by simp; omega)]
    exact outL_up hcl hu rfl rfl
  | succ d ih =>
    intro i hi
    have gk : p.kept[i]? = some (p.kept[i]'(by omega)) := List.getElem?_eq_getElem _
    generalize p.kept[i]'(by omega) = x at gk
    have gr : (pairsC p.kept)[i]? = some (pairC x) := by simp [pairsC, gk]
    refine F27_0 _ _ _ _ _ ?_
    simp only [ptrAdd_bp, Nat.zero_add, Option.bind_some, box_read g1, box_read g2, planV, pc0, l1, intV_int]
    rw [if_pos (by simp; omega), (h.k S hu).agg gr (n := 2) rfl, (h'.k S hu).agg gr (n := 2) rfl, neq81]
    simp only [Option.bind_some, boolV_bool, Bool.false_eq_true, if_false, e1i (show i < 1000000000000 by omega)]
    exact ih (i + 1) (by omega)
theorem same2_run (hcl : Cl st) (h : Reads st k g n p) (h' : Reads st k' g' n' p) (hl : p.kept.length < 10000000) (hl2 : p.gone.length < 10000000) (hl3 : p.new.length < 10000000) : cw 27 [.agg (planV k g n p), .agg (planV k' g' n' p)] st = some (.ret (.bool true), st) := by
  have hu : Up st (AObj.free 0 :: AObj.free 0 :: AObj.free 0 :: AObj.box 46 (planV k' g' n' p) :: AObj.free 0 :: AObj.free 0 :: AObj.free 0 :: AObj.box 46 (planV k g n p) :: st) := (((((((Up.cons _ st).push _).push _).push _).push _).push _).push _).push _
  have g1 : St.get (AObj.free 0 :: AObj.free 0 :: AObj.free 0 :: AObj.box 46 (planV k' g' n' p) :: AObj.free 0 :: AObj.free 0 :: AObj.free 0 :: AObj.box 46 (planV k g n p) :: st) st.length = some (.box 46 (planV k g n p)) := by
    refine Up.get ((((Up.cons _ _).push _).push _).push _) ?_
    exact get_at4 rfl
  have g2 : St.get (AObj.free 0 :: AObj.free 0 :: AObj.free 0 :: AObj.box 46 (planV k' g' n' p) :: AObj.free 0 :: AObj.free 0 :: AObj.free 0 :: AObj.box 46 (planV k g n p) :: st) (AObj.free 0 :: AObj.free 0 :: AObj.free 0 :: AObj.box 46 (planV k g n p) :: st).length = some (.box 46 (planV k' g' n' p)) := get_at4 rfl
  refine F27 _ _ _ ?_
  have l1 : lenSl k = some (.int .i64 (p.kept.length : Int)) := by rw [(h.k _ hu).len, pairsC_len]
  have l2 : lenSl k' = some (.int .i64 (p.kept.length : Int)) := by rw [(h'.k _ hu).len, pairsC_len]
  have c1 : cellsV 10 (.agg (planV k g n p)) = some (planV k g n p) := cells_agg rfl
  have c2 : cellsV 10 (.agg (planV k' g' n' p)) = some (planV k' g' n' p) := cells_agg rfl
  simp only [c1, c2, Option.bind_some]
  have r1 := sameInts_run (h.g _ hu) (h'.g _ hu) (by omega)
  have r2 := sameInts_run (h.n _ hu) (h'.n _ hu) (by omega)
  simp only [planV] at g1 g2 r1 r2 ⊢
  simp only [box_read g1, box_read g2, pc0, pc1, pc2, pcN, Option.bind_some, l1, l2, intV_int, r1, r2, callB_ret, boolV_bool, Option.bind_some, decide_true, Bool.not_true, Bool.false_eq_true, if_false, box_read g1, box_read g2, pc1, pc2, pcN, neq44]
  rw [if_neg (by simp)]
  exact same_loop2 hcl hu h h' hl g1 g2 p.kept.length 0 (by omega)

/-! ### Written over -/
def pairZ (p : Int × Int) : List AV := [.int .i64 p.1, .int .i64 p.2]
theorem wrp {R : Type} {T : St} {o ep j : Nat} {l : List (Int × Int)} (h : T.get o = some (.rows 2 ep (l.map pairZ))) {x : Int × Int} (hj : l[j]? = some x) (K : St → Option R) :
    ((natA (.int .i64 (j : Int))).bind fun j => (idxSl T 2 (.ms o ep 0 l.length l.length) j).bind fun v => (ptrAdd 0 v).bind fun v => (writeA T v [.int .i64 (-9)]).bind K) = K (T.put o (.rows 2 ep ((l.set j (-9, x.2)).map pairZ))) := by
  have hl := (List.getElem?_eq_some_iff.1 hj).1
  have hm : (l.map pairZ)[j]? = some (pairZ x) := by rw [List.getElem?_map, hj]; rfl
  have he : l[j] = x := by have := List.getElem?_eq_getElem hl; rw [hj] at this; cases this; rfl
  simp [idxSl, msKd, h, hl, ptrAdd, writeA, hm, pairZ, setAt, List.map_set, he]
theorem put4 {s : St} {a b c d y : AObj} {o : Nat} (h : o < s.length) : St.put (a :: b :: c :: d :: s) o y = a :: b :: c :: d :: St.put s o y := by
  rw [St.put_under (by simp only [List.length_cons]; omega), St.put_under (by simp only [List.length_cons]; omega), St.put_under (by simp only [List.length_cons]; omega), St.put_under h]
theorem MuN.up {S T : St} {kd o : Nat} {v : AV} {c : List (List AV)} (h : MuN S kd v o c) (hu : Up S T) : MuN T kd v o c := by
  rcases h with ⟨x1, x2, e, x3⟩ | ⟨ep, x1, x3⟩
  · exact .inl ⟨x1, x2, e, hu.get x3⟩
  · exact .inr ⟨ep, x1, hu.get x3⟩
theorem closed_pairZ (n : Nat) (l : List (Int × Int)) : AV.closedss n (l.map pairZ) = true := by
  induction l with
  | nil => rfl
  | cons c l ih => simp [AV.closedss, AV.closeds, AV.closed, pairZ] at ih ⊢; exact ih
theorem clear_loop {ok og on : Nat} {cs : List AV} (hcs : ∃ rest, cs = k :: g :: n :: rest) {gone new : List Int} (hlg : gone.length < 10000000) (hln : new.length < 10000000) (h1 : ok ≠ og) (h2 : ok ≠ on) (h3 : og ≠ on) : ∀ (d i : Nat) (l : List (Int × Int)) (s : St), i + d = l.length → l.length < 10000000 → s.length = st.length → Cl s →
    MuN s 2 k ok (l.map pairZ) → MuN s 1 g og (ints gone) → MuN s 1 n on (ints new) →
    ∃ y1 y2 y3, aw 28 st.length p28_0 ⟨[(1, .bp st.length 0), (2, .int .i64 (i : Int))], []⟩ (.free 0 :: .free 0 :: .free 0 :: .box 46 cs :: s) = some (.ret (.tup []), ((s.put ok y1).put og y2).put on y3) ∧ Cl (((s.put ok y1).put og y2).put on y3) := by
  obtain ⟨rest, rfl⟩ := hcs
  have r0 : readRow (k :: g :: n :: rest) 0 1 false = some k := rfl
  have r1 : readRow (k :: g :: n :: rest) 1 1 false = some g := rfl
  have r2 : readRow (k :: g :: n :: rest) 2 1 false = some n := rfl
  have hX : ∀ s' : St, s'.length = st.length → St.get (.free 0 :: .free 0 :: .free 0 :: .box 46 (k :: g :: n :: rest) :: s') st.length = some (.box 46 (k :: g :: n :: rest)) := fun s' hs' => get_at4 hs'.symm
  have hU : ∀ s' : St, Up s' (.free 0 :: .free 0 :: .free 0 :: .box 46 (k :: g :: n :: rest) :: s') := fun s' => (((Up.cons _ s').push _).push _).push _
  intro d
  induction d with
  | zero =>
    intro i l s hi hll hs hc hk hg hn
    obtain ⟨y1, e1⟩ : ∃ y, s.get ok = some y := by rcases hk with ⟨_, _, e, h⟩ | ⟨ep, _, h⟩ <;> exact ⟨_, h⟩
    obtain ⟨y2, a1, a2⟩ := spoil_run2 (st := .free 0 :: .free 0 :: .free 0 :: .box 46 (k :: g :: n :: rest) :: s) (by omega) (hg.up (hU s))
    rw [put4 hg.lt] at a1
    have hn2 : MuN (s.put og y2) 1 n on (ints new) := hn.same (St.get_put_other (Ne.symm h3))
    obtain ⟨y3, a3, a4⟩ := spoil_run2 (st := .free 0 :: .free 0 :: .free 0 :: .box 46 (k :: g :: n :: rest) :: s.put og y2) (by omega) (hn2.up (hU _))
    rw [put4 hn2.lt] at a3
    have hC : Cl ((s.put og y2).put on y3) := (hc.put (a2 _)).put (a4 _)
    refine ⟨y1, y2, y3, F28_0 _ _ _ _ ?_, by rw [St.put_same e1]; exact hC⟩
    have lk : lenSl k = some (.int .i64 (l.length : Int)) := by rw [hk.rd.len, List.length_map]
    simp only [ptrAdd_bp, Nat.zero_add, Option.bind_some, box_read (hX s hs), r0, r1, lk, intV_int]
    rw [if_neg (by simp; omega), a1]
    simp only [callB_ret, box_read (hX (s.put og y2) (by simpa using hs)), r2, Option.bind_some, a3, St.put_same e1]
    have hl3 : ((s.put og y2).put on y3).length = st.length := by simpa using hs
    have := outL_up (S := .free 0 :: .free 0 :: .free 0 :: .box 46 (k :: g :: n :: rest) :: (s.put og y2).put on y3) (v := .tup []) hC ((((Up.cons _ _).push _).push _).push _) rfl rfl
    rw [hl3] at this
    exact this
  | succ d ih =>
    intro i l s hi hll hs hc hk hg hn
    have gx : l[i]? = some (l[i]'(by omega)) := List.getElem?_eq_getElem _
    generalize l[i]'(by omega) = x at gx
    have hM : Mu s 2 k ok (l.map pairZ) := by
      rcases hk with ⟨_, h, _⟩ | h
      · have : l = [] := List.map_eq_nil_iff.1 h
        subst this; simp at gx
      · exact h
    have lk : lenSl k = some (.int .i64 (l.length : Int)) := by rw [hM.rd.len, List.length_map]
    obtain ⟨ep, rfl, hg0⟩ := hM
    have hlt := St.get_lt hg0
    have hgX : St.get (.free 0 :: .free 0 :: .free 0 :: .box 46 (.ms ok ep 0 (l.map pairZ).length (l.map pairZ).length :: g :: n :: rest) :: s) ok = some (.rows 2 ep (l.map pairZ)) := (hU s).get hg0
    have hs2 : (s.put ok (.rows 2 ep ((l.set i (-9, x.2)).map pairZ))).length = st.length := by simpa using hs
    obtain ⟨y1, y2, y3, q1, q2⟩ := ih (i + 1) (l.set i (-9, x.2)) (s.put ok (.rows 2 ep ((l.set i (-9, x.2)).map pairZ))) (by simp; omega) (by simpa using hll) hs2 (hc.put (closed_pairZ _ _)) (.inr ⟨ep, by simp, St.get_put_same hlt⟩) (hg.same (St.get_put_other (Ne.symm h1))) (hn.same (St.get_put_other (Ne.symm h2)))
    rw [St.put_put] at q1 q2
    refine ⟨y1, y2, y3, F28_0 _ _ _ _ ?_, q2⟩
    simp only [ptrAdd_bp, Nat.zero_add, Option.bind_some, box_read (hX s hs), r0, lk, intV_int]
    rw [List.length_map] at hgX q1 ⊢
    rw [if_pos (by simp; omega), wrp hgX gx, put4 hlt, e1i (show i < 1000000000000 by omega)]
    exact q1
theorem clear_run {p : Plan} (hcl : Cl st) {ok og on : Nat} (h1 : ok ≠ og) (h2 : ok ≠ on) (h3 : og ≠ on) (hk : MuN st 2 k ok (pairsC p.kept)) (hg : MuN st 1 g og (ints p.gone)) (hn : MuN st 1 n on (ints p.new)) (hl : p.kept.length < 10000000) (hl2 : p.gone.length < 10000000) (hl3 : p.new.length < 10000000) :
    ∃ y1 y2 y3, cw 28 [.agg (planV k g n p)] st = some (.ret (.tup []), ((st.put ok y1).put og y2).put on y3) ∧ Cl (((st.put ok y1).put og y2).put on y3) := by
  have hz : pairsC p.kept = (p.kept.map fun q => ((q.1 : Int), (q.2 : Int))).map pairZ := by
    rw [List.map_map]; rfl
  rw [hz] at hk
  obtain ⟨y1, y2, y3, q1, q2⟩ := clear_loop (st := st) (k := k) (g := g) (n := n) (cs := planV k g n p) ⟨_, rfl⟩ hl2 hl3 h1 h2 h3 p.kept.length 0 (p.kept.map fun q => ((q.1 : Int), (q.2 : Int))) st (by simp) (by simpa using hl) rfl hcl hk hg hn
  refine ⟨y1, y2, y3, F28 _ _ ?_, q2⟩
  have c1 : cellsV 10 (.agg (planV k g n p)) = some (planV k g n p) := cells_agg rfl
  rw [c1, Option.bind_some]
  exact q1
end
end Go.Abs
