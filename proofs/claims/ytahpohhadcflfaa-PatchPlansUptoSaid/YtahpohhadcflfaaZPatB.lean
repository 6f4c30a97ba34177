/- Loops by value: what is lent and kept. -/
import Derived.Test.YtahpohhadcflfaaZPatA
namespace Go.Abs
open Go Go.Proofs Go.Proofs.Ytahpohhadcflfaa.LisMath Go.RowKit Go.IntWalk
set_option linter.unusedVariables false
set_option linter.unusedSimpArgs false

/-! ### Loops -/
structure Lp where
  ori : Ori
  ks : List Key
def loopC (o : Ori) (a : AV) : List AV := oriC o ++ [a]
theorem loopC_len {o : Ori} (h : o.ok) (a : AV) : (loopC o a).length = 27 := by simp [loopC, oriC_len h]
/-- A loop's cells. -/
def LoopR (s : Lp) (cs : List AV) : Prop := s.ori.ok ∧ ∃ a, cs = loopC s.ori a ∧ Sl 3 a (keys s.ks) ∧ ∀ n, AV.closed n a = true
/-- The cells of one that is lent. -/
def LoopL (s : Lp) (cs : List AV) : Prop := s.ori.ok ∧ ∃ a, cs = loopC s.ori a ∧ Lent 3 a (keys s.ks) (keys moreK)
theorem LoopL.r {s : Lp} {cs : List AV} (h : LoopL s cs) : LoopR s cs := by
  obtain ⟨h1, a, h2, h3⟩ := h
  exact ⟨h1, a, h2, h3.sl, fun n => h3.closed (by rw [← keys_app]; exact closed_keys _ _)⟩
theorem LoopR.len {s : Lp} {cs : List AV} (h : LoopR s cs) : cs.length = 27 := by
  obtain ⟨h1, a, rfl, _⟩ := h
  exact loopC_len h1 _
theorem LoopR.closed {s : Lp} {cs : List AV} (h : LoopR s cs) (n : Nat) : AV.closeds n cs = true := by
  obtain ⟨h1, a, rfl, h2, h3⟩ := h
  refine closeds_all fun c hc => ?_
  simp only [loopC, List.mem_append, List.mem_cons, List.not_mem_nil, or_false] at hc
  rcases hc with hc | rfl
  · exact (oriC_plain _ c hc).2.1 n
  · exact h3 n
section
variable {o : Ori} (h : o.ok) (a : AV)
include h
theorem lp_ori : readRow (loopC o a) 0 26 true = some (.agg (oriC o)) := row_front _ _ _ (oriC_len h)
theorem lp_keys : readRow (loopC o a) 26 1 false = some a := row_app (oriC o) [a] 0 26 (oriC_len h)
theorem lp_all : readRow (loopC o a) 0 27 true = some (.agg (loopC o a)) := row_all _ _ (loopC_len h _)
theorem lp_set (v : AV) : setAt (loopC o a) 26 [v] = some (loopC o v) := by
  have := setAt_app (oriC o) [a] [v] 0
  rw [oriC_len h] at this
  exact this
end
theorem lendLoop_run (st : St) (hs : Cl st) {s : Lp} {cs : List AV} (h : LoopR s cs) (hl : s.ks.length < 10000000) : ∃ cs', cw 39 [.agg cs] st = some (.ret (.agg cs'), st) ∧ LoopL s cs' := by
  have hlen := h.len
  have hcc := h.closed
  obtain ⟨ho, a, rfl, hA, hac⟩ := h
  have hz : ∃ z : List AV, z = [AV.int IntKind.i64 0, AV.int IntKind.i64 0, AV.int IntKind.i64 0, AV.int IntKind.i64 0, AV.str [], AV.int IntKind.i64 0, AV.int IntKind.i64 0, AV.str [], AV.int IntKind.i64 0, AV.int IntKind.i64 0, AV.str [],
                AV.int IntKind.i64 0, AV.int IntKind.i64 0, AV.str [], AV.int IntKind.i64 0, AV.int IntKind.i64 0, AV.str [], AV.int IntKind.i64 0, AV.int IntKind.i64 0, AV.str [], AV.int IntKind.i64 0, AV.int IntKind.i64 0, AV.str [],
                AV.int IntKind.i64 0, AV.int IntKind.i64 0, AV.str [], AV.nils] ∧ z.length = 27 ∧ ∀ n, AV.closeds n z = true := ⟨_, rfl, rfl, fun n => rfl⟩
  obtain ⟨z, hz, hzl, hzc⟩ := hz
  have hS : Cl (AObj.free 0 :: AObj.box 73 z :: AObj.free 0 :: AObj.box 73 (loopC s.ori a) :: st) := Cl.free (Cl.cons (Cl.free (Cl.cons hs (hcc _))) (hzc _))
  obtain ⟨v, v1, v2, _⟩ := lendKeys_run _ hS hA (by omega)
  refine ⟨loopC s.ori v, F39 _ _ ?_, ho, v, rfl, v2⟩
  rw [cells_agg hlen, Option.bind_some, ← hz]
  have g1 : St.get (AObj.free 0 :: AObj.box 73 z :: AObj.free 0 :: AObj.box 73 (loopC s.ori a) :: st) st.length = some (.box 73 (loopC s.ori a)) := get_at4 rfl
  rw [box_read g1, lp_keys ho]
  simp only [Option.bind_some, v1, callB_ret, cell1_lent v2]
  rw [box_write g1 (lp_set ho _ _), Option.bind_some]
  have hp : St.put (AObj.free 0 :: AObj.box 73 z :: AObj.free 0 :: AObj.box 73 (loopC s.ori a) :: st) st.length (.box 73 (loopC s.ori v)) = AObj.free 0 :: AObj.box 73 z :: AObj.free 0 :: AObj.box 73 (loopC s.ori v) :: st := by
    rw [St.put_under (by simp only [List.length_cons]; omega), St.put_under (by simp only [List.length_cons]; omega), St.put_under (by simp), St.put_top]
  rw [hp, box_read (get_at4 rfl), lp_all ho, Option.bind_some, cells_agg (loopC_len ho _), Option.bind_some]
  have g2 : St.get (AObj.free 0 :: AObj.box 73 z :: AObj.free 0 :: AObj.box 73 (loopC s.ori v) :: st) (AObj.free 0 :: AObj.box 73 (loopC s.ori a) :: st).length = some (.box 73 z) := get_at2 (by simp)
  rw [box_write g2 (setAt_all z _ (by rw [hzl, loopC_len ho])), Option.bind_some]
  have hp2 : St.put (AObj.free 0 :: AObj.box 73 z :: AObj.free 0 :: AObj.box 73 (loopC s.ori v) :: st) (AObj.free 0 :: AObj.box 73 (loopC s.ori a) :: st).length (.box 73 (loopC s.ori v)) =
      AObj.free 0 :: AObj.box 73 (loopC s.ori v) :: AObj.free 0 :: AObj.box 73 (loopC s.ori v) :: st := by
    rw [St.put_under (by simp)]
    congr 1
    exact St.put_top _ _ _
  rw [hp2, ld73, box_read (get_at2 (by simp)), lp_all ho]
  simp only [Option.bind_some, outV1]
  have := outL_agg (m := st.length) (cs := loopC s.ori v) (st := AObj.free 0 :: AObj.box 73 (loopC s.ori v) :: AObj.free 0 :: AObj.box 73 (loopC s.ori v) :: st)
    (fun c hc => by
      simp only [loopC, List.mem_append, List.mem_cons, List.not_mem_nil, or_false] at hc
      rcases hc with hc | rfl
      · exact (oriC_plain _ c hc).1 _
      · exact v2.strip)
    (fun c hc => by
      simp only [loopC, List.mem_append, List.mem_cons, List.not_mem_nil, or_false] at hc
      rcases hc with hc | rfl
      · exact (oriC_plain _ c hc).2.1 _
      · exact v2.closed (by rw [← keys_app]; exact closed_keys _ _))
    (by rw [trunc_at4]; exact hs) (by simp only [List.length_cons]; omega)
  rw [trunc_at4] at this
  exact this

theorem LoopL.strip {s : Lp} {cs : List AV} (h : LoopL s cs) : LoopL s (cs.map AV.strip) := by
  obtain ⟨h1, a, rfl, h3⟩ := h
  refine ⟨h1, a.strip, ?_, h3.strip1⟩
  simp only [loopC, List.map_append, oriC_strip]
  rfl
def noOri7 : Ori := ⟨-7, 0, List.replicate 8 ⟨0, 0, []⟩⟩
def moreL : List AV := loopC noOri7 .nils
theorem moreL_r : LoopR ⟨noOri7, []⟩ moreL := ⟨rfl, .nils, rfl, .nil, fun _ => rfl⟩
theorem moreL_c : cellsV 26 (AV.agg [AV.int IntKind.i64 (-7), AV.int IntKind.i64 0, AV.int IntKind.i64 0, AV.int IntKind.i64 0, AV.str [], AV.int IntKind.i64 0, AV.int IntKind.i64 0, AV.str [], AV.int IntKind.i64 0, AV.int IntKind.i64 0, AV.str [], AV.int IntKind.i64 0, AV.int IntKind.i64 0, AV.str [], AV.int IntKind.i64 0, AV.int IntKind.i64 0, AV.str [], AV.int IntKind.i64 0, AV.int IntKind.i64 0, AV.str [], AV.int IntKind.i64 0, AV.int IntKind.i64 0, AV.str [], AV.int IntKind.i64 0, AV.int IntKind.i64 0, AV.str []]) = some (oriC noOri7) := rfl
theorem moreL_s : setAt [AV.int IntKind.i64 0, AV.int IntKind.i64 0, AV.int IntKind.i64 0, AV.int IntKind.i64 0, AV.str [], AV.int IntKind.i64 0, AV.int IntKind.i64 0, AV.str [], AV.int IntKind.i64 0, AV.int IntKind.i64 0, AV.str [], AV.int IntKind.i64 0, AV.int IntKind.i64 0, AV.str [], AV.int IntKind.i64 0, AV.int IntKind.i64 0, AV.str [], AV.int IntKind.i64 0, AV.int IntKind.i64 0, AV.str [], AV.int IntKind.i64 0, AV.int IntKind.i64 0, AV.str [], AV.int IntKind.i64 0, AV.int IntKind.i64 0, AV.str [], AV.nils] 0 (oriC noOri7) = some moreL := rfl
theorem lendLoops_loop {st : St} (hs : Cl st) {a : AV} {ss : List Lp} {rows : List (List AV)} (hA : Sl 27 a rows) (hE : Each LoopR ss rows) (hl : ss.length < 10000000) (hla : ∀ s ∈ ss, s.ks.length < 10000000) : ∀ (d i : Nat), i + d = ss.length → ∀ (v : AV) (S : St) (out : List (List AV)), Each LoopL (ss.take i) out → Acc 27 st.length S v out → S.trunc st.length = st → Cl S →
    ∃ v' out', aw 24 st.length p24_0 ⟨[(0, a), (3, v), (4, .int .i64 (i : Int))], []⟩ S = some (.ret v', st) ∧ Lent 27 v' out' [moreL, moreL] ∧ Each LoopL ss out' := by
  intro d
  induction d with
  | zero =>
    intro i hi v S out hO hM ht hc
    rw [List.take_of_length_le (by omega)] at hO
    have hol : out.length = ss.length := hO.1.symm
    obtain ⟨v', h1, h2⟩ := lend_end (bytes := 296) (n := 2) (extra := [moreL, moreL]) (a := a) hM (by rw [hA.len, ← hE.1, hol]) ht hs rfl (by omega) (by simp [roomA]; omega) (by simp [roomA]; omega) (fun m => by
      refine closedss_get fun j r hj => ?_
      rcases List.mem_append.1 (List.mem_of_getElem? hj) with hm | hm
      · obtain ⟨k, hk⟩ := List.getElem?_of_mem hm
        have hkl := (List.getElem?_eq_some_iff.1 hk).1
        exact (hO.2 k _ r (List.getElem?_eq_getElem (by omega)) hk).r.closed m
      · simp at hm; subst hm; exact moreL_r.closed m)
    refine ⟨v', out, F24_0 _ _ _ _ _ ?_, h2, hO⟩
    rw [lnR (st := []) hA.rd hE, if_neg (by simp; omega)]
    simp only [moreL_c, moreL_s, Option.bind_some, cells_agg moreL_r.len]
    exact h1
  | succ d ih =>
    intro i hi v S out hO hM ht hc
    have gs : ss[i]? = some (ss[i]'(by omega)) := List.getElem?_eq_getElem _
    have hsa := hla _ (List.getElem_mem (show i < ss.length by omega))
    generalize ss[i]'(by omega) = s at gs hsa
    obtain ⟨r, hr, hrd⟩ := rdR (R := AOut × St) (st := S) hA.rd hE (fun x r h => h.len) gs
    obtain ⟨cs', c1, c2⟩ := lendLoop_run S hc hr hsa
    have hol : out.length = i := by have := hO.1; simp at this; omega
    obtain ⟨v2, y, q1, q2⟩ := hM.app (x := .sl 27 [cs'.map AV.strip] 0 1 .exact) (new := [cs'.map AV.strip]) (bytes := 296) rfl (by simp [roomA]; omega) (by simp [roomA]; omega)
    have hnext : Each LoopL (ss.take (i + 1)) (out ++ [cs'.map AV.strip]) := by
      rw [List.take_add_one, gs]
      exact hO.snoc c2.strip
    obtain ⟨v', out', h1, h2, h3⟩ := ih (i + 1) (by omega) v2 (S.put st.length y) _ hnext q2 (by rw [St.trunc_put (Nat.le_refl _)]; exact ht) (q2.clp hc)
    refine ⟨v', out', F24_0 _ _ _ _ _ ?_, h2, h3⟩
    have e1 : IntKind.i64.wrap ((i : Int) + 1) = ((i + 1 : Nat) : Int) := by rw [i64_in _ (by omega)]; rfl
    rw [lnR (st := []) hA.rd hE, if_pos (by simp; omega), hrd, c1]
    simp only [callB_ret, cells_agg c2.r.len, Option.bind_some, Nat.add_zero, q1, bind2_some, e1, h1]
theorem lendLoops_run (st : St) (hs : Cl st) {a : AV} {ss : List Lp} {rows : List (List AV)} (hA : Sl 27 a rows) (hE : Each LoopR ss rows) (hl : ss.length < 10000000) (hla : ∀ s ∈ ss, s.ks.length < 10000000) :
    ∃ v' out', cw 24 [a] st = some (.ret v', st) ∧ Lent 27 v' out' [moreL, moreL] ∧ Each LoopL ss out' := by
  obtain ⟨v', out', h1, h2, h3⟩ := lendLoops_loop hs hA hE hl hla ss.length 0 (by omega) .nils (.free 0 :: st) [] ⟨rfl, by simp⟩ (.inl ⟨rfl, rfl, 0, St.get_top _ _⟩) (St.trunc_cons _ _) hs.free
  exact ⟨v', out', F24 _ _ h1, h2, h3⟩

theorem sameLoop_refl {st : St} (hs : Cl st) {s : Lp} {cs ds : List AV} (h : LoopR s cs) (h' : LoopR s ds) (hl : s.ks.length < 10000000) : cw 52 [.agg cs, .agg ds] st = some (.ret (.bool true), st) := by
  have l1 := h.len
  have l2 := h'.len
  obtain ⟨ho, a, rfl, hA, hac⟩ := h
  obtain ⟨_, b, rfl, hB, hbc⟩ := h'
  refine F52 _ _ _ ?_
  have g1 : St.get (AObj.free 0 :: AObj.box 73 (loopC s.ori b) :: AObj.free 0 :: AObj.box 73 (loopC s.ori a) :: st) st.length = some (.box 73 (loopC s.ori a)) := get_at4 rfl
  have g2 : St.get (AObj.free 0 :: AObj.box 73 (loopC s.ori b) :: AObj.free 0 :: AObj.box 73 (loopC s.ori a) :: st) (AObj.free 0 :: AObj.box 73 (loopC s.ori a) :: st).length = some (.box 73 (loopC s.ori b)) := get_at2 rfl
  rw [cells_agg l1, Option.bind_some, cells_agg l2, Option.bind_some]
  simp only [box_read g1, box_read g2, lp_ori ho, lp_keys ho, Option.bind_some, binA_ori ho ho, decide_true, boolV_bool, if_true, intV_int, beq_self_eq_true, strV_str, strA, sameKeys_run hA.rd hB.rd (by omega), callB_ret]
  have := outL_plain (n := st.length) (v := .bool true) (st := AObj.free 0 :: AObj.box 73 (loopC s.ori b) :: AObj.free 0 :: AObj.box 73 (loopC s.ori a) :: st) rfl rfl (by rw [trunc_at4]; exact hs) (by simp only [List.length_cons]; omega)
  rw [trunc_at4] at this
  exact this
theorem keptLoop_run {st : St} (hs : Cl st) {s : Lp} {cs ds : List AV} (h : LoopL s cs) (h' : LoopR s ds) (hl : s.ks.length < 10000000) : cw 53 [.agg cs, .agg ds] st = some (.ret (.bool true), st) := by
  have l1 := h.r.len
  have l2 := h'.len
  obtain ⟨ho, a, rfl, hA⟩ := h
  obtain ⟨_, b, rfl, hB, hbc⟩ := h'
  refine F53 _ _ _ ?_
  have g1 : St.get (AObj.free 0 :: AObj.box 73 (loopC s.ori b) :: AObj.free 0 :: AObj.box 73 (loopC s.ori a) :: st) st.length = some (.box 73 (loopC s.ori a)) := get_at4 rfl
  have g2 : St.get (AObj.free 0 :: AObj.box 73 (loopC s.ori b) :: AObj.free 0 :: AObj.box 73 (loopC s.ori a) :: st) (AObj.free 0 :: AObj.box 73 (loopC s.ori a) :: st).length = some (.box 73 (loopC s.ori b)) := get_at2 rfl
  rw [cells_agg l1, Option.bind_some, cells_agg l2, Option.bind_some]
  simp only [box_read g1, box_read g2, lp_ori ho, lp_keys ho, Option.bind_some, binA_ori ho ho, decide_true, boolV_bool, if_true, intV_int, beq_self_eq_true, strV_str, strA, keptKeys_run hA hB.rd (by omega), callB_ret]
  have := outL_plain (n := st.length) (v := .bool true) (st := AObj.free 0 :: AObj.box 73 (loopC s.ori b) :: AObj.free 0 :: AObj.box 73 (loopC s.ori a) :: st) rfl rfl (by rw [trunc_at4]; exact hs) (by simp only [List.length_cons]; omega)
  rw [trunc_at4] at this
  exact this
theorem keptLoops_loop {st : St} (hs : Cl st) {v a : AV} {ss : List Lp} {out rows : List (List AV)} (hV : Sl 27 v out) (hO : Each LoopL ss out) (hA : Sl 27 a rows) (hE : Each LoopR ss rows) (hl : ss.length < 10000000) (hla : ∀ s ∈ ss, s.ks.length < 10000000) : ∀ (d i : Nat), i + d = ss.length →
    aw 30 st.length p30_0 ⟨[(0, v), (1, a), (6, .int .i64 (i : Int))], []⟩ st = some (.ret (.bool true), st) := by
  intro d
  induction d with
  | zero =>
    intro i hi
    refine F30_0 _ _ _ _ _ ?_
    rw [lnR (st := []) hA.rd hE, if_neg (by simp; omega)]
    simp
  | succ d ih =>
    intro i hi
    have gs : ss[i]? = some (ss[i]'(by omega)) := List.getElem?_eq_getElem _
    have hsa := hla _ (List.getElem_mem (show i < ss.length by omega))
    generalize ss[i]'(by omega) = s at gs hsa
    obtain ⟨r, hr, hrd⟩ := rdR (R := AOut × St) (st := st) hA.rd hE (fun x r h => h.len) gs
    obtain ⟨q, hq, hqd⟩ := rdR (R := AOut × St) (st := st) hV.rd hO (fun x r h => h.r.len) gs
    have e1 : IntKind.i64.wrap ((i : Int) + 1) = ((i + 1 : Nat) : Int) := by rw [i64_in _ (by omega)]; rfl
    refine F30_0 _ _ _ _ _ ?_
    rw [lnR (st := []) hA.rd hE, if_pos (by simp; omega), hqd, hrd, keptLoop_run hs hq hr hsa]
    simp only [callB_ret, boolV_bool, Option.bind_some, Bool.not_true, Bool.false_eq_true, if_false, e1]
    exact ih (i + 1) (by omega)
theorem keptLoops_run {st : St} (hs : Cl st) {v a : AV} {ss : List Lp} {out rows : List (List AV)} (hV : Lent 27 v out [moreL, moreL]) (hO : Each LoopL ss out) (hA : Sl 27 a rows) (hE : Each LoopR ss rows) (hl : ss.length < 10000000) (hla : ∀ s ∈ ss, s.ks.length < 10000000) :
    cw 30 [v, a] st = some (.ret (.bool true), st) := by
  obtain ⟨v', h1, h2⟩ := hV.behind (n := 2) rfl st
  have hol : out.length = ss.length := hO.1.symm
  rw [hol] at h1
  have e : IntKind.i64.wrap ((ss.length : Int) + 2) = ((ss.length + 2 : Nat) : Int) := by rw [i64_in _ (by omega)]; rfl
  have e1 : IntKind.i64.wrap ((ss.length : Int) + 1) = ((ss.length + 1 : Nat) : Int) := by rw [i64_in _ (by omega)]; rfl
  have m1 : (out ++ [moreL, moreL])[ss.length]? = some moreL := by rw [List.getElem?_append_right (by omega), hol]; simp
  have m2 : (out ++ [moreL, moreL])[ss.length + 1]? = some moreL := by rw [List.getElem?_append_right (by omega), hol]; simp
  refine F30 _ _ _ ?_
  simp only [moreL_c, moreL_s, Option.bind_some]
  rw [lnR (st := []) hV.sl.rd hO, e, h1, Option.bind_some, lnR (st := []) hV.sl.rd hO, lnR (st := []) hA.rd hE, if_neg (by simp), lnR (st := []) hA.rd hE]
  rw [h2.rd.agg m1 moreL_r.len, sameLoop_refl hs moreL_r moreL_r (by decide)]
  simp only [callB_ret, boolV_bool, Option.bind_some, Bool.not_true, Bool.false_eq_true, if_false]
  rw [lnR (st := []) hA.rd hE, e1, h2.rd.agg m2 moreL_r.len, sameLoop_refl hs moreL_r moreL_r (by decide)]
  simp only [callB_ret, boolV_bool, Option.bind_some, Bool.not_true, Bool.false_eq_true, if_false]
  exact keptLoops_loop hs hV.sl hO hA hE hl hla ss.length 0 (by omega)
end Go.Abs
