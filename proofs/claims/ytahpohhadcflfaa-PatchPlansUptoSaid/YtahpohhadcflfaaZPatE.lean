/- Renderings by value: loops, made. -/
import Derived.Test.YtahpohhadcflfaaZPatD
namespace Go.Abs
open Go Go.Proofs Go.Proofs.Ytahpohhadcflfaa.LisMath Go.RowKit Go.IntWalk
set_option linter.unusedVariables false
set_option linter.unusedSimpArgs false

theorem loop_run {st : St} (hcl : Cl st) {o m1 m2 : Nat} {a b : AV} {ss : List Lp} {rows : List (List AV)} (hB : Sl 27 b rows) (hE : Each LoopR ss rows) (hl : ss.length < 10000000) (hla : ∀ s ∈ ss, s.ks.length < 10000000)
    (hbox : st.get o = some (.box 79 [a, b, .mp m1, .mp m2])) (hok : ∀ s ∈ ss, s.ori.ok) {i : Nat} {s : Lp} (gs : ss[i]? = some s) (hm : st.get m2 = some (.amap (oents (loris (ss.take i)) 0))) :
    ∃ (t : Bool) (es : List (AV × AV)), cw 59 [.bp o 0, .int .i64 (i : Int)] st = some (.ret (.bool t), st.put m2 (.amap es)) ∧ (∀ n, (es.all fun p => AV.closed n p.1 && AV.closed n p.2) = true) ∧ (t = true ↔ LoopOk (ss.take i) s) ∧ (t = true → es = oents (loris (ss.take (i + 1))) 0) := by
  have hil := (List.getElem?_eq_some_iff.1 gs).1
  have hoks : OksO (loris (ss.take i)) := fun q hq => by
    obtain ⟨z, hz, rfl⟩ := List.mem_map.1 hq
    exact hok z (List.mem_of_mem_take hz)
  obtain ⟨r, ⟨ho, c, rfl, hC, hcc⟩, hrd⟩ := ixR hB hE gs
  have hal := hla s (List.mem_of_getElem? gs)
  obtain ⟨es, u1, u2, u3⟩ := oupdate_ok hm hoks ho (i := i) (by simp [loris]; omega)
  have hc1 : Cl (st.put m2 (.amap es)) := hcl.put (u2 _)
  have hf : cw 66 [.ip (loopC s.ori c) 0] (st.put m2 (.amap es)) = some (.ret (.bool (formed s.ori)), st.put m2 (.amap es)) := formed_run _ ho _
  have hmv := moves_run (st.put m2 (.amap es)) hc1 hC (hcc _) (b := .nils) (nw := []) .nil rfl (by omega) (by simp)
  have q1 : readRow [a, b, AV.mp m1, AV.mp m2] 1 1 false = some b := rfl
  have q3 : readRow [a, b, AV.mp m1, AV.mp m2] 3 1 false = some (.mp m2) := rfl
  have hko : (moved s.ks []).2.2 = 0 ↔ s.ks.Nodup := by
    unfold moved
    by_cases h : s.ks.Nodup <;> simp [h]
  have main : cw 59 [.bp o 0, .int .i64 (i : Int)] st = some (.ret (.bool (formed s.ori && (!(place s.ori (loris (ss.take i))).isSome && ((moved s.ks []).2.2 == 0)))), st.put m2 (.amap es)) := by
    refine F59 _ _ _ ?_
    simp only [nilCheckA_bp, ptrAdd_bp, nilCheckA_ip, ptrAdd_ip, readA_ip, Option.bind_some, Nat.zero_add, Nat.add_zero, box_read hbox, q1, q3, hrd, lp_keys ho, lp_ori ho, olookup_ok hm hoks ho, extractA_tup, List.getElem?_cons_zero, List.getElem?_cons_succ, boolV_bool, u1, hmv, res3, callB_ret, intV_int, hf]
    cases place s.ori (loris (ss.take i)) with
    | none =>
      simp only [intV_int, Option.bind_some, Option.isSome_none, Bool.not_false, if_true, Bool.true_and]
      cases formed s.ori
      · simp only [Bool.false_eq_true, if_false, Bool.false_and]; exact outL_len (by simp) _ _
      · simp only [if_true, Bool.true_and]; exact outL_len (by simp) _ _
    | some j =>
      simp only [intV_int, Option.bind_some, Option.isSome_some, Bool.not_true, Bool.false_eq_true, if_false, Bool.false_and, Bool.and_false]
      cases formed s.ori
      · simp only [Bool.false_eq_true, if_false]; exact outL_len (by simp) _ _
      · simp only [if_true]; exact outL_len (by simp) _ _
  refine ⟨_, es, main, u2, ?_, fun ht => ?_⟩
  · simp only [Bool.and_eq_true, beq_iff_eq, hko, Bool.not_eq_true']
    constructor
    · rintro ⟨h1, h2, h3⟩
      refine ⟨h1, h3, place_none.1 ?_⟩
      cases hp : place s.ori (loris (ss.take i)) with
      | none => rfl
      | some j => rw [hp] at h2; cases h2
    · intro h
      exact ⟨h.form, by rw [place_none.2 h.new]; rfl, h.once⟩
  · have hp : place s.ori (loris (ss.take i)) = none := by
      cases hp : place s.ori (loris (ss.take i)) with
      | none => rfl
      | some j => rw [hp] at ht; simp at ht
    rw [u3 hp, take_snoc gs, loris, loris, List.map_append]
    rfl

/-! ### A rendering -/
structure Ren (st : St) (o : Nat) (a b : AV) (m1 m2 : Nat) (xs ys : List Ori) : Prop where
  box : st.get o = some (.box 79 [a, b, .mp m1, .mp m2])
  p1 : st.get m1 = some (.amap (oents xs 0))
  p2 : st.get m2 = some (.amap (oents ys 0))
theorem Ren.up {st S : St} {o m1 m2 : Nat} {a b : AV} {xs ys : List Ori} (h : Ren st o a b m1 m2 xs ys) (hu : Up st S) : Ren S o a b m1 m2 xs ys := ⟨hu.get h.box, hu.get h.p1, hu.get h.p2⟩
theorem Ren.put {st : St} {o m1 m2 t : Nat} {a b : AV} {xs ys : List Ori} {x : AObj} (h : Ren st o a b m1 m2 xs ys) (h1 : o ≠ t) (h2 : m1 ≠ t) (h3 : m2 ≠ t) : Ren (st.put t x) o a b m1 m2 xs ys :=
  ⟨by rw [St.get_put_other h1]; exact h.box, by rw [St.get_put_other h2]; exact h.p1, by rw [St.get_put_other h3]; exact h.p2⟩
section
variable {st : St} {a b : AV} {ss : List Spot} {rows : List (List AV)} {ls : List Lp} {lows : List (List AV)}
theorem okAll {i : Nat} (h : ∀ j s, j < i → ss[j]? = some s → SpotOk (ss.take j) s) (hi : ss.length ≤ i) : SpotsOk ss := fun j s hj => h j s (by have := (List.getElem?_eq_some_iff.1 hj).1; omega) hj
theorem made_loops (hcl : Cl st) (hB : Sl 27 b lows) (hF : Each LoopR ls lows) (hl : ls.length < 10000000) (hla : ∀ s ∈ ls, s.ks.length < 10000000) (hok : ∀ s ∈ ls, s.ori.ok) {o m1 m2 : Nat} {xs : List Ori} (base : Nat) (hbl : st.length ≤ m2) : ∀ (d i : Nat), i + d = ls.length →
    ∀ S, Up st S → Cl S → Ren S o a b m1 m2 xs (loris (ls.take i)) → (∀ j s, j < i → ls[j]? = some s → LoopOk (ls.take j) s) → m1 ≠ m2 →
    ∃ r S', aw 40 base p40_1 ⟨[(5, .bp o 0), (25, .int .i64 (ls.length : Int)), (26, .int .i64 (i : Int))], []⟩ S = some (.ret r, S') ∧ Up st S' ∧ Cl S' ∧ S'.length = S.length ∧
      ((LoopsOk ls ∧ r = .bp o 0 ∧ Ren S' o a b m1 m2 xs (loris ls)) ∨ (¬ LoopsOk ls ∧ r = .nilp)) := by
  intro d
  induction d with
  | zero =>
    intro i hi S hU hC hR hG hm
    refine ⟨.bp o 0, S, F40_1 _ _ _ _ _ ?_, hU, hC, rfl, .inl ⟨fun j s hj => hG j s (by have := (List.getElem?_eq_some_iff.1 hj).1; omega) hj, rfl, by rw [List.take_of_length_le (by omega)] at hR; exact hR⟩⟩
    rw [if_neg (by simp; omega), outL_true]
  | succ d ih =>
    intro i hi S hU hC hR hG hm
    have gs : ls[i]? = some (ls[i]'(by omega)) := List.getElem?_eq_getElem _
    generalize ls[i]'(by omega) = s at gs
    obtain ⟨t, es, h1, h2, h3, h4⟩ := loop_run hC hB hF hl hla hR.box hok gs hR.p2
    have hU' : Up st (S.put m2 (.amap es)) := hU.put hbl _
    have hC' : Cl (S.put m2 (.amap es)) := hC.put (h2 _)
    cases t with
    | false =>
      refine ⟨.nilp, _, F40_1 _ _ _ _ _ ?_, hU', hC', by simp, .inr ⟨fun h => ?_, rfl⟩⟩
      · rw [if_pos (by simp; omega), h1]
        simp
      · have := h3.2 (h i s gs)
        cases this
    | true =>
      have hR' : Ren (S.put m2 (.amap es)) o a b m1 m2 xs (loris (ls.take (i + 1))) :=
        ⟨by rw [St.get_put_other (AObj.amap_ne hR.box hR.p2)]; exact hR.box, by rw [St.get_put_other hm]; exact hR.p1, by rw [St.get_put_same (St.get_lt hR.p2), h4 rfl]⟩
      obtain ⟨r, S', q1, q2, q3, q4, q5⟩ := ih (i + 1) (by omega) _ hU' hC' hR' (fun j z hj hz => by
        by_cases hji : j = i
        · subst hji; rw [gs] at hz; cases hz; exact h3.1 rfl
        · exact hG j z (by omega) hz) hm
      refine ⟨r, S', F40_1 _ _ _ _ _ ?_, q2, q3, by simpa using q4, q5⟩
      rw [if_pos (by simp; omega), h1]
      simp only [callB_ret, boolV_bool, Option.bind_some, Bool.not_true, Bool.false_eq_true, if_false, e1i (show i < 1000000000000 by omega)]
      exact q1
theorem made_spots (hcl : Cl st) (hA : Sl 30 a rows) (hE : Each SpotR ss rows) (hl : ss.length < 10000000) (hla : ∀ s ∈ ss, s.attrs.length < 10000000) (hok : ∀ s ∈ ss, s.ori.ok)
    (hB : Sl 27 b lows) (hF : Each LoopR ls lows) (hl' : ls.length < 10000000) (hla' : ∀ s ∈ ls, s.ks.length < 10000000) (hok' : ∀ s ∈ ls, s.ori.ok) {o m1 m2 : Nat} (base : Nat) (hbl1 : st.length ≤ m1) (hbl : st.length ≤ m2) : ∀ (d i : Nat), i + d = ss.length →
    ∀ S, Up st S → Cl S → Ren S o a b m1 m2 (oris (ss.take i)) [] → (∀ j s, j < i → ss[j]? = some s → SpotOk (ss.take j) s) → m1 ≠ m2 →
    ∃ r S', aw 40 base p40_0 ⟨[(1, b), (5, .bp o 0), (15, .int .i64 (ss.length : Int)), (16, .int .i64 (i : Int))], []⟩ S = some (.ret r, S') ∧ Up st S' ∧ Cl S' ∧ S'.length = S.length ∧
      ((SpotsOk ss ∧ LoopsOk ls ∧ r = .bp o 0 ∧ Ren S' o a b m1 m2 (oris ss) (loris ls)) ∨ (¬ (SpotsOk ss ∧ LoopsOk ls) ∧ r = .nilp)) := by
  intro d
  induction d with
  | zero =>
    intro i hi S hU hC hR hG hm
    have hS : SpotsOk ss := okAll hG (by omega)
    rw [List.take_of_length_le (by omega)] at hR
    obtain ⟨r, S', q1, q2, q3, q4, q5⟩ := made_loops hcl hB hF hl' hla' hok' base hbl ls.length 0 (by omega) S hU hC hR (fun j _ hj => by omega) hm
    refine ⟨r, S', F40_0 _ _ _ _ _ _ ?_, q2, q3, q4, ?_⟩
    · rw [if_neg (by simp; omega), lnR (st := []) hB.rd hF]
      exact q1
    · rcases q5 with ⟨h1, h2, h3⟩ | ⟨h1, h2⟩
      · exact .inl ⟨hS, h1, h2, h3⟩
      · exact .inr ⟨fun h => h1 h.2, h2⟩
  | succ d ih =>
    intro i hi S hU hC hR hG hm
    have gs : ss[i]? = some (ss[i]'(by omega)) := List.getElem?_eq_getElem _
    generalize ss[i]'(by omega) = s at gs
    obtain ⟨t, es, h1, h2, h3, h4⟩ := spot_run hA hE hl hla hR.box hok gs hR.p1
    have hU' : Up st (S.put m1 (.amap es)) := hU.put hbl1 _
    have hC' : Cl (S.put m1 (.amap es)) := hC.put (h2 _)
    cases t with
    | false =>
      refine ⟨.nilp, _, F40_0 _ _ _ _ _ _ ?_, hU', hC', by simp, .inr ⟨fun h => ?_, rfl⟩⟩
      · rw [if_pos (by simp; omega), h1]
        simp
      · have := h3.2 (h.1 i s gs)
        cases this
    | true =>
      have hR' : Ren (S.put m1 (.amap es)) o a b m1 m2 (oris (ss.take (i + 1))) [] :=
        ⟨by rw [St.get_put_other (AObj.amap_ne hR.box hR.p1)]; exact hR.box, by rw [St.get_put_same (St.get_lt hR.p1), h4 rfl], by rw [St.get_put_other (Ne.symm hm)]; exact hR.p2⟩
      obtain ⟨r, S', q1, q2, q3, q4, q5⟩ := ih (i + 1) (by omega) _ hU' hC' hR' (fun j z hj hz => by
        by_cases hji : j = i
        · subst hji; rw [gs] at hz; cases hz; exact h3.1 rfl
        · exact hG j z (by omega) hz) hm
      refine ⟨r, S', F40_0 _ _ _ _ _ _ ?_, q2, q3, by simpa using q4, q5⟩
      rw [if_pos (by simp; omega), h1]
      simp only [callB_ret, boolV_bool, Option.bind_some, Bool.not_true, Bool.false_eq_true, if_false, e1i (show i < 1000000000000 by omega)]
      exact q1
theorem made_run (hcl : Cl st) (hA : Sl 30 a rows) (hE : Each SpotR ss rows) (hl : ss.length < 10000000) (hla : ∀ s ∈ ss, s.attrs.length < 10000000) (hok : ∀ s ∈ ss, s.ori.ok)
    (hB : Sl 27 b lows) (hF : Each LoopR ls lows) (hl' : ls.length < 10000000) (hla' : ∀ s ∈ ls, s.ks.length < 10000000) (hok' : ∀ s ∈ ls, s.ori.ok) (hac : AV.closed st.length a = true) (hbc : AV.closed st.length b = true) :
    ∃ r S', cw 40 [a, b] st = some (.ret r, S') ∧ Up st S' ∧ Cl S' ∧
      ((SpotsOk ss ∧ LoopsOk ls ∧ ∃ o m1 m2, r = .bp o 0 ∧ Ren S' o a b m1 m2 (oris ss) (loris ls)) ∨ (¬ (SpotsOk ss ∧ LoopsOk ls) ∧ r = .nilp)) := by
  have hU : Up st (AObj.free 0 :: AObj.free 0 :: AObj.box 79 [a, b, .mp st.length, .mp (AObj.amap [] :: st).length] :: AObj.amap [] :: AObj.amap [] :: st) := ((((Up.cons _ st).push _).push _).push _).push _
  have hbx : AObj.closed ((AObj.amap [] :: AObj.amap [] :: st).length + 1) (.box 79 [a, b, .mp st.length, .mp (AObj.amap [] :: st).length]) = true := by
    have k1 := AV.closed_mono (n := st.length) (m := (AObj.amap [] :: AObj.amap [] :: st).length + 1) (by simp only [List.length_cons]; omega) a hac
    have k2 := AV.closed_mono (n := st.length) (m := (AObj.amap [] :: AObj.amap [] :: st).length + 1) (by simp only [List.length_cons]; omega) b hbc
    simp only [AObj.closed, AV.closeds, k1, k2, AV.closed, List.length_cons, Bool.true_and, Bool.and_true, Bool.and_eq_true, decide_eq_true_eq]
    exact ⟨k1, k2, by omega, by omega⟩
  have hC : Cl (AObj.free 0 :: AObj.free 0 :: AObj.box 79 [a, b, .mp st.length, .mp (AObj.amap [] :: st).length] :: AObj.amap [] :: AObj.amap [] :: st) := ((((hcl.cons (x := .amap []) rfl).cons (x := .amap []) rfl).cons hbx).free).free
  have hR : Ren (AObj.free 0 :: AObj.free 0 :: AObj.box 79 [a, b, .mp st.length, .mp (AObj.amap [] :: st).length] :: AObj.amap [] :: AObj.amap [] :: st) (AObj.amap [] :: AObj.amap [] :: st).length a b st.length (AObj.amap [] :: st).length (oris (ss.take 0)) [] := by
    refine ⟨get_at3 rfl, ?_, get_at4 rfl⟩
    rw [St.get_under (by simp only [List.length_cons]; omega)]
    exact get_at4 rfl
  obtain ⟨r, S', q1, q2, q3, _, q5⟩ := made_spots hcl hA hE hl hla hok hB hF hl' hla' hok' st.length (Nat.le_refl _) (by simp) ss.length 0 (by omega) _ hU hC hR (fun j _ hj => by omega) (by simp)
  refine ⟨r, S', F40 _ _ _ ?_, q2, q3, ?_⟩
  · rw [hA.cell1, Option.bind_some, hB.cell1, Option.bind_some, cells_agg (n := 4) rfl, Option.bind_some, lnR (st := []) hA.rd hE]
    exact q1
  · rcases q5 with ⟨h1, h2, h3, h4⟩ | ⟨h1, h2⟩
    · exact .inl ⟨h1, h2, _, _, _, h3, h4⟩
    · exact .inr ⟨h1, h2⟩
end
end Go.Abs
