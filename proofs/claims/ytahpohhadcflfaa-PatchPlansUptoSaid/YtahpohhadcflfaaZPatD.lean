/- Renderings by value: a spot, a loop, a whole. -/
import Derived.Test.YtahpohhadcflfaaZPatC
namespace Go.Abs
open Go Go.Proofs Go.Proofs.Ytahpohhadcflfaa.LisMath Go.RowKit Go.IntWalk
set_option linter.unusedVariables false
set_option linter.unusedSimpArgs false

/-! ### Objects on top of others -/
structure Up (st S : St) : Prop where
  low : S.trunc st.length = st
  len : st.length ≤ S.length
theorem Up.refl (st : St) : Up st st := ⟨St.trunc_self st, Nat.le_refl _⟩
theorem St.trunc_trunc {S : St} {n m : Nat} (h : n ≤ m) : (S.trunc m).trunc n = S.trunc n := by
  unfold St.trunc
  rw [List.drop_drop]
  simp only [List.length_drop]
  congr 1
  omega
theorem Up.trans {a b c : St} (h1 : Up a b) (h2 : Up b c) : Up a c := ⟨by rw [← St.trunc_trunc h1.len, h2.low, h1.low], Nat.le_trans h1.len h2.len⟩
theorem Up.cons (x : AObj) (st : St) : Up st (x :: st) := ⟨St.trunc_cons x st, by simp⟩
theorem Up.push {st S : St} (h : Up st S) (x : AObj) : Up st (x :: S) := h.trans (Up.cons x S)
theorem Up.put {st S : St} (h : Up st S) {t : Nat} (ht : st.length ≤ t) (x : AObj) : Up st (S.put t x) := ⟨by rw [St.trunc_put ht, h.low], by simpa using h.len⟩
theorem Up.app {st S : St} (h : Up st S) : ∃ js, S = js ++ st := by
  have := h.low
  unfold St.trunc at this
  exact ⟨S.take (S.length - st.length), by conv => lhs; rw [← List.take_append_drop (S.length - st.length) S, this]⟩
theorem St.get_app {js st : St} {o : Nat} (h : o < st.length) : St.get (js ++ st) o = St.get st o := by
  induction js with
  | nil => rfl
  | cons x js ih => rw [List.cons_append, St.get_under (by rw [List.length_append]; omega), ih]
theorem Up.get {st S : St} (h : Up st S) {o : Nat} {x : AObj} (hg : st.get o = some x) : S.get o = some x := by
  obtain ⟨js, rfl⟩ := h.app
  rw [St.get_app (St.get_lt hg)]; exact hg
theorem St.get_put_other {st : St} {o t : Nat} {x : AObj} (h : o ≠ t) : St.get (st.put t x) o = st.get o := by
  unfold St.get St.put
  by_cases ht : t < st.length
  · rw [if_pos ht, List.length_set]
    by_cases ho : o < st.length
    · rw [if_pos ho, if_pos ho, List.getElem?_set_ne (by omega)]
    · rw [if_neg ho, if_neg ho]
  · rw [if_neg ht]
theorem AObj.amap_ne {st : St} {o m : Nat} {ty : TypeId} {row : List AV} {es : List (AV × AV)} (h1 : st.get o = some (.box ty row)) (h2 : st.get m = some (.amap es)) : o ≠ m := fun e => by subst e; rw [h1] at h2; cases h2

/-! ### Names that rise -/
section
theorem rise58 {st : St} {o : Ori} (ho : o.ok) (p : Int) (t x : List UInt8) {b : AV} {l : List Attr} (hB : Sl 2 b (attrs l)) (hl : l.length < 10000000) (r0 : AV) (i1 : Int) (R : AOut × St) : ∀ (d k : Nat), 1 ≤ k → l.length ≤ k + d →
    (¬ RiseF l k → R = (.ret (.bool false), st)) → (RiseF l k → ∀ k : Nat, l.length ≤ k → aw 58 st.length p58_0 ⟨[(0, r0), (1, .int .i64 i1), (5, .ip (spotC o p t x b) 0), (6, .int .i64 (k : Int))], []⟩ st = some R) →
    aw 58 st.length p58_0 ⟨[(0, r0), (1, .int .i64 i1), (5, .ip (spotC o p t x b) 0), (6, .int .i64 (k : Int))], []⟩ st = some R := by
  intro d
  induction d with
  | zero =>
    intro k hk hd h1 h2
    exact h2 (fun j x y hj hx hy => by have := (List.getElem?_eq_some_iff.1 hy).1; omega) k (by omega)
  | succ d ih =>
    intro k hk hd h1 h2
    by_cases hkl : l.length ≤ k
    · exact h2 (fun j x y hj hx hy => by have := (List.getElem?_eq_some_iff.1 hy).1; omega) k hkl
    obtain ⟨m, rfl⟩ : ∃ m, k = m + 1 := ⟨k - 1, by omega⟩
    have gx : l[m]? = some (l[m]'(by omega)) := List.getElem?_eq_getElem _
    have gy : l[m + 1]? = some (l[m + 1]'(by omega)) := List.getElem?_eq_getElem _
    generalize l[m]'(by omega) = x0 at gx
    generalize l[m + 1]'(by omega) = y0 at gy
    refine F58_0 _ _ _ _ _ _ ?_
    have em : IntKind.i64.wrap (((m + 1 : Nat) : Int) - 1) = (m : Int) := by rw [i64_in _ (by omega)]; omega
    have nx : ∀ c : Attr, readRow (attrC c) 0 1 false = some (.str c.name) := fun c => rfl
    simp only [nilCheckA_ip, ptrAdd_ip, readA_ip, Option.bind_some, Nat.zero_add, sp_attrs ho, em, natA_nat, hB.at (attrs_get gx), hB.at (attrs_get gy), nx, strV_str, strA, boolV_bool, e1i (show m + 1 < 1000000000000 by omega)]
    rw [lna (st := []) hB.rd, if_pos (by simp; omega)]
    by_cases hlt : Op.bytesLess x0.name y0.name = true
    · rw [if_neg (by simp [hlt])]
      refine ih (m + 1 + 1) (by omega) (by omega) (fun hn => h1 fun hr => hn fun j a c hj ha hc => hr j a c (by omega) ha hc) fun hr => h2 fun j a c hj ha hc => ?_
      by_cases hjm : j = m
      · subst hjm; rw [gx] at ha; rw [gy] at hc; cases ha; cases hc; exact hlt
      · exact hr j a c (by omega) ha hc
    · rw [if_pos (by simpa using hlt), h1 fun hr => hlt (hr m x0 y0 (by omega) gx gy)]
      simp
theorem spot_run {st : St} {o m1 m2 : Nat} {a b : AV} {ss : List Spot} {rows : List (List AV)} (hA : Sl 30 a rows) (hE : Each SpotR ss rows) (hl : ss.length < 10000000) (hla : ∀ s ∈ ss, s.attrs.length < 10000000)
    (hbox : st.get o = some (.box 79 [a, b, .mp m1, .mp m2])) (hok : ∀ s ∈ ss, s.ori.ok) {i : Nat} {s : Spot} (gs : ss[i]? = some s) (hm : st.get m1 = some (.amap (oents (oris (ss.take i)) 0))) :
    ∃ (t : Bool) (es : List (AV × AV)), cw 58 [.bp o 0, .int .i64 (i : Int)] st = some (.ret (.bool t), st.put m1 (.amap es)) ∧ (∀ n, (es.all fun p => AV.closed n p.1 && AV.closed n p.2) = true) ∧ (t = true ↔ SpotOk (ss.take i) s) ∧ (t = true → es = oents (oris (ss.take (i + 1))) 0) := by
  have hil := (List.getElem?_eq_some_iff.1 gs).1
  have hoks : OksO (oris (ss.take i)) := fun q hq => by
    obtain ⟨z, hz, rfl⟩ := List.mem_map.1 hq
    exact hok z (List.mem_of_mem_take hz)
  obtain ⟨r, ⟨ho, c, rfl, hC, hcc⟩, hrd⟩ := ixR hA hE gs
  have hal := hla s (List.mem_of_getElem? gs)
  have hpl : (ss.take i).length = i := by simp; omega
  have hf : cw 66 [.ip (spotC s.ori s.parent s.tag s.text c) 0] st = some (.ret (.bool (formed s.ori)), st) := formed_run st ho _
  have no : ¬ SpotOk (ss.take i) s → cw 58 [.bp o 0, .int .i64 (i : Int)] st = some (.ret (.bool false), st) →
      ∃ (t : Bool) (es : List (AV × AV)), cw 58 [.bp o 0, .int .i64 (i : Int)] st = some (.ret (.bool t), st.put m1 (.amap es)) ∧ (∀ n, (es.all fun p => AV.closed n p.1 && AV.closed n p.2) = true) ∧ (t = true ↔ SpotOk (ss.take i) s) ∧ (t = true → es = oents (oris (ss.take (i + 1))) 0) :=
    fun h e => ⟨false, _, by rw [St.put_same hm]; exact e, fun n => closed_oents n _ _, by simp [h], by simp⟩
  have q0 : readRow [a, b, AV.mp m1, AV.mp m2] 0 1 false = some a := rfl
  have q2 : readRow [a, b, AV.mp m1, AV.mp m2] 2 1 false = some (.mp m1) := rfl
  have key : ∀ R, _ := fun R => F58 (.bp o 0) (i : Int) st (r := R)
  simp only [nilCheckA_bp, ptrAdd_bp, nilCheckA_ip, ptrAdd_ip, readA_ip, Option.bind_some, Nat.zero_add, Nat.add_zero, box_read hbox, q0, hrd, sp_parent ho, sp_tag ho, sp_text ho, sp_attrs ho, intV_int, strV_str, strA, boolV_bool, hf, callB_ret, outL_same, decide_eq_true_eq, hC.len, attrs_len] at key
  by_cases c1 : s.parent < -1
  · exact no (fun h => by have := h.low; omega) (key _ (by rw [if_pos c1]))
  by_cases c2 : s.parent ≥ (i : Int)
  · exact no (fun h => by have := h.high; omega) (key _ (by rw [if_neg c1, if_pos c2]))
  -- what stands behind the look at the parent
  have rest : ∀ X : Option (AOut × St), (∀ R, (¬ (0 ≤ s.parent) ∨ ∀ p, (ss.take i)[s.parent.toNat]? = some p → p.tag ≠ []) → X = some R → cw 58 [.bp o 0, .int .i64 (i : Int)] st = some R) →
      (X = if (!formed s.ori) = true then some (.ret (.bool false), st) else if (!(s.tag == [])) = true then (if (!(s.text == [])) = true then some (.ret (.bool false), st) else if (s.tag == []) = true then (if (s.attrs.length : Int) > 0 then some (.ret (.bool false), st) else
          aw 58 st.length p58_0 ⟨[(0, .bp o 0), (1, .int .i64 (i : Int)), (5, .ip (spotC s.ori s.parent s.tag s.text c) 0), (6, .int .i64 1)], []⟩ st) else aw 58 st.length p58_0 ⟨[(0, .bp o 0), (1, .int .i64 (i : Int)), (5, .ip (spotC s.ori s.parent s.tag s.text c) 0), (6, .int .i64 1)], []⟩ st)
        else if (s.tag == []) = true then (if (s.attrs.length : Int) > 0 then some (.ret (.bool false), st) else
          aw 58 st.length p58_0 ⟨[(0, .bp o 0), (1, .int .i64 (i : Int)), (5, .ip (spotC s.ori s.parent s.tag s.text c) 0), (6, .int .i64 1)], []⟩ st) else aw 58 st.length p58_0 ⟨[(0, .bp o 0), (1, .int .i64 (i : Int)), (5, .ip (spotC s.ori s.parent s.tag s.text c) 0), (6, .int .i64 1)], []⟩ st) →
      (¬ (0 ≤ s.parent) ∨ ∀ p, (ss.take i)[s.parent.toNat]? = some p → p.tag ≠ []) →
      ∃ (t : Bool) (es : List (AV × AV)), cw 58 [.bp o 0, .int .i64 (i : Int)] st = some (.ret (.bool t), st.put m1 (.amap es)) ∧ (∀ n, (es.all fun p => AV.closed n p.1 && AV.closed n p.2) = true) ∧ (t = true ↔ SpotOk (ss.take i) s) ∧ (t = true → es = oents (oris (ss.take (i + 1))) 0) := by
    intro X hX hE htag
    replace hX := fun R => hX R htag
    subst hE
    by_cases c3' : ¬ formed s.ori = true
    · exact no (fun h => c3' h.form) (hX _ (by rw [if_pos (by simpa using c3')]))
    have c3 := Classical.not_not.1 c3'
    simp only [c3, Bool.not_true, Bool.false_eq_true, if_false] at hX
    by_cases c4 : s.tag ≠ [] ∧ s.text ≠ []
    · have hb : (s.tag == []) = false := by simpa using c4.1
      have hc : (s.text == []) = false := by simpa using c4.2
      exact no (fun h => h.text c4) (hX _ (by simp only [hb, hc, Bool.not_false, if_true]))
    by_cases c5 : s.tag = [] ∧ s.attrs ≠ []
    · have : (s.attrs.length : Int) > 0 := by have := List.length_pos_iff.2 c5.2; omega
      exact no (fun h => h.bare c5) (hX _ (by simp only [c5.1, beq_self_eq_true, Bool.not_true, Bool.false_eq_true, if_false, if_true]; rw [if_pos this]))
    have hX' : ∀ R, aw 58 st.length p58_0 ⟨[(0, .bp o 0), (1, .int .i64 (i : Int)), (5, .ip (spotC s.ori s.parent s.tag s.text c) 0), (6, .int .i64 1)], []⟩ st = some R → cw 58 [.bp o 0, .int .i64 (i : Int)] st = some R := fun R hR => by
      refine hX R ?_
      by_cases ht : s.tag = []
      · have : ¬ (s.attrs.length : Int) > 0 := fun h => c5 ⟨ht, fun e => by rw [e] at h; simp at h⟩
        simp only [ht, beq_self_eq_true, Bool.not_true, Bool.false_eq_true, if_false, if_true, this]
        rw [ht] at hR; exact hR
      · have hx : s.text = [] := Decidable.byContradiction fun h => c4 ⟨ht, h⟩
        have hb : (s.tag == []) = false := by simpa using ht
        simp only [hb, hx, Bool.not_false, Bool.not_true, beq_self_eq_true, Bool.false_eq_true, if_false, if_true]
        rw [hx] at hR; exact hR
    obtain ⟨es, u1, u2, u3⟩ := oupdate_ok hm hoks ho (i := i) (by simp [oris]; omega)
    have fin : RiseF s.attrs 1 → cw 58 [.bp o 0, .int .i64 (i : Int)] st = some (.ret (.bool (!(place s.ori (oris (ss.take i))).isSome)), st.put m1 (.amap es)) := fun hr => by
      refine hX' _ (rise58 ho _ _ _ hC hal _ _ _ s.attrs.length 1 (by omega) (by omega) (fun h => absurd hr h) fun _ k hk => F58_0 _ _ _ _ _ _ ?_)
      simp only [nilCheckA_bp, ptrAdd_bp, nilCheckA_ip, ptrAdd_ip, readA_ip, Option.bind_some, Nat.zero_add, Nat.add_zero, box_read hbox, q2, sp_attrs ho, sp_ori ho, olookup_ok hm hoks ho, extractA_tup, List.getElem?_cons_zero, List.getElem?_cons_succ, boolV_bool, u1]
      rw [lna (st := []) hC.rd, if_neg (by simp; omega)]
      cases place s.ori (oris (ss.take i)) <;> simp only [intV_int, Option.bind_some] <;> exact outL_len (by simp) _ _
    by_cases c6' : ¬ RiseF s.attrs 1
    · exact no (fun h => c6' h.rise) (hX' _ (rise58 ho _ _ _ hC hal _ _ _ s.attrs.length 1 (by omega) (by omega) (fun _ => rfl) fun h => absurd h c6'))
    have c6 := Classical.not_not.1 c6'
    refine ⟨_, es, fin c6, u2, ?_, fun ht => ?_⟩
    · constructor
      · intro ht
        refine ⟨by omega, by rw [hpl]; omega, fun h0 => htag.resolve_left (fun h => h h0), c3, c4, c5, c6, place_none.1 ?_⟩
        cases hp : place s.ori (oris (ss.take i)) with
        | none => rfl
        | some j => rw [hp] at ht; simp at ht
      · intro h
        rw [place_none.2 h.new]; rfl
    · have hp : place s.ori (oris (ss.take i)) = none := by
        cases hp : place s.ori (oris (ss.take i)) with
        | none => rfl
        | some j => rw [hp] at ht; simp at ht
      rw [u3 hp, take_snoc gs, oris, oris, List.map_append]
      rfl
  by_cases c0 : s.parent ≥ 0
  · obtain ⟨q, hq⟩ := Int.eq_ofNat_of_zero_le c0
    have hqi : q < i := by omega
    have gp : ss[q]? = some (ss[q]'(by omega)) := List.getElem?_eq_getElem _
    generalize ss[q]'(by omega) = pp at gp
    have gp' : (ss.take i)[q]? = some pp := by rw [List.getElem?_take_of_lt hqi]; exact gp
    obtain ⟨r', ⟨ho', c', rfl, hC', hcc'⟩, hrd'⟩ := ixR hA hE gp
    have htl : (if (pp.tag == []) = true then True else False) ∨ True := .inr trivial
    by_cases ct : pp.tag = []
    · refine no (fun h => h.tag c0 pp (by rw [hq]; exact gp') ct) (key _ ?_)
      rw [if_neg c1, if_neg c2, if_pos c0]
      simp only [hq, hrd', ptrAdd_ip, readA_ip, Option.bind_some, Nat.zero_add, sp_tag ho', strV_str, boolV_bool, ct, beq_self_eq_true, if_true]
    · refine rest _ (fun R _ hR => key R ?_) rfl (.inr fun p hp => ?_)
      · rw [if_neg c1, if_neg c2, if_pos c0]
        have hb : (pp.tag == []) = false := by simpa using ct
        simp only [hq, hrd', ptrAdd_ip, readA_ip, Option.bind_some, Nat.zero_add, sp_tag ho', strV_str, boolV_bool, hb, Bool.false_eq_true, if_false]
        simp only [hq] at hR
        exact hR
      · rw [hq] at hp
        have : (ss.take i)[q]? = some p := hp
        rw [gp'] at this; cases this; exact ct
  · refine rest _ (fun R _ hR => key R ?_) rfl (.inl (by omega))
    rw [if_neg c1, if_neg c2, if_neg c0]
    exact hR
end
end Go.Abs
