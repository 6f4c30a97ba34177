/- The reference's parts by value: spots. -/
import Derived.Test.YtahpohhadcflfaaZPatI
namespace Go.Abs
open Go Go.Proofs Go.Proofs.Ytahpohhadcflfaa.LisMath Go.RowKit Go.IntWalk
set_option linter.unusedVariables false
set_option linter.unusedSimpArgs false

section
theorem rise44 {st : St} (hcl : Cl st) {o : Ori} (ho : o.ok) (p : Int) (t x : List UInt8) {b a : AV} {l : List Attr} (hB : Sl 2 b (attrs l)) (hl : l.length < 10000000) (hac : ∀ n, AV.closed n a = true) {i : Nat} (hi : i < 10000000) (R : AOut × St) : ∀ (d k : Nat), 1 ≤ k → l.length ≤ k + d →
    (¬ RiseF l k → R = (.ret (.bool false), st)) → (RiseF l k → aw 44 st.length p44_0 ⟨[(0, a), (3, .int .i64 ((i + 1 : Nat) : Int))], []⟩ st = some R) →
    aw 44 st.length (p44_1 st.length) ⟨[(0, a), (3, .int .i64 (i : Int)), (4, .bp st.length 0), (5, .int .i64 (k : Int))], []⟩ (.free 0 :: .box 70 (spotC o p t x b) :: st) = some R := by
  have hg : St.get (.free 0 :: .box 70 (spotC o p t x b) :: st) st.length = some (.box 70 (spotC o p t x b)) := get_at2 rfl
  have fin : ∀ k : Nat, l.length ≤ k → (RiseF l k → aw 44 st.length p44_0 ⟨[(0, a), (3, .int .i64 ((i + 1 : Nat) : Int))], []⟩ st = some R) →
      aw 44 st.length (p44_1 st.length) ⟨[(0, a), (3, .int .i64 (i : Int)), (4, .bp st.length 0), (5, .int .i64 (k : Int))], []⟩ (.free 0 :: .box 70 (spotC o p t x b) :: st) = some R := by
    intro k hk h
    refine F44_1 _ _ _ _ _ _ _ ?_
    simp only [ptrAdd_bp, Nat.zero_add, Option.bind_some, box_read hg, sp_attrs ho]
    rw [lna (st := []) hB.rd, if_neg (by simp; omega), e1i (show i < 1000000000000 by omega)]
    rw [roundV_cut (St.trunc_cons2 _ _ _) rfl (by simp only [List.length_cons]; omega) hcl (by simp [AV.closed, hac]) rfl, Option.bind_some]
    exact h fun j x y hj hx hy => by have := (List.getElem?_eq_some_iff.1 hy).1; omega
  intro d
  induction d with
  | zero =>
    intro k hk hd h1 h2
    exact fin k (by omega) h2
  | succ d ih =>
    intro k hk hd h1 h2
    by_cases hkl : l.length ≤ k
    · exact fin k hkl h2
    obtain ⟨m, rfl⟩ : ∃ m, k = m + 1 := ⟨k - 1, by omega⟩
    have gx : l[m]? = some (l[m]'(by omega)) := List.getElem?_eq_getElem _
    have gy : l[m + 1]? = some (l[m + 1]'(by omega)) := List.getElem?_eq_getElem _
    generalize l[m]'(by omega) = x0 at gx
    generalize l[m + 1]'(by omega) = y0 at gy
    refine F44_1 _ _ _ _ _ _ _ ?_
    have em : IntKind.i64.wrap (((m + 1 : Nat) : Int) - 1) = (m : Int) := by rw [i64_in _ (by omega)]; omega
    simp only [ptrAdd_bp, ptrAdd_ip, readA_ip, Option.bind_some, Nat.zero_add, box_read hg, sp_attrs ho, em, natA_nat, hB.at (attrs_get gx), hB.at (attrs_get gy), attrC_n, strV_str, strA, boolV_bool, e1i (show m + 1 < 1000000000000 by omega), roundV_same]
    rw [lna (st := []) hB.rd, if_pos (by simp; omega)]
    by_cases hlt : Op.bytesLess x0.name y0.name = true
    · rw [if_neg (by simp [hlt])]
      refine ih (m + 1 + 1) (by omega) (by omega) (fun hn => h1 fun hr => hn fun j a c hj ha hc => hr j a c (by omega) ha hc) fun hr => h2 fun j a c hj ha hc => ?_
      by_cases hjm : j = m
      · subst hjm; rw [gx] at ha; rw [gy] at hc; cases ha; cases hc; exact hlt
      · exact hr j a c (by omega) ha hc
    · rw [if_pos (by simpa using hlt), h1 fun hr => hlt (hr m x0 y0 (by omega) gx gy)]
      exact outL_s2 hcl _ _ rfl rfl
theorem rspots_loop {st : St} (hcl : Cl st) {a : AV} {ss : List Spot} {rows : List (List AV)} (hA : Sl 30 a rows) (hE : Each SpotR ss rows) (hl : ss.length < 10000000) (hla : ∀ s ∈ ss, s.attrs.length < 10000000) (hac : ∀ n, AV.closed n a = true) : ∀ (d i : Nat), i + d = ss.length → (∀ j s, j < i → ss[j]? = some s → SpotOk (ss.take j) s) →
    ∃ t : Bool, (t = true ↔ SpotsOk ss) ∧ aw 44 st.length p44_0 ⟨[(0, a), (3, .int .i64 (i : Int))], []⟩ st = some (.ret (.bool t), st) := by
  intro d
  induction d with
  | zero =>
    intro i hi hG
    refine ⟨true, by simp; exact fun j s hj => hG j s (by have := (List.getElem?_eq_some_iff.1 hj).1; omega) hj, F44_0 _ _ _ _ ?_⟩
    rw [lnR (st := []) hA.rd hE, if_neg (by simp; omega), outL_same]
  | succ d ih =>
    intro i hi hG
    have gs : ss[i]? = some (ss[i]'(by omega)) := List.getElem?_eq_getElem _
    generalize ss[i]'(by omega) = s at gs
    obtain ⟨row, hsr, hrd⟩ := rdR (R := AOut × St) (st := st) hA.rd hE (fun x r h => h.len) gs
    have hrow := hsr.len
    have hrc := hsr.closed
    obtain ⟨ho, x, rfl, hXa, hxc⟩ := hsr
    have hs := hla s (List.mem_of_getElem? gs)
    have hrl := hE.1
    have hpl : (ss.take i).length = i := by simp; omega
    have hz : ∃ z : List AV, z = [AV.int IntKind.i64 0, AV.int IntKind.i64 0, AV.int IntKind.i64 0, AV.int IntKind.i64 0, AV.str [], AV.int IntKind.i64 0, AV.int IntKind.i64 0, AV.str [], AV.int IntKind.i64 0, AV.int IntKind.i64 0, AV.str [],
                AV.int IntKind.i64 0, AV.int IntKind.i64 0, AV.str [], AV.int IntKind.i64 0, AV.int IntKind.i64 0, AV.str [], AV.int IntKind.i64 0, AV.int IntKind.i64 0, AV.str [], AV.int IntKind.i64 0, AV.int IntKind.i64 0, AV.str [],
                AV.int IntKind.i64 0, AV.int IntKind.i64 0, AV.str [], AV.int IntKind.i64 0, AV.str [], AV.str [], AV.nils] ∧ z.length = 30 := ⟨_, rfl, rfl⟩
    obtain ⟨z, hz, hzl⟩ := hz
    have hw : writeA (AObj.free 0 :: AObj.box 70 z :: st) (.bp st.length 0) (spotC s.ori s.parent s.tag s.text x) = some (.free 0 :: .box 70 (spotC s.ori s.parent s.tag s.text x) :: st) := by
      rw [box_write (get_at2 rfl) (setAt_all _ _ (by rw [hzl, hrow])), St.put_under (by simp), St.put_top]
    have hC2 : Cl (.free 0 :: .box 70 (spotC s.ori s.parent s.tag s.text x) :: st) := (hcl.cons (x := .box 70 (spotC s.ori s.parent s.tag s.text x)) (hrc _)).free
    have hg : St.get (.free 0 :: .box 70 (spotC s.ori s.parent s.tag s.text x) :: st) st.length = some (.box 70 (spotC s.ori s.parent s.tag s.text x)) := get_at2 rfl
    obtain ⟨v, c1, c2⟩ := hA.cut (st := (.free 0 :: .box 70 (spotC s.ori s.parent s.tag s.text x) :: st)) (lo := none) (hi := some (.int .i64 (i : Int))) (l := 0) (k := i) rfl (by simp [optA]) (by omega) (by omega)
    rw [List.drop_zero] at c2
    have hf := find_run hC2 c2 (hE.take i) (by simp; omega) ho
    have no : ∀ {X : AOut}, X = .ret (.bool false) → outL false st.length X (.free 0 :: .box 70 (spotC s.ori s.parent s.tag s.text x) :: st) = some (.ret (.bool false), st) := fun h => by subst h; exact outL_s2 hcl _ _ rfl rfl
    have key : ∀ R, _ := fun R => F44_0 a (i : Int) st.length st (r := R)
    rw [lnR (st := []) hA.rd hE, if_pos (by simp; omega), hrd, cells_agg hrow, Option.bind_some, ← hz] at key
    simp only [hw, Option.bind_some, box_read hg, sp_ori ho, form61_run hC2 ho, callB_ret, boolV_bool, c1, hf, intV_int, sp_parent ho, sp_tag ho, sp_text ho, sp_attrs ho, strV_str, strA, decide_eq_true_eq, no, hXa.len, attrs_len] at key
    have bad : ¬ SpotOk (ss.take i) s → aw 44 st.length p44_0 ⟨[(0, a), (3, .int .i64 (i : Int))], []⟩ st = some (.ret (.bool false), st) →
        ∃ t : Bool, (t = true ↔ SpotsOk ss) ∧ aw 44 st.length p44_0 ⟨[(0, a), (3, .int .i64 (i : Int))], []⟩ st = some (.ret (.bool t), st) := fun h e => ⟨false, by simp; exact fun hh => h (hh i s gs), e⟩
    by_cases c3' : ¬ formed s.ori = true
    · exact bad (fun h => c3' h.form) (key _ (by rw [if_pos (by simpa using c3')]))
    have c3 := Classical.not_not.1 c3'
    rw [if_neg (by simp [c3])] at key
    by_cases cn : s.ori ∈ oris (ss.take i)
    · refine bad (fun h => h.new cn) (key _ ?_)
      cases hp : place s.ori (oris (ss.take i)) with
      | none => exact absurd cn (place_none.1 hp)
      | some j => rw [if_pos (by simp [plI])]
    rw [place_none.2 cn, if_neg (by simp [plI])] at key
    by_cases c1' : s.parent < -1
    · exact bad (fun h => by have := h.low; omega) (key _ (by rw [if_pos c1']))
    by_cases c2' : s.parent ≥ (i : Int)
    · exact bad (fun h => by have := h.high; omega) (key _ (by rw [if_neg c1', if_pos c2']))
    rw [if_neg c1', if_neg c2'] at key
    generalize hW : aw 44 st.length (p44_1 st.length) ⟨[(0, a), (3, .int .i64 (i : Int)), (4, .bp st.length 0), (5, .int .i64 1)], []⟩ (.free 0 :: .box 70 (spotC s.ori s.parent s.tag s.text x) :: st) = W at key
    have rest : ∀ X : Option (AOut × St), (∀ R, X = some R → aw 44 st.length p44_0 ⟨[(0, a), (3, .int .i64 (i : Int))], []⟩ st = some R) →
        X = (if (!(s.tag == [])) = true then (if (!(s.text == [])) = true then some (.ret (.bool false), st) else if (s.tag == []) = true then (if (s.attrs.length : Int) > 0 then some (.ret (.bool false), st) else W) else W)
          else if (s.tag == []) = true then (if (s.attrs.length : Int) > 0 then some (.ret (.bool false), st) else W) else W) →
        (¬ (0 ≤ s.parent) ∨ ∀ p, (ss.take i)[s.parent.toNat]? = some p → p.tag ≠ []) →
        ∃ t : Bool, (t = true ↔ SpotsOk ss) ∧ aw 44 st.length p44_0 ⟨[(0, a), (3, .int .i64 (i : Int))], []⟩ st = some (.ret (.bool t), st) := by
      intro X hX hE' htag
      subst hE'
      by_cases c4 : s.tag ≠ [] ∧ s.text ≠ []
      · have hb : (s.tag == []) = false := by simpa using c4.1
        have hc : (s.text == []) = false := by simpa using c4.2
        exact bad (fun h => h.text c4) (hX _ (by simp only [hb, hc, Bool.not_false, if_true]))
      by_cases c5 : s.tag = [] ∧ s.attrs ≠ []
      · have : (s.attrs.length : Int) > 0 := by have := List.length_pos_iff.2 c5.2; omega
        exact bad (fun h => h.bare c5) (hX _ (by simp only [c5.1, beq_self_eq_true, Bool.not_true, Bool.false_eq_true, if_false, if_true]; rw [if_pos this]))
      have hX' : ∀ R, W = some R → aw 44 st.length p44_0 ⟨[(0, a), (3, .int .i64 (i : Int))], []⟩ st = some R := fun R hR => by
        refine hX R ?_
        by_cases ht : s.tag = []
        · have : ¬ (s.attrs.length : Int) > 0 := fun h => c5 ⟨ht, fun e => by rw [e] at h; simp at h⟩
          simp only [ht, beq_self_eq_true, Bool.not_true, Bool.false_eq_true, if_false, if_true, this]
          exact hR
        · have hx : s.text = [] := Decidable.byContradiction fun h => c4 ⟨ht, h⟩
          have hb : (s.tag == []) = false := by simpa using ht
          simp only [hb, hx, Bool.not_false, Bool.not_true, beq_self_eq_true, Bool.false_eq_true, if_false, if_true]
          exact hR
      subst hW
      by_cases c6' : ¬ RiseF s.attrs 1
      · exact bad (fun h => c6' h.rise) (hX' _ (rise44 hcl ho _ _ _ hXa hs hac (by omega) _ s.attrs.length 1 (by omega) (by omega) (fun _ => rfl) fun h => absurd h c6'))
      have c6 := Classical.not_not.1 c6'
      obtain ⟨t, t1, t2⟩ := ih (i + 1) (by omega) (fun j z hj hz => by
        by_cases hji : j = i
        · subst hji; rw [gs] at hz; cases hz
          exact ⟨by omega, by rw [hpl]; omega, fun h0 => htag.resolve_left (fun h => h h0), c3, c4, c5, c6, cn⟩
        · exact hG j z (by omega) hz)
      exact ⟨t, t1, hX' _ (rise44 hcl ho _ _ _ hXa hs hac (by omega) _ s.attrs.length 1 (by omega) (by omega) (fun h => absurd c6 h) fun _ => t2)⟩
    by_cases c0 : s.parent ≥ 0
    · obtain ⟨q, hq⟩ := Int.eq_ofNat_of_zero_le c0
      have hqi : q < i := by omega
      have gp : ss[q]? = some (ss[q]'(by omega)) := List.getElem?_eq_getElem _
      generalize ss[q]'(by omega) = pp at gp
      have gp' : (ss.take i)[q]? = some pp := by rw [List.getElem?_take_of_lt hqi]; exact gp
      obtain ⟨r', ⟨ho', c', rfl, hC', hcc'⟩, hrd'⟩ := ixR hA hE gp
      by_cases ct : pp.tag = []
      · refine bad (fun h => h.tag c0 pp (by rw [hq]; exact gp') ct) (key _ ?_)
        rw [if_pos c0]
        simp only [hq, hrd', ptrAdd_ip, readA_ip, Option.bind_some, Nat.zero_add, sp_tag ho', strV_str, boolV_bool, ct, beq_self_eq_true, if_true]
      · refine rest _ (fun R hR => key R ?_) rfl (.inr fun p hp => ?_)
        · rw [if_pos c0]
          have hb : (pp.tag == []) = false := by simpa using ct
          simp only [hq, hrd', ptrAdd_ip, readA_ip, Option.bind_some, Nat.zero_add, sp_tag ho', strV_str, boolV_bool, hb, Bool.false_eq_true, if_false]
          exact hR
        · rw [hq] at hp
          have : (ss.take i)[q]? = some p := hp
          rw [gp'] at this; cases this; exact ct
    · refine rest _ (fun R hR => key R ?_) rfl (.inl (by omega))
      rw [if_neg c0]
      exact hR
theorem rspots_run {st : St} (hcl : Cl st) {a : AV} {ss : List Spot} {rows : List (List AV)} (hA : Sl 30 a rows) (hE : Each SpotR ss rows) (hl : ss.length < 10000000) (hla : ∀ s ∈ ss, s.attrs.length < 10000000) (hac : ∀ n, AV.closed n a = true) :
    ∃ t : Bool, (t = true ↔ SpotsOk ss) ∧ cw 44 [a] st = some (.ret (.bool t), st) := by
  obtain ⟨t, t1, t2⟩ := rspots_loop hcl hA hE hl hla hac ss.length 0 (by omega) (fun j s hj => by omega)
  exact ⟨t, t1, F44 _ _ t2⟩
end
end Go.Abs
