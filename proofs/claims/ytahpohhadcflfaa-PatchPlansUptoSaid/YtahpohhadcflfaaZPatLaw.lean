/- The law of chapter 18 on every Least, from its run by value to the given row. -/
import Derived.Test.YtahpohhadcflfaaRows
import Derived.Test.YtahpohhadcflfaaZC
import Derived.Test.YtahpohhadcflfaaZPatP
import Derived.WalkKit
import Derived.ProofKit
namespace Go.Proofs.Ytahpohhadcflfaa
open Go Go.Abs Go.ChangeShapes Go.WideShapes Go.ChangeAt Go.RowKit Go.Proofs.Ytahpohhadcflfaa.LisMath
set_option linter.unusedVariables false

theorem own : ownKnob Try.prog.godebug = none := by kernel_rfl
theorem laidOut : laidOutB Try.prog = true := by kernel_rfl
theorem progOk : ProgOk Try.prog tryhints := progOk_of (by kernel_rfl)
theorem extOk : ExtOk Try.prog tryhints := extOk_none fun g => rfl
theorem mixed : Try.prog.follows .mixedOrders = true := by kernel_rfl

section
variable {T : Type}
theorem bulk_one (d : DataW T) : 1 ≤ Rows.uptoBulk d := by
  cases d with
  | lit l => cases l <;> simp [Rows.uptoBulk]
  | nil => simp [Rows.uptoBulk]
  | ptr d => simp [Rows.uptoBulk]
  | slice elems spare => simp [Rows.uptoBulk]
  | agg parts => simp [Rows.uptoBulk]
  | iface t d => simp [Rows.uptoBulk]
  | map entries => simp [Rows.uptoBulk]
  | held h => simp [Rows.uptoBulk]
theorem bulk_len (l : List (DataW T)) : l.length ≤ Rows.uptoBulkAll l := by
  induction l with
  | nil => exact Nat.le_refl _
  | cons x r ih =>
    have := bulk_one x
    simp only [Rows.uptoBulkAll, List.length_cons]; omega
theorem bulk_mem {l : List (DataW T)} {d : DataW T} (h : d ∈ l) : Rows.uptoBulk d ≤ Rows.uptoBulkAll l := by
  induction l with
  | nil => cases h
  | cons x r ih =>
    simp only [Rows.uptoBulkAll]
    rcases List.mem_cons.1 h with rfl | h
    · omega
    · have := ih h; omega
theorem avD_agg {P : Program} {n : Nat} {t : TypeId} {fs : Array Field} {d : DataW T} {cs : List AV} (hu : P.underlying t = some (.struct fs)) (h : avD P n t d = some cs) :
    ∃ m parts rs, n = m + 1 ∧ d = .agg parts ∧ parts.length = fs.size ∧ ((fs.toList.zip parts).mapM fun p => avD P m p.1.type p.2) = some rs ∧ cs = rs.flatten := by
  cases n with
  | zero => simp [avD] at h
  | succ n =>
    unfold avD at h
    rw [hu] at h
    cases d with
    | agg parts =>
      simp only at h
      split at h
      · rename_i hl
        obtain ⟨rs, hr, h2⟩ := Option.map_eq_some_iff.1 h
        exact ⟨n, parts, rs, rfl, rfl, hl, hr, h2.symm⟩
      · simp at h
    | lit l => cases l <;> simp at h
    | _ => simp at h
theorem avD_arr {P : Program} {n k : Nat} {t e : TypeId} {d : DataW T} {cs : List AV} (hu : P.underlying t = some (.array k e)) (h : avD P n t d = some cs) :
    ∃ m parts rs, n = m + 1 ∧ d = .agg parts ∧ parts.length = k ∧ parts.mapM (avD P m e) = some rs ∧ cs = rs.flatten := by
  cases n with
  | zero => simp [avD] at h
  | succ n =>
    unfold avD at h
    rw [hu] at h
    cases d with
    | agg parts =>
      simp only at h
      split at h
      · rename_i hl
        obtain ⟨rs, hr, h2⟩ := Option.map_eq_some_iff.1 h
        exact ⟨n, parts, rs, rfl, rfl, hl, hr, h2.symm⟩
      · simp at h
    | lit l => cases l <;> simp at h
    | _ => simp at h
theorem mapM_cons_some {α β : Type} {g : α → Option β} {x : α} {l : List α} {rs : List β} (h : (x :: l).mapM g = some rs) : ∃ r rs', g x = some r ∧ l.mapM g = some rs' ∧ rs = r :: rs' := by
  rw [List.mapM_cons] at h
  obtain ⟨r, hr, h2⟩ := Option.bind_eq_some_iff.1 h
  obtain ⟨rs', hrs, h3⟩ := Option.bind_eq_some_iff.1 h2
  simp only [Option.pure_def, Option.some.injEq] at h3
  exact ⟨r, rs', hr, hrs, h3.symm⟩
theorem mapM_nil_some {α β : Type} {g : α → Option β} {rs : List β} (h : ([] : List α).mapM g = some rs) : rs = [] := by simpa using h.symm
/-- A list each of whose elements reads as Q says. -/
theorem rows_rel {α : Type} {P : Program} {e : TypeId} (Q : α → List AV → Prop) (size : α → Nat)
    (one : ∀ (n : Nat) (d : DataW T) r, avD P n e d = some r → ∃ x, Q x r ∧ size x ≤ Rows.uptoBulk d) {m : Nat} : ∀ (els : List (DataW T)) (rows : List (List AV)), els.mapM (avD P m e) = some rows → ∃ l : List α, Each Q l rows ∧ (∀ x ∈ l, size x ≤ Rows.uptoBulkAll els) ∧ l.length = els.length := by
  intro els
  induction els with
  | nil => intro rows h; rw [mapM_nil_some h]; exact ⟨[], Each.nil, by simp, rfl⟩
  | cons x els ih =>
    intro rows h
    obtain ⟨r, rs, hr, hrs, rfl⟩ := mapM_cons_some h
    obtain ⟨l, hE, hb, hl⟩ := ih rs hrs
    obtain ⟨y, hy, hs⟩ := one m x r hr
    refine ⟨y :: l, ⟨by simp [hE.1], fun i a b ha hb' => ?_⟩, fun z hz => ?_, by simp [hl]⟩
    · cases i with
      | zero => simp at ha hb'; subst ha; subst hb'; exact hy
      | succ i => exact hE.2 i a b (by simpa using ha) (by simpa using hb')
    · simp only [Rows.uptoBulkAll]
      rcases List.mem_cons.1 hz with rfl | hz
      · omega
      · have := hb z hz; omega
theorem list_rel {α : Type} {P : Program} {t e : TypeId} {kd : Nat} (Q : α → List AV → Prop) (size : α → Nat) (hu : P.underlying t = some (.slice e)) (hk : kdOf P e = some kd) (hQ : ∀ x r, Q x r → ∀ n, AV.closeds n r = true)
    (one : ∀ (n : Nat) (d : DataW T) r, avD P n e d = some r → ∃ x, Q x r ∧ size x ≤ Rows.uptoBulk d) {n : Nat} {d : DataW T} {a : AV} (h : avD P n t d = some [a]) :
    ∃ (l : List α) (rows : List (List AV)), Sl kd a rows ∧ Each Q l rows ∧ (∀ x ∈ l, size x ≤ Rows.uptoBulk d) ∧ l.length ≤ Rows.uptoBulk d ∧ ∀ n, AV.closed n a = true := by
  rcases avD_slice hu h with ⟨rfl, h2⟩ | ⟨m, elems, spare, kd', rows, rfl, rfl, hkd, hr, h2⟩
  · simp only [List.cons.injEq, and_true] at h2
    subst h2
    exact ⟨[], [], .nil, Each.nil, by simp, by simp, fun _ => rfl⟩
  · rw [hk] at hkd
    simp only [Option.some.injEq] at hkd
    subst hkd
    simp only [List.cons.injEq, and_true] at h2
    subst h2
    obtain ⟨l, hE, hb, hl⟩ := rows_rel Q size one elems rows hr
    have h1 := bulk_len elems
    refine ⟨l, rows, .mk, hE, fun x hx => ?_, ?_, fun n => ?_⟩
    · have := hb x hx; simp only [Rows.uptoBulk]; omega
    · simp only [Rows.uptoBulk]; omega
    · have : AV.closedss n rows = true := closedss_get fun i r hr => by
        have hl2 := hE.1
        have hil := (List.getElem?_eq_some_iff.1 hr).1
        exact hQ _ r (hE.2 i _ r (List.getElem?_eq_getElem (by omega)) hr) n
      simp [AV.closed, this]
end
theorem k57 : kdOf Try.prog 57 = some 3 := by kernel_rfl
theorem k98 : kdOf Try.prog 98 = some 2 := by kernel_rfl
theorem k70 : kdOf Try.prog 70 = some 30 := by kernel_rfl
theorem k73 : kdOf Try.prog 73 = some 27 := by kernel_rfl
def KeyR (k : Key) (r : List AV) : Prop := r = keyC k
def AttrR (k : Attr) (r : List AV) : Prop := r = attrC k
theorem each_keys {l : List Key} {rows : List (List AV)} (h : Each KeyR l rows) : rows = keys l := by
  apply List.ext_getElem?
  intro i
  by_cases hi : i < l.length
  · have h1 : l[i]? = some (l[i]) := List.getElem?_eq_getElem _
    obtain ⟨r, hr, hk⟩ := h.get h1
    rw [hr, keys_get h1, show r = keyC _ from hk]
  · rw [List.getElem?_eq_none (by have := h.1; omega), List.getElem?_eq_none (by simp [keys]; omega)]
theorem each_attrs {l : List Attr} {rows : List (List AV)} (h : Each AttrR l rows) : rows = attrs l := by
  apply List.ext_getElem?
  intro i
  by_cases hi : i < l.length
  · have h1 : l[i]? = some (l[i]) := List.getElem?_eq_getElem _
    obtain ⟨r, hr, hk⟩ := h.get h1
    rw [hr, attrs_get h1, show r = attrC _ from hk]
  · rw [List.getElem?_eq_none (by have := h.1; omega), List.getElem?_eq_none (by simp [attrs]; omega)]
set_option maxRecDepth 100000 in
theorem key_one {T : Type} (n : Nat) (d : DataW T) (r : List AV) (h : avD Try.prog n 57 d = some r) : ∃ x, KeyR x r ∧ 0 ≤ Rows.uptoBulk d := by
  obtain ⟨m, parts, rs, rfl, rfl, hl, hr, rfl⟩ := avD_agg Try.underlying57 h
  have hl3 : parts.length = 3 := by simpa using hl
  clear hl
  match parts, hl3 with
  | [a, b, c], _ =>
    simp only [List.zip_cons_cons, List.zip_nil_right] at hr
    obtain ⟨ra, r1, ha, hr1, rfl⟩ := mapM_cons_some hr
    obtain ⟨rb, r2, hb, hr2, rfl⟩ := mapM_cons_some hr1
    obtain ⟨rc, r3, hc, hr3, rfl⟩ := mapM_cons_some hr2
    obtain rfl := mapM_nil_some hr3
    obtain ⟨x, rfl, _, rfl⟩ := avD_int Try.underlying3 ha
    obtain ⟨y, rfl, _, rfl⟩ := avD_int Try.underlying3 hb
    obtain ⟨z, rfl, rfl⟩ := avD_str Try.underlying9 hc
    exact ⟨⟨x, y, z⟩, rfl, Nat.zero_le _⟩
set_option maxRecDepth 100000 in
theorem attr_one {T : Type} (n : Nat) (d : DataW T) (r : List AV) (h : avD Try.prog n 98 d = some r) : ∃ x, AttrR x r ∧ 0 ≤ Rows.uptoBulk d := by
  obtain ⟨m, parts, rs, rfl, rfl, hl, hr, rfl⟩ := avD_agg Try.underlying98 h
  have hl3 : parts.length = 2 := by simpa using hl
  clear hl
  match parts, hl3 with
  | [a, b], _ =>
    simp only [List.zip_cons_cons, List.zip_nil_right] at hr
    obtain ⟨ra, r1, ha, hr1, rfl⟩ := mapM_cons_some hr
    obtain ⟨rb, r2, hb, hr2, rfl⟩ := mapM_cons_some hr1
    obtain rfl := mapM_nil_some hr2
    obtain ⟨y, rfl, rfl⟩ := avD_str Try.underlying9 ha
    obtain ⟨z, rfl, rfl⟩ := avD_str Try.underlying9 hb
    exact ⟨⟨y, z⟩, rfl, Nat.zero_le _⟩
set_option maxRecDepth 100000 in
theorem ori_one {T : Type} (n : Nat) (d : DataW T) (r : List AV) (h : avD Try.prog n 67 d = some r) : ∃ o : Ori, o.ok ∧ r = oriC o := by
  obtain ⟨m, parts, rs, rfl, rfl, hl, hr, rfl⟩ := avD_agg Try.underlying67 h
  have hl3 : parts.length = 3 := by simpa using hl
  clear hl
  match parts, hl3 with
  | [a, b, c], _ =>
    simp only [List.zip_cons_cons, List.zip_nil_right] at hr
    obtain ⟨ra, r1, ha, hr1, rfl⟩ := mapM_cons_some hr
    obtain ⟨rb, r2, hb, hr2, rfl⟩ := mapM_cons_some hr1
    obtain ⟨rc, r3, hc, hr3, rfl⟩ := mapM_cons_some hr2
    obtain rfl := mapM_nil_some hr3
    obtain ⟨x, rfl, _, rfl⟩ := avD_int Try.underlying3 ha
    obtain ⟨y, rfl, _, rfl⟩ := avD_int Try.underlying3 hb
    obtain ⟨m', parts', rs', rfl, rfl, hl', hr', rfl⟩ := avD_arr Try.underlying65 hc
    obtain ⟨l, hE, _, hl2⟩ := rows_rel KeyR (fun _ => 0) key_one parts' rs' hr'
    obtain rfl := each_keys hE
    exact ⟨⟨x, y, l⟩, by show l.length = 8; rw [hl2, hl'], by simp [oriC, keyCs]⟩
set_option maxRecDepth 100000 in
theorem spot_one {T : Type} (n : Nat) (d : DataW T) (r : List AV) (h : avD Try.prog n 70 d = some r) : ∃ s : Spot, SpotR s r ∧ s.attrs.length ≤ Rows.uptoBulk d := by
  obtain ⟨m, parts, rs, rfl, rfl, hl, hr, rfl⟩ := avD_agg Try.underlying70 h
  have hl3 : parts.length = 5 := by simpa using hl
  clear hl
  match parts, hl3 with
  | [a, b, c, d, e], _ =>
    simp only [List.zip_cons_cons, List.zip_nil_right] at hr
    obtain ⟨ra, r1, ha, hr1, rfl⟩ := mapM_cons_some hr
    obtain ⟨rb, r2, hb, hr2, rfl⟩ := mapM_cons_some hr1
    obtain ⟨rc, r3, hc, hr3, rfl⟩ := mapM_cons_some hr2
    obtain ⟨rd, r4, hd, hr4, rfl⟩ := mapM_cons_some hr3
    obtain ⟨re, r5, he, hr5, rfl⟩ := mapM_cons_some hr4
    obtain rfl := mapM_nil_some hr5
    obtain ⟨o, ho, rfl⟩ := ori_one _ _ _ ha
    obtain ⟨y, rfl, _, rfl⟩ := avD_int Try.underlying3 hb
    obtain ⟨t, rfl, rfl⟩ := avD_str Try.underlying9 hc
    obtain ⟨x, rfl, rfl⟩ := avD_str Try.underlying9 hd
    have hre : ∃ v, re = [v] := by
      rcases avD_slice Try.underlying68 he with ⟨_, h⟩ | ⟨_, _, _, _, _, _, _, _, _, h⟩ <;> exact ⟨_, h⟩
    obtain ⟨v, rfl⟩ := hre
    obtain ⟨l, rows, hS, hE, _, hb, hcl⟩ := list_rel AttrR (fun _ => 0) Try.underlying68 k98 (fun x r hx n => by rw [show r = attrC x from hx]; rfl) attr_one he
    obtain rfl := each_attrs hE
    refine ⟨⟨o, y, t, x, l⟩, ⟨ho, v, by simp [spotC, spotT], hS, hcl⟩, ?_⟩
    have := bulk_mem (T := T) (l := [a, .lit (.int .i64 y), .lit (.string t), .lit (.string x), e]) (d := e) (by simp)
    have hb' : l.length ≤ Rows.uptoBulk e := hb
    simp only [Rows.uptoBulk]
    omega
set_option maxRecDepth 100000 in
theorem loop_one {T : Type} (n : Nat) (d : DataW T) (r : List AV) (h : avD Try.prog n 73 d = some r) : ∃ s : Lp, LoopR s r ∧ s.ks.length ≤ Rows.uptoBulk d := by
  obtain ⟨m, parts, rs, rfl, rfl, hl, hr, rfl⟩ := avD_agg Try.underlying73 h
  have hl3 : parts.length = 2 := by simpa using hl
  clear hl
  match parts, hl3 with
  | [a, e], _ =>
    simp only [List.zip_cons_cons, List.zip_nil_right] at hr
    obtain ⟨ra, r1, ha, hr1, rfl⟩ := mapM_cons_some hr
    obtain ⟨re, r5, he, hr2, rfl⟩ := mapM_cons_some hr1
    obtain rfl := mapM_nil_some hr2
    obtain ⟨o, ho, rfl⟩ := ori_one _ _ _ ha
    have hre : ∃ v, re = [v] := by
      rcases avD_slice Try.underlying28 he with ⟨_, h⟩ | ⟨_, _, _, _, _, _, _, _, _, h⟩ <;> exact ⟨_, h⟩
    obtain ⟨v, rfl⟩ := hre
    obtain ⟨l, rows, hS, hE, _, hb, hcl⟩ := list_rel KeyR (fun _ => 0) Try.underlying28 k57 (fun x r hx n => by rw [show r = keyC x from hx]; rfl) key_one he
    obtain rfl := each_keys hE
    refine ⟨⟨o, l⟩, ⟨ho, v, by simp [loopC], hS, hcl⟩, ?_⟩
    have := bulk_mem (T := T) (l := [a, e]) (d := e) (by simp)
    have hb' : l.length ≤ Rows.uptoBulk e := hb
    simp only [Rows.uptoBulk]
    omega
theorem plain38 : plainSetB Try.prog [38, 70, 67, 3, 65, 57, 9, 68, 98] = true := by kernel_rfl
theorem plain39 : plainSetB Try.prog [39, 73, 67, 3, 65, 57, 9, 28] = true := by kernel_rfl

set_option maxRecDepth 100000 in
theorem plans_lifted (os : Os) (started : os.Started) (H : Type) (enc : TypeId × Value → H) (F : Stop.Interp) :
    ReturnsInHanded {} Try.checked os 8 .any ((Rows.OpenSpec.upto Rows.patchPlansSpec).pre6 enc Try.prog Try.f8 Rows.patchPlansUptoRow.domain false) (((Rows.OpenSpec.upto Rows.patchPlansSpec).at F).post enc Try.prog Try.f8 false true false false) := by
  refine returnsInHanded_of_cond (C := Try.checked) (s := Rows.OpenSpec.upto Rows.patchPlansSpec) (k := Rows.uptoSmall) rfl own started (by kernel_rfl) Try.func8
    (OpenSpec.witness (enc := enc) (C := Try.checked) (s := Rows.OpenSpec.upto Rows.patchPlansSpec) (k := Rows.uptoSmall) rfl false ⟨#[], #[.slice none 0 0, .slice none 0 0, .slice none 0 0, .slice none 0 0], []⟩ 8 (by kernel_rfl) (by kernel_rfl) (by kernel_rfl)
      (x := ([.nil, .nil, .nil, .nil], [], [])) (by kernel_rfl) rfl (by kernel_rfl)) ?_
  intro W base args ds gs before hval hW _ hk _
  have hW' := hW
  obtain ⟨p, q, hA0, hV, rfl, hfz, hnd⟩ := hW
  have hpar : Try.f8.params = #[38, 39, 38, 39] := Try.params8
  have hA : DataW.TrodAll enc Try.prog W 0 (fun _ => true) true Try.f8.params.toList args.toList ds p := hA0
  rw [hpar] at hA hval
  obtain ⟨v0, vs0, d0, ds0, p0, q0, hargs, rfl, rfl, h0, r0⟩ := trodAll_cons hA
  obtain ⟨v1, vs1, d1, ds1, p1, q1, rfl, rfl, rfl, h1, r1⟩ := trodAll_cons r0
  obtain ⟨v2, vs2, d2, ds2, p2, q2, rfl, rfl, rfl, h2, r2⟩ := trodAll_cons r1
  obtain ⟨v3, vs3, d3, ds3, p3, q3, rfl, rfl, rfl, h3, r3⟩ := trodAll_cons r2
  obtain ⟨rfl, rfl, rfl⟩ := trodAll_nil r3
  obtain rfl : args = #[v0, v1, v2, v3] := by cases args; simp_all
  have hvars : (Rows.OpenSpec.upto Rows.patchPlansSpec).vars = [] := rfl
  rw [hvars] at hV
  obtain ⟨rfl, rfl⟩ := trodVars_none hV
  obtain ⟨n0, a0, g0, e0⟩ := arg_slice laidOut plain38 (by simp) (of_decide_eq_true (by kernel_rfl)) Try.underlying38 (hval 0 38 v0 rfl rfl) h0
  obtain ⟨n1, a1, g1, e1⟩ := arg_slice laidOut plain39 (by simp) (of_decide_eq_true (by kernel_rfl)) Try.underlying39 (hval 1 39 v1 rfl rfl) h1
  obtain ⟨n2, a2, g2, e2⟩ := arg_slice laidOut plain38 (by simp) (of_decide_eq_true (by kernel_rfl)) Try.underlying38 (hval 2 38 v2 rfl rfl) h2
  obtain ⟨n3, a3, g3, e3⟩ := arg_slice laidOut plain39 (by simp) (of_decide_eq_true (by kernel_rfl)) Try.underlying39 (hval 3 39 v3 rfl rfl) h3
  obtain ⟨l0, w0, s0, t0, b0, c0, x0⟩ := list_rel SpotR (fun s => s.attrs.length) Try.underlying38 k70 (fun _ _ h => h.closed) spot_one g0
  obtain ⟨l1, w1, s1, t1, b1, c1, x1⟩ := list_rel LoopR (fun s => s.ks.length) Try.underlying39 k73 (fun _ _ h => h.closed) loop_one g1
  obtain ⟨l2, w2, s2, t2, b2, c2, x2⟩ := list_rel SpotR (fun s => s.attrs.length) Try.underlying38 k70 (fun _ _ h => h.closed) spot_one g2
  obtain ⟨l3, w3, s3, t3, b3, c3, x3⟩ := list_rel LoopR (fun s => s.ks.length) Try.underlying39 k73 (fun _ _ h => h.closed) loop_one g3
  have hbl := of_decide_eq_true hk
  simp only [Rows.uptoBulkAll, List.append_nil] at hbl
  have G : Given a0 a1 a2 a3 l0 l1 l2 l3 := ⟨⟨w0, s0, t0⟩, ⟨w1, s1, t1⟩, ⟨w2, s2, t2⟩, ⟨w3, s3, t3⟩, by omega, by omega, by omega, by omega,
    fun s hs => by have := b0 s hs; omega, fun s hs => by have := b2 s hs; omega, fun s hs => by have := b1 s hs; omega, fun s hs => by have := b3 s hs; omega, x0, x1, x2, x3⟩
  exact law_post progOk extOk mixed (fun _ => rfl) (fun σ _ => globOk_none fun g => rfl) laidOut (by rw [hpar]; kernel_rfl) hvars (by rfl) Try.underlying4 hW' (by rfl)
    (avs := [a0, a1, a2, a3]) (.cons e0 (.cons e1 (.cons e2 (.cons e3 .nil)))) (patchPlans_run Cl.nil G)
theorem plans_over : Rows.patchPlansUptoRow.holds Try.pinned (Rows.OpenSpec.upto Rows.patchPlansSpec) :=
  OpenClaim.holds_of_cond 8 Try.f8 rfl rfl rfl rfl rfl rfl rfl ⟨rfl, rfl, rfl, rfl, rfl⟩ rfl rfl rfl rfl rfl (by kernel_rfl) Try.func8 (by kernel_rfl)
    (of_decide_eq_true (by kernel_rfl)) (by unfold Func.isWrapper; first | (rw [if_pos (by decide +kernel)]; kernel_rfl) | (rw [if_neg (by decide +kernel)]; exact ⟨rfl, rfl⟩))
    (fun os started H enc _ F => plans_lifted os started H enc F)
theorem patchPlans_holds : Rows.PatchPlansUptoSaid := plans_over
#print axioms patchPlans_holds
end Go.Proofs.Ytahpohhadcflfaa
