/- The laws of chapter 9, from their runs by value to the given rows. -/
import Derived.Test.YtahpohhadcflfaaRows
import Derived.Test.YtahpohhadcflfaaZC
import Derived.Test.YtahpohhadcflfaaZLisSay
import Derived.WalkKit
import Derived.ProofKit
namespace Go.Proofs.Ytahpohhadcflfaa
open Go Go.Abs Go.ChangeShapes Go.WideShapes Go.ChangeAt Go.RowKit Go.Proofs.Ytahpohhadcflfaa.LisMath
set_option linter.unusedVariables false

theorem own : ownKnob Try.prog.godebug = none := by kernel_rfl
theorem laidOut : laidOutB Try.prog = true := by kernel_rfl
theorem progOk : ProgOk Try.prog tryhints := progOk_of (by kernel_rfl)
theorem extOk : ExtOk Try.prog tryhints := extOk_none fun g => rfl
theorem mixed : Try.prog.follows .mixedOrders = true := by kernel_rfl

section
variable {T : Type}
theorem bulk_one (d : DataW T) : 1 ≤ Rows.uptoBulk d := by
  cases d with
  | lit l => cases l <;> simp [Rows.uptoBulk]
  | nil => simp [Rows.uptoBulk]
  | ptr d => simp [Rows.uptoBulk]
  | slice elems spare => simp [Rows.uptoBulk]
  | agg parts => simp [Rows.uptoBulk]
  | iface t d => simp [Rows.uptoBulk]
  | map entries => simp [Rows.uptoBulk]
  | held h => simp [Rows.uptoBulk]
theorem bulk_len (l : List (DataW T)) : l.length ≤ Rows.uptoBulkAll l := by
  induction l with
  | nil => exact Nat.le_refl _
  | cons x r ih =>
    have := bulk_one x
    simp only [Rows.uptoBulkAll, List.length_cons]; omega

theorem avD_agg {P : Program} {n : Nat} {t : TypeId} {fs : Array Field} {d : DataW T} {cs : List AV} (hu : P.underlying t = some (.struct fs)) (h : avD P n t d = some cs) :
    ∃ m parts rs, n = m + 1 ∧ d = .agg parts ∧ parts.length = fs.size ∧ ((fs.toList.zip parts).mapM fun p => avD P m p.1.type p.2) = some rs ∧ cs = rs.flatten := by
  cases n with
  | zero => simp [avD] at h
  | succ n =>
    unfold avD at h
    rw [hu] at h
    cases d with
    | agg parts =>
      simp only at h
      split at h
      · rename_i hl
        obtain ⟨rs, hr, h2⟩ := Option.map_eq_some_iff.1 h
        exact ⟨n, parts, rs, rfl, rfl, hl, hr, h2.symm⟩
      · simp at h
    | lit l => cases l <;> simp at h
    | _ => simp at h

/-- A slice of a type each of whose elements reads as what f says. -/
theorem list_of {α : Type} {P : Program} {t e : TypeId} {kd : Nat} (f : α → List AV) (ok : α → Prop) (hu : P.underlying t = some (.slice e)) (hk : kdOf P e = some kd)
    (one : ∀ (n : Nat) (d : DataW T) r, avD P n e d = some r → ∃ x, r = f x ∧ ok x) {n : Nat} {d : DataW T} {a : AV} (h : avD P n t d = some [a]) :
    ∃ l : List α, Sl kd a (l.map f) ∧ (∀ x ∈ l, ok x) ∧ l.length ≤ Rows.uptoBulk d := by
  rcases avD_slice hu h with ⟨rfl, h2⟩ | ⟨m, elems, spare, kd', rows, rfl, rfl, hkd, hr, h2⟩
  · simp only [List.cons.injEq, and_true] at h2
    subst h2
    exact ⟨[], .nil, by simp, by simp⟩
  · rw [hk] at hkd
    simp only [Option.some.injEq] at hkd
    subst hkd
    simp only [List.cons.injEq, and_true] at h2
    subst h2
    have key : ∀ (els : List (DataW T)) (rows : List (List AV)), els.mapM (avD P m e) = some rows → ∃ l : List α, rows = l.map f ∧ ∀ x ∈ l, ok x := by
      intro els
      induction els with
      | nil => intro rows h; simp at h; subst h; exact ⟨[], rfl, by simp⟩
      | cons x els ih =>
        intro rows h
        rw [List.mapM_cons] at h
        obtain ⟨r, hr, h2⟩ := Option.bind_eq_some_iff.1 h
        obtain ⟨rs, hrs, h3⟩ := Option.bind_eq_some_iff.1 h2
        simp only [Option.pure_def, Option.some.injEq] at h3
        subst h3
        obtain ⟨l, rfl, hl⟩ := ih rs hrs
        obtain ⟨y, rfl, hy⟩ := one m x r hr
        refine ⟨y :: l, rfl, fun z hz => ?_⟩
        rcases List.mem_cons.1 hz with rfl | hz
        · exact hy
        · exact hl z hz
    obtain ⟨l, rfl, hl⟩ := key elems rows hr
    have hl2 := mapM_len hr
    refine ⟨l, .mk, hl, ?_⟩
    have h1 := bulk_len elems
    simp only [Rows.uptoBulk]
    simp at hl2
    omega
end
theorem k3 : kdOf Try.prog 3 = some 1 := by kernel_rfl
theorem k57 : kdOf Try.prog 57 = some 3 := by kernel_rfl
theorem int_one {T : Type} (n : Nat) (d : DataW T) (r : List AV) (h : avD Try.prog n 3 d = some r) : ∃ x, r = int1 x ∧ i64 x := by
  obtain ⟨m, rfl, hw, rfl⟩ := avD_int Try.underlying3 h
  refine ⟨m, rfl, ?_⟩
  simp [Lit.wf, IntKind.min, IntKind.max, IntKind.signed, IntKind.bits] at hw
  exact ⟨by omega, by omega⟩
set_option maxRecDepth 100000 in
theorem key_one {T : Type} (n : Nat) (d : DataW T) (r : List AV) (h : avD Try.prog n 57 d = some r) : ∃ x, r = keyC x ∧ True := by
  obtain ⟨m, parts, rs, rfl, rfl, hl, hr, rfl⟩ := avD_agg Try.underlying57 h
  have hl3 : parts.length = 3 := by simpa using hl
  clear hl
  match parts, hl3 with
  | [a, b, c], _ =>
    simp only [List.zip_cons_cons, List.zip_nil_right, List.mapM_cons, List.mapM_nil] at hr
    obtain ⟨ra, ha, h2⟩ := Option.bind_eq_some_iff.1 hr
    obtain ⟨rbc, hbc, h3⟩ := Option.bind_eq_some_iff.1 h2
    obtain ⟨rb, hb, h4⟩ := Option.bind_eq_some_iff.1 hbc
    obtain ⟨rc, hc, h5⟩ := Option.bind_eq_some_iff.1 h4
    obtain ⟨c', hc', h6⟩ := Option.bind_eq_some_iff.1 hc
    obtain ⟨x, rfl, _, rfl⟩ := avD_int Try.underlying3 ha
    obtain ⟨y, rfl, _, rfl⟩ := avD_int Try.underlying3 hb
    obtain ⟨z, rfl, rfl⟩ := avD_str Try.underlying9 hc'
    simp at h3 h5 h6
    subst h6; subst h5; subst h3
    exact ⟨⟨x, y, z⟩, rfl, trivial⟩

theorem plain22 : plainSetB Try.prog [22, 3] = true := by kernel_rfl
theorem flat22 : flatB Try.prog [22, 3] = true := by kernel_rfl
theorem plain28 : plainSetB Try.prog [28, 57, 3, 9] = true := by kernel_rfl
theorem flat28 : flatB Try.prog [28, 57, 3, 9] = true := by kernel_rfl

set_option maxRecDepth 100000 in
/-- One argument: a list of whole numbers. -/
theorem one_ints {f : FuncId} {fn : Func} {s : ChangeSpec} (hpar : fn.params = #[22]) (hvars : s.vars = []) (hfn : ∀ (T : Type) (d1 : DataW T), s.fn T [d1] = { results := [.lit (.bool true)], args := [d1] }) (hres : fn.resultTypes = #[4])
    (hrun : ∀ (a : AV) (l : List Int), Sl 1 a (ints l) → (∀ x ∈ l, i64 x) → l.length < 10000000 → cw f [a] [] = some (.ret (.bool true), []))
    (T : Type) (enc : TypeId × Value → T) (W : World) (base : Nat) (args : Array Value) (ds gs : List (DataW T)) (before : List MemPlace)
    (hval : ∀ (j : Nat) t v, fn.params[j]? = some t → args[j]? = some v → Value.okWide Try.prog W .any base t v)
    (hW : DataW.Whole enc Try.prog fn.params.toList s.vars false W args.toList ds gs before) (hk : Rows.uptoSmall T (ds ++ gs) = true) :
    Calls Try.prog f args W fun e W' => ∃ v, e = .returned v ∧ s.post enc Try.prog fn false true false false W args v W' := by
  have hW' := hW
  obtain ⟨p, q, hA0, hV, rfl, hfz, hnd⟩ := hW
  have hA : DataW.TrodAll enc Try.prog W 0 (fun _ => true) true fn.params.toList args.toList ds p := hA0
  rw [hpar] at hA hval
  obtain ⟨v0, vs0, d0, ds0, p0, q0, hargs, rfl, rfl, h0, r0⟩ := trodAll_cons hA
  obtain ⟨rfl, rfl, rfl⟩ := trodAll_nil r0
  obtain rfl : args = #[v0] := by cases args; simp_all
  rw [hvars] at hV
  obtain ⟨rfl, rfl⟩ := trodVars_none hV
  obtain ⟨n, a, ha, hrep⟩ := arg_slice laidOut plain22 flat22 (by simp) (of_decide_eq_true (by kernel_rfl)) Try.underlying22 (hval 0 22 v0 rfl rfl) h0
  obtain ⟨l, hl, hok, hlen⟩ := list_of int1 i64 Try.underlying22 k3 int_one ha
  have hbl : l.length < 10000000 := by
    have := of_decide_eq_true hk
    simp only [Rows.uptoBulkAll, List.append_nil] at this
    omega
  exact law_post progOk extOk mixed (fun _ => rfl) (fun σ _ => globOk_none fun g => rfl) laidOut (by rw [hpar]; kernel_rfl) hvars hres Try.underlying4 hW' (by simpa using hfn T d0)
    (avs := [a]) (.cons hrep .nil) (hrun a l hl hok hbl)
set_option maxRecDepth 100000 in
/-- A list of whole numbers, and one more. -/
theorem two_ints {f : FuncId} {fn : Func} {s : ChangeSpec} (hpar : fn.params = #[22, 3]) (hvars : s.vars = []) (hfn : ∀ (T : Type) (d1 d2 : DataW T), s.fn T [d1, d2] = { results := [.lit (.bool true)], args := [d1, d2] }) (hres : fn.resultTypes = #[4])
    (hrun : ∀ (a : AV) (l : List Int) (m : Int), Sl 1 a (ints l) → (∀ x ∈ l, i64 x) → l.length < 10000000 → cw f [a, .int .i64 m] [] = some (.ret (.bool true), []))
    (T : Type) (enc : TypeId × Value → T) (W : World) (base : Nat) (args : Array Value) (ds gs : List (DataW T)) (before : List MemPlace)
    (hval : ∀ (j : Nat) t v, fn.params[j]? = some t → args[j]? = some v → Value.okWide Try.prog W .any base t v)
    (hW : DataW.Whole enc Try.prog fn.params.toList s.vars false W args.toList ds gs before) (hk : Rows.uptoSmall T (ds ++ gs) = true) :
    Calls Try.prog f args W fun e W' => ∃ v, e = .returned v ∧ s.post enc Try.prog fn false true false false W args v W' := by
  have hW' := hW
  obtain ⟨p, q, hA0, hV, rfl, hfz, hnd⟩ := hW
  have hA : DataW.TrodAll enc Try.prog W 0 (fun _ => true) true fn.params.toList args.toList ds p := hA0
  rw [hpar] at hA hval
  obtain ⟨v0, vs0, d0, ds0, p0, q0, hargs, rfl, rfl, h0, r0⟩ := trodAll_cons hA
  obtain ⟨v1, vs1, d1, ds1, p1, q1, rfl, rfl, rfl, h1, r1⟩ := trodAll_cons r0
  obtain ⟨rfl, rfl, rfl⟩ := trodAll_nil r1
  obtain rfl : args = #[v0, v1] := by cases args; simp_all
  rw [hvars] at hV
  obtain ⟨rfl, rfl⟩ := trodVars_none hV
  obtain ⟨m, rfl, rfl, rfl, wat⟩ := open_int Try.underlying3 (hval 1 3 v1 rfl rfl) h1
  obtain ⟨n, a, ha, hrep⟩ := arg_slice laidOut plain22 flat22 (by simp) (of_decide_eq_true (by kernel_rfl)) Try.underlying22 (hval 0 22 v0 rfl rfl) h0
  obtain ⟨l, hl, hok, hlen⟩ := list_of int1 i64 Try.underlying22 k3 int_one ha
  have hbl : l.length < 10000000 := by
    have := of_decide_eq_true hk
    simp only [Rows.uptoBulkAll, List.append_nil] at this
    omega
  exact law_post progOk extOk mixed (fun _ => rfl) (fun σ _ => globOk_none fun g => rfl) laidOut (by rw [hpar]; kernel_rfl) hvars hres Try.underlying4 hW' (by simpa using hfn T d0 (.lit (.int .i64 m)))
    (avs := [a, .int .i64 m]) (.cons hrep (.cons (.int _ _) .nil)) (hrun a l m hl hok hbl)
set_option maxRecDepth 100000 in
/-- Two lists of keys. -/
theorem two_keys {f : FuncId} {fn : Func} {s : ChangeSpec} (hpar : fn.params = #[28, 28]) (hvars : s.vars = []) (hfn : ∀ (T : Type) (d1 d2 : DataW T), s.fn T [d1, d2] = { results := [.lit (.bool true)], args := [d1, d2] }) (hres : fn.resultTypes = #[4])
    (hrun : ∀ (a b : AV) (l m : List Key), Sl 3 a (keys l) → Sl 3 b (keys m) → l.length < 10000000 → m.length < 10000000 → cw f [a, b] [] = some (.ret (.bool true), []))
    (T : Type) (enc : TypeId × Value → T) (W : World) (base : Nat) (args : Array Value) (ds gs : List (DataW T)) (before : List MemPlace)
    (hval : ∀ (j : Nat) t v, fn.params[j]? = some t → args[j]? = some v → Value.okWide Try.prog W .any base t v)
    (hW : DataW.Whole enc Try.prog fn.params.toList s.vars false W args.toList ds gs before) (hk : Rows.uptoSmall T (ds ++ gs) = true) :
    Calls Try.prog f args W fun e W' => ∃ v, e = .returned v ∧ s.post enc Try.prog fn false true false false W args v W' := by
  have hW' := hW
  obtain ⟨p, q, hA0, hV, rfl, hfz, hnd⟩ := hW
  have hA : DataW.TrodAll enc Try.prog W 0 (fun _ => true) true fn.params.toList args.toList ds p := hA0
  rw [hpar] at hA hval
  obtain ⟨v0, vs0, d0, ds0, p0, q0, hargs, rfl, rfl, h0, r0⟩ := trodAll_cons hA
  obtain ⟨v1, vs1, d1, ds1, p1, q1, rfl, rfl, rfl, h1, r1⟩ := trodAll_cons r0
  obtain ⟨rfl, rfl, rfl⟩ := trodAll_nil r1
  obtain rfl : args = #[v0, v1] := by cases args; simp_all
  rw [hvars] at hV
  obtain ⟨rfl, rfl⟩ := trodVars_none hV
  obtain ⟨n, a, ha, hrep⟩ := arg_slice laidOut plain28 flat28 (by simp) (of_decide_eq_true (by kernel_rfl)) Try.underlying28 (hval 0 28 v0 rfl rfl) h0
  obtain ⟨l, hl, _, hlen⟩ := list_of keyC (fun _ => True) Try.underlying28 k57 key_one ha
  obtain ⟨n', b, hb, hrep'⟩ := arg_slice laidOut plain28 flat28 (by simp) (of_decide_eq_true (by kernel_rfl)) Try.underlying28 (hval 1 28 v1 rfl rfl) h1
  obtain ⟨m, hm, _, hlen'⟩ := list_of keyC (fun _ => True) Try.underlying28 k57 key_one hb
  have hbl := of_decide_eq_true hk
  simp only [Rows.uptoBulkAll, List.append_nil] at hbl
  exact law_post progOk extOk mixed (fun _ => rfl) (fun σ _ => globOk_none fun g => rfl) laidOut (by rw [hpar]; kernel_rfl) hvars hres Try.underlying4 hW' (by simpa using hfn T d0 d1)
    (avs := [a, b]) (.cons hrep (.cons hrep' .nil)) (hrun a b l m hl hm (by omega) (by omega))

set_option maxRecDepth 100000 in
theorem longest_lifted (os : Os) (started : os.Started) (H : Type) (enc : TypeId × Value → H) (F : Stop.Interp) :
    ReturnsInHanded {} Try.checked os 3 .any ((Rows.OpenSpec.upto Rows.lisLongestSpec).pre6 enc Try.prog Try.f3 Rows.lisLongestUptoRow.domain false) (((Rows.OpenSpec.upto Rows.lisLongestSpec).at F).post enc Try.prog Try.f3 false true false false) := by
  refine returnsInHanded_of_cond (C := Try.checked) (s := Rows.OpenSpec.upto Rows.lisLongestSpec) (k := Rows.uptoSmall) rfl own started (by kernel_rfl) Try.func3
    (OpenSpec.witness (enc := enc) (C := Try.checked) (s := Rows.OpenSpec.upto Rows.lisLongestSpec) (k := Rows.uptoSmall) rfl false ⟨#[], #[.slice none 0 0], []⟩ 8 (by kernel_rfl) (by kernel_rfl) (by kernel_rfl)
      (x := ([.nil], [], [])) (by kernel_rfl) rfl (by kernel_rfl)) ?_
  intro W base args ds gs before hval hW _ hk _
  exact one_ints (f := 3) (fn := Try.f3) (s := Rows.lisLongestSpec) Try.params3 rfl (fun _ _ => rfl) rfl (fun a l h1 h2 h3 => lisLongest_run [] Cl.nil h1 h3) H enc W base args ds gs before hval hW hk
theorem longest_over : Rows.lisLongestUptoRow.holds Try.pinned (Rows.OpenSpec.upto Rows.lisLongestSpec) :=
  OpenClaim.holds_of_cond 3 Try.f3 rfl rfl rfl rfl rfl rfl rfl ⟨rfl, rfl, rfl, rfl, rfl⟩ rfl rfl rfl rfl rfl (by kernel_rfl) Try.func3 (by kernel_rfl)
    (of_decide_eq_true (by kernel_rfl)) (by unfold Func.isWrapper; first | (rw [if_pos (by decide +kernel)]; kernel_rfl) | (rw [if_neg (by decide +kernel)]; exact ⟨rfl, rfl⟩))
    (fun os started H enc _ F => longest_lifted os started H enc F)
theorem lisLongest_holds : Rows.LisLongestUptoSaid := longest_over

set_option maxRecDepth 100000 in
theorem moves_lifted (os : Os) (started : os.Started) (H : Type) (enc : TypeId × Value → H) (F : Stop.Interp) :
    ReturnsInHanded {} Try.checked os 4 .any ((Rows.OpenSpec.upto Rows.lisMovesSpec).pre6 enc Try.prog Try.f4 Rows.lisMovesUptoRow.domain false) (((Rows.OpenSpec.upto Rows.lisMovesSpec).at F).post enc Try.prog Try.f4 false true false false) := by
  refine returnsInHanded_of_cond (C := Try.checked) (s := Rows.OpenSpec.upto Rows.lisMovesSpec) (k := Rows.uptoSmall) rfl own started (by kernel_rfl) Try.func4
    (OpenSpec.witness (enc := enc) (C := Try.checked) (s := Rows.OpenSpec.upto Rows.lisMovesSpec) (k := Rows.uptoSmall) rfl false ⟨#[], #[.slice none 0 0, .slice none 0 0], []⟩ 8 (by kernel_rfl) (by kernel_rfl) (by kernel_rfl)
      (x := ([.nil, .nil], [], [])) (by kernel_rfl) rfl (by kernel_rfl)) ?_
  intro W base args ds gs before hval hW _ hk _
  exact two_keys (f := 4) (fn := Try.f4) (s := Rows.lisMovesSpec) Try.params4 rfl (fun _ _ _ => rfl) rfl (fun a b l m h1 h2 h3 h4 => lisMoves_run [] Cl.nil h1 h2 (by omega) (by omega)) H enc W base args ds gs before hval hW hk
theorem moves_over : Rows.lisMovesUptoRow.holds Try.pinned (Rows.OpenSpec.upto Rows.lisMovesSpec) :=
  OpenClaim.holds_of_cond 4 Try.f4 rfl rfl rfl rfl rfl rfl rfl ⟨rfl, rfl, rfl, rfl, rfl⟩ rfl rfl rfl rfl rfl (by kernel_rfl) Try.func4 (by kernel_rfl)
    (of_decide_eq_true (by kernel_rfl)) (by unfold Func.isWrapper; first | (rw [if_pos (by decide +kernel)]; kernel_rfl) | (rw [if_neg (by decide +kernel)]; exact ⟨rfl, rfl⟩))
    (fun os started H enc _ F => moves_lifted os started H enc F)
theorem lisMoves_holds : Rows.LisMovesUptoSaid := moves_over

set_option maxRecDepth 100000 in
theorem rises_lifted (os : Os) (started : os.Started) (H : Type) (enc : TypeId × Value → H) (F : Stop.Interp) :
    ReturnsInHanded {} Try.checked os 5 .any ((Rows.OpenSpec.upto Rows.lisRisesSpec).pre6 enc Try.prog Try.f5 Rows.lisRisesUptoRow.domain false) (((Rows.OpenSpec.upto Rows.lisRisesSpec).at F).post enc Try.prog Try.f5 false true false false) := by
  refine returnsInHanded_of_cond (C := Try.checked) (s := Rows.OpenSpec.upto Rows.lisRisesSpec) (k := Rows.uptoSmall) rfl own started (by kernel_rfl) Try.func5
    (OpenSpec.witness (enc := enc) (C := Try.checked) (s := Rows.OpenSpec.upto Rows.lisRisesSpec) (k := Rows.uptoSmall) rfl false ⟨#[], #[.slice none 0 0, .int .i64 0], []⟩ 8 (by kernel_rfl) (by kernel_rfl) (by kernel_rfl)
      (x := ([.nil, .lit (.int .i64 0)], [], [])) (by kernel_rfl) rfl (by kernel_rfl)) ?_
  intro W base args ds gs before hval hW _ hk _
  exact two_ints (f := 5) (fn := Try.f5) (s := Rows.lisRisesSpec) Try.params5 rfl (fun _ _ _ => rfl) rfl (fun a l m h1 h2 h3 => lisRises_run [] Cl.nil h1 h3 m) H enc W base args ds gs before hval hW hk
theorem rises_over : Rows.lisRisesUptoRow.holds Try.pinned (Rows.OpenSpec.upto Rows.lisRisesSpec) :=
  OpenClaim.holds_of_cond 5 Try.f5 rfl rfl rfl rfl rfl rfl rfl ⟨rfl, rfl, rfl, rfl, rfl⟩ rfl rfl rfl rfl rfl (by kernel_rfl) Try.func5 (by kernel_rfl)
    (of_decide_eq_true (by kernel_rfl)) (by unfold Func.isWrapper; first | (rw [if_pos (by decide +kernel)]; kernel_rfl) | (rw [if_neg (by decide +kernel)]; exact ⟨rfl, rfl⟩))
    (fun os started H enc _ F => rises_lifted os started H enc F)
theorem lisRises_holds : Rows.LisRisesUptoSaid := rises_over

set_option maxRecDepth 100000 in
theorem piles_lifted (os : Os) (started : os.Started) (H : Type) (enc : TypeId × Value → H) (F : Stop.Interp) :
    ReturnsInHanded {} Try.checked os 6 .any ((Rows.OpenSpec.upto Rows.lisPilesSpec).pre6 enc Try.prog Try.f6 Rows.lisPilesUptoRow.domain false) (((Rows.OpenSpec.upto Rows.lisPilesSpec).at F).post enc Try.prog Try.f6 false true false false) := by
  refine returnsInHanded_of_cond (C := Try.checked) (s := Rows.OpenSpec.upto Rows.lisPilesSpec) (k := Rows.uptoSmall) rfl own started (by kernel_rfl) Try.func6
    (OpenSpec.witness (enc := enc) (C := Try.checked) (s := Rows.OpenSpec.upto Rows.lisPilesSpec) (k := Rows.uptoSmall) rfl false ⟨#[], #[.slice none 0 0], []⟩ 8 (by kernel_rfl) (by kernel_rfl) (by kernel_rfl)
      (x := ([.nil], [], [])) (by kernel_rfl) rfl (by kernel_rfl)) ?_
  intro W base args ds gs before hval hW _ hk _
  exact one_ints (f := 6) (fn := Try.f6) (s := Rows.lisPilesSpec) Try.params6 rfl (fun _ _ => rfl) rfl (fun a l h1 h2 h3 => lisPiles_run [] Cl.nil h1 h2 h3) H enc W base args ds gs before hval hW hk
theorem piles_over : Rows.lisPilesUptoRow.holds Try.pinned (Rows.OpenSpec.upto Rows.lisPilesSpec) :=
  OpenClaim.holds_of_cond 6 Try.f6 rfl rfl rfl rfl rfl rfl rfl ⟨rfl, rfl, rfl, rfl, rfl⟩ rfl rfl rfl rfl rfl (by kernel_rfl) Try.func6 (by kernel_rfl)
    (of_decide_eq_true (by kernel_rfl)) (by unfold Func.isWrapper; first | (rw [if_pos (by decide +kernel)]; kernel_rfl) | (rw [if_neg (by decide +kernel)]; exact ⟨rfl, rfl⟩))
    (fun os started H enc _ F => piles_lifted os started H enc F)
theorem lisPiles_holds : Rows.LisPilesUptoSaid := piles_over

set_option maxRecDepth 100000 in
theorem keys_lifted (os : Os) (started : os.Started) (H : Type) (enc : TypeId × Value → H) (F : Stop.Interp) :
    ReturnsInHanded {} Try.checked os 7 .any ((Rows.OpenSpec.upto Rows.lisKeysSpec).pre6 enc Try.prog Try.f7 Rows.lisKeysUptoRow.domain false) (((Rows.OpenSpec.upto Rows.lisKeysSpec).at F).post enc Try.prog Try.f7 false true false false) := by
  refine returnsInHanded_of_cond (C := Try.checked) (s := Rows.OpenSpec.upto Rows.lisKeysSpec) (k := Rows.uptoSmall) rfl own started (by kernel_rfl) Try.func7
    (OpenSpec.witness (enc := enc) (C := Try.checked) (s := Rows.OpenSpec.upto Rows.lisKeysSpec) (k := Rows.uptoSmall) rfl false ⟨#[], #[.slice none 0 0, .slice none 0 0], []⟩ 8 (by kernel_rfl) (by kernel_rfl) (by kernel_rfl)
      (x := ([.nil, .nil], [], [])) (by kernel_rfl) rfl (by kernel_rfl)) ?_
  intro W base args ds gs before hval hW _ hk _
  exact two_keys (f := 7) (fn := Try.f7) (s := Rows.lisKeysSpec) Try.params7 rfl (fun _ _ _ => rfl) rfl (fun a b l m h1 h2 h3 h4 => lisKeys_run [] Cl.nil h1 h2 (by omega) (by omega)) H enc W base args ds gs before hval hW hk
theorem keys_over : Rows.lisKeysUptoRow.holds Try.pinned (Rows.OpenSpec.upto Rows.lisKeysSpec) :=
  OpenClaim.holds_of_cond 7 Try.f7 rfl rfl rfl rfl rfl rfl rfl ⟨rfl, rfl, rfl, rfl, rfl⟩ rfl rfl rfl rfl rfl (by kernel_rfl) Try.func7 (by kernel_rfl)
    (of_decide_eq_true (by kernel_rfl)) (by unfold Func.isWrapper; first | (rw [if_pos (by decide +kernel)]; kernel_rfl) | (rw [if_neg (by decide +kernel)]; exact ⟨rfl, rfl⟩))
    (fun os started H enc _ F => keys_lifted os started H enc F)
theorem lisKeys_holds : Rows.LisKeysUptoSaid := keys_over
#print axioms lisLongest_holds
#print axioms lisMoves_holds
#print axioms lisRises_holds
#print axioms lisPiles_holds
#print axioms lisKeys_holds
end Go.Proofs.Ytahpohhadcflfaa
