/- The laws of chapter 2, from their runs by value to the given rows. -/
import Derived.Test.YtcphoefiiejlhaaRows
import Derived.Test.YtcphoefiiejlhaaZC
import Derived.Test.YtcphoefiiejlhaaZLebRun
import Derived.WalkKit
import Derived.ProofKit
namespace Go.Proofs.Ytcphoefiiejlhaa
open Go Go.Abs Go.ChangeShapes Go.WideShapes Go.ChangeAt Go.RowKit
set_option linter.unusedVariables false

theorem own : ownKnob Try.prog.godebug = none := by kernel_rfl
theorem laidOut : laidOutB Try.prog = true := by kernel_rfl
theorem progOk : ProgOk Try.prog tryhints := progOk_of (by kernel_rfl)
theorem extOk : ExtOk Try.prog tryhints := extOk_none fun g => rfl
theorem mixed : Try.prog.follows .mixedOrders = true := by kernel_rfl

section
variable {T : Type}
theorem bulk_one (d : DataW T) : 1 ≤ Rows.uptoBulk d := by
  cases d with
  | lit l => cases l <;> simp [Rows.uptoBulk]
  | nil => simp [Rows.uptoBulk]
  | ptr d => simp [Rows.uptoBulk]
  | slice elems spare => simp [Rows.uptoBulk]
  | agg parts => simp [Rows.uptoBulk]
  | iface t d => simp [Rows.uptoBulk]
  | map entries => simp [Rows.uptoBulk]
  | held h => simp [Rows.uptoBulk]
theorem bulk_len (l : List (DataW T)) : l.length ≤ Rows.uptoBulkAll l := by
  induction l with
  | nil => exact Nat.le_refl _
  | cons x r ih =>
    have := bulk_one x
    simp only [Rows.uptoBulkAll, List.length_cons]; omega

theorem bytes_of {P : Program} {t e : TypeId} (hu : P.underlying t = some (.slice e)) (he : P.underlying e = some (.int .u8)) (hk : kdOf P e = some 0) {n : Nat} {d : DataW T} {a : AV} (h : avD P n t d = some [a]) :
    ∃ b, Bs a b ∧ okB b ∧ b.length ≤ Rows.uptoBulk d := by
  rcases avD_slice hu h with ⟨rfl, h2⟩ | ⟨m, elems, spare, kd, rows, rfl, rfl, hkd, hr, h2⟩
  · simp only [List.cons.injEq, and_true] at h2
    subst h2
    exact ⟨[], .nil, by simp [okB], by simp⟩
  · rw [hk] at hkd
    simp only [Option.some.injEq] at hkd
    subst hkd
    simp only [List.cons.injEq, and_true] at h2
    subst h2
    have key : ∀ (els : List (DataW T)) (rows : List (List AV)), els.mapM (avD P m e) = some rows → ∃ b : List Int, rows = b.map byt ∧ okB b := by
      intro els
      induction els with
      | nil => intro rows h; simp at h; subst h; exact ⟨[], rfl, by simp [okB]⟩
      | cons x els ih =>
        intro rows h
        rw [List.mapM_cons] at h
        obtain ⟨r, hr, h2⟩ := Option.bind_eq_some_iff.1 h
        obtain ⟨rs, hrs, h3⟩ := Option.bind_eq_some_iff.1 h2
        simp only [Option.pure_def, Option.some.injEq] at h3
        subst h3
        obtain ⟨b, rfl, hb⟩ := ih rs hrs
        obtain ⟨c, rfl, hw, rfl⟩ := avD_int he hr
        refine ⟨c :: b, rfl, fun c' hc' => ?_⟩
        rcases List.mem_cons.1 hc' with rfl | hc'
        · simp [Lit.wf, IntKind.min, IntKind.max, IntKind.signed, IntKind.bits] at hw
          omega
        · exact hb c' hc'
    obtain ⟨b, rfl, hb⟩ := key elems rows hr
    have hl := mapM_len hr
    refine ⟨b, ?_, hb, ?_⟩
    · have := bs_lit b .no
      simpa using this
    · have h1 := bulk_len elems
      simp only [Rows.uptoBulk]
      simp at hl
      omega
end

theorem bool4 : Try.prog.underlying 4 = some .bool := Try.underlying4
theorem plain24 : plainSetB Try.prog [24, 5, 3] = true := by kernel_rfl
theorem flat24 : flatB Try.prog [24, 5, 3] = true := by kernel_rfl
theorem k5 : kdOf Try.prog 5 = some 0 := by kernel_rfl


/-- One argument of bytes, one whole number. -/
theorem two_args {f : FuncId} {fn : Func} {s : ChangeSpec} (hpar : fn.params = #[24, 3]) (hvars : s.vars = []) (hfn : ∀ (T : Type) (d1 d2 : DataW T), s.fn T [d1, d2] = { results := [.lit (.bool true)], args := [d1, d2] }) (hres : fn.resultTypes = #[4])
    (hrun : ∀ (a : AV) (b : List Int) (at' : Int), Bs a b → okB b → b.length < 2000000 → i64 at' → cw f [a, .int .i64 at'] [] = some (.ret (.bool true), []))
    (T : Type) (enc : TypeId × Value → T) (W : World) (base : Nat) (args : Array Value) (ds gs : List (DataW T)) (before : List MemPlace)
    (hval : ∀ (j : Nat) t v, fn.params[j]? = some t → args[j]? = some v → Value.okWide Try.prog W .any base t v)
    (hW : DataW.Whole enc Try.prog fn.params.toList s.vars false W args.toList ds gs before) (hk : Rows.uptoSmall T (ds ++ gs) = true) :
    Calls Try.prog f args W fun e W' => ∃ v, e = .returned v ∧ s.post enc Try.prog fn false true false false W args v W' := by
  have hW' := hW
  obtain ⟨p, q, hA0, hV, rfl, hfz, hnd⟩ := hW
  have hA : DataW.TrodAll enc Try.prog W 0 (fun _ => true) true fn.params.toList args.toList ds p := hA0
  rw [hpar] at hA hval
  obtain ⟨v0, vs0, d0, ds0, p0, q0, hargs, rfl, rfl, h0, r0⟩ := trodAll_cons hA
  obtain ⟨v1, vs1, d1, ds1, p1, q1, rfl, rfl, rfl, h1, r1⟩ := trodAll_cons r0
  obtain ⟨rfl, rfl, rfl⟩ := trodAll_nil r1
  obtain rfl : args = #[v0, v1] := by cases args; simp_all
  rw [hvars] at hV
  obtain ⟨rfl, rfl⟩ := trodVars_none hV
  obtain ⟨at', rfl, rfl, rfl, wat⟩ := open_int Try.underlying3 (hval 1 3 v1 rfl rfl) h1
  obtain ⟨n, a, ha, hrep⟩ := arg_slice laidOut plain24 flat24 (by simp) (of_decide_eq_true (by kernel_rfl)) Try.underlying24 (hval 0 24 v0 rfl rfl) h0
  obtain ⟨b, hb, hok, hlen⟩ := bytes_of Try.underlying24 Try.underlying5 k5 ha
  have hbl : b.length < 2000000 := by
    have := of_decide_eq_true hk
    simp only [Rows.uptoBulkAll, List.append_nil] at this
    omega
  have hat : i64 at' := by
    simp [Lit.wf, IntKind.min, IntKind.max, IntKind.signed, IntKind.bits] at wat
    exact ⟨by omega, by omega⟩
  exact law_post progOk extOk mixed (fun _ => rfl) (fun σ _ => globOk_none fun g => rfl) laidOut (by rw [hpar]; kernel_rfl) hvars hres Try.underlying4 hW' (by simpa using hfn T d0 (.lit (.int .i64 at')))
    (avs := [a, .int .i64 at']) (.cons hrep (.cons (.int _ _) .nil)) (hrun a b at' hb hok hbl hat)

set_option maxRecDepth 100000 in
theorem takes_lifted (os : Os) (started : os.Started) (H : Type) (enc : TypeId × Value → H) (F : Stop.Interp) :
    ReturnsInHanded {} Try.checked os 5 .any ((Rows.OpenSpec.upto Rows.lebTakesSpec).pre6 enc Try.prog Try.f5 Rows.lebTakesUptoRow.domain false) (((Rows.OpenSpec.upto Rows.lebTakesSpec).at F).post enc Try.prog Try.f5 false true false false) := by
  refine returnsInHanded_of_cond (C := Try.checked) (s := Rows.OpenSpec.upto Rows.lebTakesSpec) (k := Rows.uptoSmall) rfl own started (by kernel_rfl) Try.func5
    (OpenSpec.witness (enc := enc) (C := Try.checked) (s := Rows.OpenSpec.upto Rows.lebTakesSpec) (k := Rows.uptoSmall) rfl false ⟨#[], #[.slice none 0 0, .int .i64 0], []⟩ 8 (by kernel_rfl) (by kernel_rfl) (by kernel_rfl)
      (x := ([.nil, .lit (.int .i64 0)], [], [])) (by kernel_rfl) rfl (by kernel_rfl)) ?_
  intro W base args ds gs before hval hW _ hk _
  exact two_args (f := 5) (fn := Try.f5) (s := Rows.lebTakesSpec) Try.params5 rfl (fun _ _ _ => rfl) rfl (fun a b at' h1 h2 h3 h4 => lebTakes_run [] Cl.nil h2 h3 h1 at') H enc W base args ds gs before hval hW hk
theorem takes_over : Rows.lebTakesUptoRow.holds Try.pinned (Rows.OpenSpec.upto Rows.lebTakesSpec) :=
  OpenClaim.holds_of_cond 5 Try.f5 rfl rfl rfl rfl rfl rfl rfl ⟨rfl, rfl, rfl, rfl, rfl⟩ rfl rfl rfl rfl rfl (by kernel_rfl) Try.func5 (by kernel_rfl)
    (of_decide_eq_true (by kernel_rfl)) (by unfold Func.isWrapper; first | (rw [if_pos (by decide +kernel)]; kernel_rfl) | (rw [if_neg (by decide +kernel)]; exact ⟨rfl, rfl⟩))
    (fun os started H enc _ F => takes_lifted os started H enc F)
theorem lebTakes_holds : Rows.LebTakesUptoSaid := takes_over

set_option maxRecDepth 100000 in
theorem forms_lifted (os : Os) (started : os.Started) (H : Type) (enc : TypeId × Value → H) (F : Stop.Interp) :
    ReturnsInHanded {} Try.checked os 6 .any ((Rows.OpenSpec.upto Rows.lebFormsSpec).pre6 enc Try.prog Try.f6 Rows.lebFormsUptoRow.domain false) (((Rows.OpenSpec.upto Rows.lebFormsSpec).at F).post enc Try.prog Try.f6 false true false false) := by
  refine returnsInHanded_of_cond (C := Try.checked) (s := Rows.OpenSpec.upto Rows.lebFormsSpec) (k := Rows.uptoSmall) rfl own started (by kernel_rfl) Try.func6
    (OpenSpec.witness (enc := enc) (C := Try.checked) (s := Rows.OpenSpec.upto Rows.lebFormsSpec) (k := Rows.uptoSmall) rfl false ⟨#[], #[.slice none 0 0, .int .i64 0], []⟩ 8 (by kernel_rfl) (by kernel_rfl) (by kernel_rfl)
      (x := ([.nil, .lit (.int .i64 0)], [], [])) (by kernel_rfl) rfl (by kernel_rfl)) ?_
  intro W base args ds gs before hval hW _ hk _
  exact two_args (f := 6) (fn := Try.f6) (s := Rows.lebFormsSpec) Try.params6 rfl (fun _ _ _ => rfl) rfl (fun a b at' h1 h2 h3 h4 => lebForms_run [] Cl.nil h2 h3 h1 h4) H enc W base args ds gs before hval hW hk
theorem forms_over : Rows.lebFormsUptoRow.holds Try.pinned (Rows.OpenSpec.upto Rows.lebFormsSpec) :=
  OpenClaim.holds_of_cond 6 Try.f6 rfl rfl rfl rfl rfl rfl rfl ⟨rfl, rfl, rfl, rfl, rfl⟩ rfl rfl rfl rfl rfl (by kernel_rfl) Try.func6 (by kernel_rfl)
    (of_decide_eq_true (by kernel_rfl)) (by unfold Func.isWrapper; first | (rw [if_pos (by decide +kernel)]; kernel_rfl) | (rw [if_neg (by decide +kernel)]; exact ⟨rfl, rfl⟩))
    (fun os started H enc _ F => forms_lifted os started H enc F)
theorem lebForms_holds : Rows.LebFormsUptoSaid := forms_over

/-! ### Three numbers -/
theorem orders_contract (T : Type) (enc : TypeId × Value → T) (W : World) (base : Nat) (args : Array Value) (ds gs : List (DataW T)) (before : List MemPlace)
    (hval : ∀ (j : Nat) t v, Try.f7.params[j]? = some t → args[j]? = some v → Value.okWide Try.prog W .any base t v)
    (hW : DataW.Whole enc Try.prog Try.f7.params.toList Rows.lebOrdersSpec.vars false W args.toList ds gs before) :
    Calls Try.prog 7 args W fun e W' => ∃ v, e = .returned v ∧ Rows.lebOrdersSpec.post enc Try.prog Try.f7 false true false false W args v W' := by
  have hW' := hW
  obtain ⟨p, q, hA0, hV, rfl, hfz, hnd⟩ := hW
  have hA : DataW.TrodAll enc Try.prog W 0 (fun _ => true) true Try.f7.params.toList args.toList ds p := hA0
  rw [Try.params7] at hA hval
  obtain ⟨v0, vs0, d0, ds0, p0, q0, hargs, rfl, rfl, h0, r0⟩ := trodAll_cons hA
  obtain ⟨v1, vs1, d1, ds1, p1, q1, rfl, rfl, rfl, h1, r1⟩ := trodAll_cons r0
  obtain ⟨v2, vs2, d2, ds2, p2, q2, rfl, rfl, rfl, h2, r2⟩ := trodAll_cons r1
  obtain ⟨rfl, rfl, rfl⟩ := trodAll_nil r2
  obtain rfl : args = #[v0, v1, v2] := by cases args; simp_all
  obtain ⟨rfl, rfl⟩ := trodVars_none hV
  obtain ⟨x, rfl, rfl, rfl, wx⟩ := open_int Try.underlying23 (hval 0 23 v0 rfl rfl) h0
  obtain ⟨y, rfl, rfl, rfl, wy⟩ := open_int Try.underlying23 (hval 1 23 v1 rfl rfl) h1
  obtain ⟨z, rfl, rfl, rfl, wz⟩ := open_int Try.underlying3 (hval 2 3 v2 rfl rfl) h2
  simp [Lit.wf, IntKind.min, IntKind.max, IntKind.signed, IntKind.bits] at wx wy wz
  obtain ⟨x, rfl⟩ := Int.eq_ofNat_of_zero_le wx.1
  obtain ⟨y, rfl⟩ := Int.eq_ofNat_of_zero_le wy.1
  exact law_post progOk extOk mixed (fun _ => rfl) (fun σ _ => globOk_none fun g => rfl) laidOut (by kernel_rfl) rfl rfl Try.underlying4 hW' rfl
    (avs := [.int .u64 x, .int .u64 y, .int .i64 z]) (.cons (.int _ _) (.cons (.int _ _) (.cons (.int _ _) .nil))) (lebOrders_run [] Cl.nil (by omega) (by omega) ⟨by omega, by omega⟩)

set_option maxRecDepth 100000 in
theorem orders_lifted (os : Os) (started : os.Started) (H : Type) (enc : TypeId × Value → H) :
    ReturnsInHanded {} Try.checked os 7 .any (Rows.lebOrdersSpec.pre6 enc Try.prog Try.f7 Rows.lebOrdersRow.domain false) (Rows.lebOrdersSpec.post enc Try.prog Try.f7 false true false false) := by
  refine returnsInHanded_of_change_sized (C := Try.checked) own started (by kernel_rfl) Try.func7
    (ChangeSpec.witness6 (enc := enc) (C := Try.checked) false ⟨#[], #[.int .u64 0, .int .u64 0, .int .i64 0], []⟩ 8 (by kernel_rfl) (by kernel_rfl) (by kernel_rfl) (by kernel_rfl)) ?_
  intro W base args ds gs before hval hW _ _ _
  exact orders_contract H enc W base args ds gs before hval hW
theorem orders_over : Rows.lebOrdersRow.holds Try.pinned (OpenSpec.ofChange Rows.lebOrdersSpec) :=
  OpenClaim.holds_of_wide 7 Try.f7 rfl rfl rfl rfl rfl rfl rfl ⟨rfl, rfl, rfl, rfl, rfl⟩ rfl rfl rfl rfl rfl (by kernel_rfl) Try.func7 (by kernel_rfl)
    (of_decide_eq_true (by kernel_rfl)) (by unfold Func.isWrapper; first | (rw [if_pos (by decide +kernel)]; kernel_rfl) | (rw [if_neg (by decide +kernel)]; exact ⟨rfl, rfl⟩))
    (fun os started H enc _ => orders_lifted os started H enc)
theorem lebOrders_holds : Rows.LebOrdersSaid := orders_over
#print axioms lebTakes_holds
#print axioms lebForms_holds
#print axioms lebOrders_holds
end Go.Proofs.Ytcphoefiiejlhaa
