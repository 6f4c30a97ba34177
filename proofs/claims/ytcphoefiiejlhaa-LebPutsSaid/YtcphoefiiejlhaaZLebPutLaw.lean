/- The law LebPuts, from its run by value to the given row: for every two numbers it answers true; no condition. -/
import Derived.Test.YtcphoefiiejlhaaRows
import Derived.Test.YtcphoefiiejlhaaZC
import Derived.Test.YtcphoefiiejlhaaZLebPutRun
import Derived.WalkKit
import Derived.ProofKit
namespace Go.Proofs.Ytcphoefiiejlhaa
open Go Go.Abs Go.ChangeShapes Go.WideShapes Go.ChangeAt Go.RowKit
set_option linter.unusedVariables false

theorem own : ownKnob Try.prog.godebug = none := by kernel_rfl
theorem laidOut : laidOutB Try.prog = true := by kernel_rfl
theorem progOk : ProgOk Try.prog tryhints := progOk_of (by kernel_rfl)
theorem extOk : ExtOk Try.prog tryhints := extOk_none fun g => rfl
theorem mixed : Try.prog.follows .mixedOrders = true := by kernel_rfl

/-! ### Two numbers -/
theorem puts_contract (T : Type) (enc : TypeId × Value → T) (W : World) (base : Nat) (args : Array Value) (ds gs : List (DataW T)) (before : List MemPlace)
    (hval : ∀ (j : Nat) t v, Try.f4.params[j]? = some t → args[j]? = some v → Value.okWide Try.prog W .any base t v)
    (hW : DataW.Whole enc Try.prog Try.f4.params.toList Rows.lebPutsSpec.vars false W args.toList ds gs before) :
    Calls Try.prog 4 args W fun e W' => ∃ v, e = .returned v ∧ Rows.lebPutsSpec.post enc Try.prog Try.f4 false true false false W args v W' := by
  have hW' := hW
  obtain ⟨p, q, hA0, hV, rfl, hfz, hnd⟩ := hW
  have hA : DataW.TrodAll enc Try.prog W 0 (fun _ => true) true Try.f4.params.toList args.toList ds p := hA0
  rw [Try.params4] at hA hval
  obtain ⟨v0, vs0, d0, ds0, p0, q0, hargs, rfl, rfl, h0, r0⟩ := trodAll_cons hA
  obtain ⟨v1, vs1, d1, ds1, p1, q1, rfl, rfl, rfl, h1, r1⟩ := trodAll_cons r0
  obtain ⟨rfl, rfl, rfl⟩ := trodAll_nil r1
  obtain rfl : args = #[v0, v1] := by cases args; simp_all
  obtain ⟨rfl, rfl⟩ := trodVars_none hV
  obtain ⟨x, rfl, rfl, rfl, wx⟩ := open_int Try.underlying23 (hval 0 23 v0 rfl rfl) h0
  obtain ⟨z, rfl, rfl, rfl, wz⟩ := open_int Try.underlying3 (hval 1 3 v1 rfl rfl) h1
  simp [Lit.wf, IntKind.min, IntKind.max, IntKind.signed, IntKind.bits] at wx wz
  obtain ⟨x, rfl⟩ := Int.eq_ofNat_of_zero_le wx.1
  exact law_post progOk extOk mixed (fun _ => rfl) (fun σ _ => globOk_none fun g => rfl) laidOut (by kernel_rfl) rfl rfl Try.underlying4 hW' rfl
    (avs := [.int .u64 x, .int .i64 z]) (.cons (.int _ _) (.cons (.int _ _) .nil)) (lebPuts_run [] Cl.nil (by omega) ⟨by omega, by omega⟩)

set_option maxRecDepth 100000 in
theorem puts_lifted (os : Os) (started : os.Started) (H : Type) (enc : TypeId × Value → H) :
    ReturnsInHanded {} Try.checked os 4 .any (Rows.lebPutsSpec.pre6 enc Try.prog Try.f4 Rows.lebPutsRow.domain false) (Rows.lebPutsSpec.post enc Try.prog Try.f4 false true false false) := by
  refine returnsInHanded_of_change_sized (C := Try.checked) own started (by kernel_rfl) Try.func4
    (ChangeSpec.witness6 (enc := enc) (C := Try.checked) false ⟨#[], #[.int .u64 0, .int .i64 0], []⟩ 8 (by kernel_rfl) (by kernel_rfl) (by kernel_rfl) (by kernel_rfl)) ?_
  intro W base args ds gs before hval hW _ _ _
  exact puts_contract H enc W base args ds gs before hval hW
theorem puts_over : Rows.lebPutsRow.holds Try.pinned (OpenSpec.ofChange Rows.lebPutsSpec) :=
  OpenClaim.holds_of_wide 4 Try.f4 rfl rfl rfl rfl rfl rfl rfl ⟨rfl, rfl, rfl, rfl, rfl⟩ rfl rfl rfl rfl rfl (by kernel_rfl) Try.func4 (by kernel_rfl)
    (of_decide_eq_true (by kernel_rfl)) (by unfold Func.isWrapper; first | (rw [if_pos (by decide +kernel)]; kernel_rfl) | (rw [if_neg (by decide +kernel)]; exact ⟨rfl, rfl⟩))
    (fun os started H enc _ => puts_lifted os started H enc)
theorem lebPuts_holds : Rows.LebPutsSaid := puts_over
#print axioms lebPuts_holds
end Go.Proofs.Ytcphoefiiejlhaa
