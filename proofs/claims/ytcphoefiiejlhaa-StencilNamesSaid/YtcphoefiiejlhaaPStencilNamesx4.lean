-- PRINTED BY print.sh 35421559b90ae4d0a3588c463048766b98c2df88dd9212a6774a882060cdf62d: not written by this session
import Derived.Test.YtcphoefiiejlhaaPStencilNamesx0
import Derived.Test.YtcphoefiiejlhaaPStencilNamesx1
import Derived.Test.YtcphoefiiejlhaaPStencilNamesx2
import Derived.Test.YtcphoefiiejlhaaPStencilNamesx3
namespace Go.Proofs.Ytcphoefiiejlhaa.PStencilNames
open Go.RowKit Go.Proofs.YtcphoefiiejlhaaW.PrintWords Go.Proofs.YtcphoefiiejlhaaW.PrintLast Go.Proofs.YtcphoefiiejlhaaW.PrintMore
attribute [local go_sem] max2_int min2_int max_two min_two max_three min_three max_four min_four   -- for this text's walks alone
set_option linter.unusedVariables false
set_option linter.unusedSimpArgs false

/-! ### stencillaw0_StencilNames: function 3 -/
def stencillaw0_StencilNames.f  : Option (Bool) := (stencillaw0_errors1.f).bind fun t215 => (if t215 = true then ((stencillaw0_errors2.f).bind fun t216 => (if t216 = true then ((stencillaw0_errors3.f).bind fun t217 => (if t217 = true then ((stencillaw0_errors4.f).bind fun t218 => (if t218 = true then ((stencillaw0_errors5.f).bind fun t219 => (if t219 = true then ((stencillaw0_errors6.f).bind fun t220 => (if t220 = true then ((stencillaw0_errors7.f).bind fun t221 => (if t221 = true then ((stencillaw0_errors8.f).bind fun t222 => (if t222 = true then ((stencillaw0_errors9.f).bind fun t223 => (if t223 = true then ((stencillaw0_numbers1.f).bind fun t224 => (if t224 = true then ((stencillaw0_numbers2.f).bind fun t225 => (if t225 = true then ((stencillaw0_numbers3.f).bind fun t226 => (if t226 = true then ((stencillaw0_numbers4.f).bind fun t227 => (if t227 = true then ((stencillaw0_numbers5.f).bind fun t228 => (if t228 = true then ((stencillaw0_numbers6.f).bind fun t229 => (if t229 = true then ((stencillaw0_numbers7.f).bind fun t230 => (if t230 = true then ((stencillaw0_numbers8.f).bind fun t231 => (if t231 = true then ((stencillaw0_numbers9.f).bind fun t232 => (if t232 = true then ((stencillaw0_numbers10.f).bind fun t233 => (some t233)) else (some false))) else (some false))) else (some false))) else (some false))) else (some false))) else (some false))) else (some false))) else (some false))) else (some false))) else (some false))) else (some false))) else (some false))) else (some false))) else (some false))) else (some false))) else (some false))) else (some false))) else (some false))
set_option maxHeartbeats 8000000 in
set_option maxRecDepth 100000 in
theorem stencillaw0_StencilNames.calls  (r : Bool) (w : World) (h : stencillaw0_StencilNames.f  = some r) :
    Calls Try.prog 3 #[] w fun e w' => e = .returned (.bool r) ∧ Drawn0 w w' := by
  have H : ((stencillaw0_errors1.f).bind fun t215 => (if t215 = true then ((stencillaw0_errors2.f).bind fun t216 => (if t216 = true then ((stencillaw0_errors3.f).bind fun t217 => (if t217 = true then ((stencillaw0_errors4.f).bind fun t218 => (if t218 = true then ((stencillaw0_errors5.f).bind fun t219 => (if t219 = true then ((stencillaw0_errors6.f).bind fun t220 => (if t220 = true then ((stencillaw0_errors7.f).bind fun t221 => (if t221 = true then ((stencillaw0_errors8.f).bind fun t222 => (if t222 = true then ((stencillaw0_errors9.f).bind fun t223 => (if t223 = true then ((stencillaw0_numbers1.f).bind fun t224 => (if t224 = true then ((stencillaw0_numbers2.f).bind fun t225 => (if t225 = true then ((stencillaw0_numbers3.f).bind fun t226 => (if t226 = true then ((stencillaw0_numbers4.f).bind fun t227 => (if t227 = true then ((stencillaw0_numbers5.f).bind fun t228 => (if t228 = true then ((stencillaw0_numbers6.f).bind fun t229 => (if t229 = true then ((stencillaw0_numbers7.f).bind fun t230 => (if t230 = true then ((stencillaw0_numbers8.f).bind fun t231 => (if t231 = true then ((stencillaw0_numbers9.f).bind fun t232 => (if t232 = true then ((stencillaw0_numbers10.f).bind fun t233 => (some t233)) else (some false))) else (some false))) else (some false))) else (some false))) else (some false))) else (some false))) else (some false))) else (some false))) else (some false))) else (some false))) else (some false))) else (some false))) else (some false))) else (some false))) else (some false))) else (some false))) else (some false))) else (some false))) = some r := h
  clear h
  replace H := Option.bind_eq_some_iff.mp H
  obtain ⟨t215, A10, H⟩ := H
  replace H : (if t215 = true then ((stencillaw0_errors2.f).bind fun t216 => (if t216 = true then ((stencillaw0_errors3.f).bind fun t217 => (if t217 = true then ((stencillaw0_errors4.f).bind fun t218 => (if t218 = true then ((stencillaw0_errors5.f).bind fun t219 => (if t219 = true then ((stencillaw0_errors6.f).bind fun t220 => (if t220 = true then ((stencillaw0_errors7.f).bind fun t221 => (if t221 = true then ((stencillaw0_errors8.f).bind fun t222 => (if t222 = true then ((stencillaw0_errors9.f).bind fun t223 => (if t223 = true then ((stencillaw0_numbers1.f).bind fun t224 => (if t224 = true then ((stencillaw0_numbers2.f).bind fun t225 => (if t225 = true then ((stencillaw0_numbers3.f).bind fun t226 => (if t226 = true then ((stencillaw0_numbers4.f).bind fun t227 => (if t227 = true then ((stencillaw0_numbers5.f).bind fun t228 => (if t228 = true then ((stencillaw0_numbers6.f).bind fun t229 => (if t229 = true then ((stencillaw0_numbers7.f).bind fun t230 => (if t230 = true then ((stencillaw0_numbers8.f).bind fun t231 => (if t231 = true then ((stencillaw0_numbers9.f).bind fun t232 => (if t232 = true then ((stencillaw0_numbers10.f).bind fun t233 => (some t233)) else (some false))) else (some false))) else (some false))) else (some false))) else (some false))) else (some false))) else (some false))) else (some false))) else (some false))) else (some false))) else (some false))) else (some false))) else (some false))) else (some false))) else (some false))) else (some false))) else (some false))) else (some false)) = some r := H
  have A1 := Aside0.mk A10
  clear A10
  by_cases c2 : t215 = true
  · subst c2
    have H1 : ((stencillaw0_errors2.f).bind fun t216 => (if t216 = true then ((stencillaw0_errors3.f).bind fun t217 => (if t217 = true then ((stencillaw0_errors4.f).bind fun t218 => (if t218 = true then ((stencillaw0_errors5.f).bind fun t219 => (if t219 = true then ((stencillaw0_errors6.f).bind fun t220 => (if t220 = true then ((stencillaw0_errors7.f).bind fun t221 => (if t221 = true then ((stencillaw0_errors8.f).bind fun t222 => (if t222 = true then ((stencillaw0_errors9.f).bind fun t223 => (if t223 = true then ((stencillaw0_numbers1.f).bind fun t224 => (if t224 = true then ((stencillaw0_numbers2.f).bind fun t225 => (if t225 = true then ((stencillaw0_numbers3.f).bind fun t226 => (if t226 = true then ((stencillaw0_numbers4.f).bind fun t227 => (if t227 = true then ((stencillaw0_numbers5.f).bind fun t228 => (if t228 = true then ((stencillaw0_numbers6.f).bind fun t229 => (if t229 = true then ((stencillaw0_numbers7.f).bind fun t230 => (if t230 = true then ((stencillaw0_numbers8.f).bind fun t231 => (if t231 = true then ((stencillaw0_numbers9.f).bind fun t232 => (if t232 = true then ((stencillaw0_numbers10.f).bind fun t233 => (some t233)) else (some false))) else (some false))) else (some false))) else (some false))) else (some false))) else (some false))) else (some false))) else (some false))) else (some false))) else (some false))) else (some false))) else (some false))) else (some false))) else (some false))) else (some false))) else (some false))) else (some false))) = some r := by rw [if_pos rfl] at H; exact H
    clear H
    have H := H1
    clear H1
    replace H := Option.bind_eq_some_iff.mp H
    obtain ⟨t216, A30, H⟩ := H
    replace H : (if t216 = true then ((stencillaw0_errors3.f).bind fun t217 => (if t217 = true then ((stencillaw0_errors4.f).bind fun t218 => (if t218 = true then ((stencillaw0_errors5.f).bind fun t219 => (if t219 = true then ((stencillaw0_errors6.f).bind fun t220 => (if t220 = true then ((stencillaw0_errors7.f).bind fun t221 => (if t221 = true then ((stencillaw0_errors8.f).bind fun t222 => (if t222 = true then ((stencillaw0_errors9.f).bind fun t223 => (if t223 = true then ((stencillaw0_numbers1.f).bind fun t224 => (if t224 = true then ((stencillaw0_numbers2.f).bind fun t225 => (if t225 = true then ((stencillaw0_numbers3.f).bind fun t226 => (if t226 = true then ((stencillaw0_numbers4.f).bind fun t227 => (if t227 = true then ((stencillaw0_numbers5.f).bind fun t228 => (if t228 = true then ((stencillaw0_numbers6.f).bind fun t229 => (if t229 = true then ((stencillaw0_numbers7.f).bind fun t230 => (if t230 = true then ((stencillaw0_numbers8.f).bind fun t231 => (if t231 = true then ((stencillaw0_numbers9.f).bind fun t232 => (if t232 = true then ((stencillaw0_numbers10.f).bind fun t233 => (some t233)) else (some false))) else (some false))) else (some false))) else (some false))) else (some false))) else (some false))) else (some false))) else (some false))) else (some false))) else (some false))) else (some false))) else (some false))) else (some false))) else (some false))) else (some false))) else (some false))) else (some false)) = some r := H
    have A3 := Aside0.mk A30
    clear A30
    by_cases c4 : t216 = true
    · subst c4
      have H1 : ((stencillaw0_errors3.f).bind fun t217 => (if t217 = true then ((stencillaw0_errors4.f).bind fun t218 => (if t218 = true then ((stencillaw0_errors5.f).bind fun t219 => (if t219 = true then ((stencillaw0_errors6.f).bind fun t220 => (if t220 = true then ((stencillaw0_errors7.f).bind fun t221 => (if t221 = true then ((stencillaw0_errors8.f).bind fun t222 => (if t222 = true then ((stencillaw0_errors9.f).bind fun t223 => (if t223 = true then ((stencillaw0_numbers1.f).bind fun t224 => (if t224 = true then ((stencillaw0_numbers2.f).bind fun t225 => (if t225 = true then ((stencillaw0_numbers3.f).bind fun t226 => (if t226 = true then ((stencillaw0_numbers4.f).bind fun t227 => (if t227 = true then ((stencillaw0_numbers5.f).bind fun t228 => (if t228 = true then ((stencillaw0_numbers6.f).bind fun t229 => (if t229 = true then ((stencillaw0_numbers7.f).bind fun t230 => (if t230 = true then ((stencillaw0_numbers8.f).bind fun t231 => (if t231 = true then ((stencillaw0_numbers9.f).bind fun t232 => (if t232 = true then ((stencillaw0_numbers10.f).bind fun t233 => (some t233)) else (some false))) else (some false))) else (some false))) else (some false))) else (some false))) else (some false))) else (some false))) else (some false))) else (some false))) else (some false))) else (some false))) else (some false))) else (some false))) else (some false))) else (some false))) else (some false))) = some r := by rw [if_pos rfl] at H; exact H
      clear H
      have H := H1
      clear H1
      replace H := Option.bind_eq_some_iff.mp H
      obtain ⟨t217, A50, H⟩ := H
      replace H : (if t217 = true then ((stencillaw0_errors4.f).bind fun t218 => (if t218 = true then ((stencillaw0_errors5.f).bind fun t219 => (if t219 = true then ((stencillaw0_errors6.f).bind fun t220 => (if t220 = true then ((stencillaw0_errors7.f).bind fun t221 => (if t221 = true then ((stencillaw0_errors8.f).bind fun t222 => (if t222 = true then ((stencillaw0_errors9.f).bind fun t223 => (if t223 = true then ((stencillaw0_numbers1.f).bind fun t224 => (if t224 = true then ((stencillaw0_numbers2.f).bind fun t225 => (if t225 = true then ((stencillaw0_numbers3.f).bind fun t226 => (if t226 = true then ((stencillaw0_numbers4.f).bind fun t227 => (if t227 = true then ((stencillaw0_numbers5.f).bind fun t228 => (if t228 = true then ((stencillaw0_numbers6.f).bind fun t229 => (if t229 = true then ((stencillaw0_numbers7.f).bind fun t230 => (if t230 = true then ((stencillaw0_numbers8.f).bind fun t231 => (if t231 = true then ((stencillaw0_numbers9.f).bind fun t232 => (if t232 = true then ((stencillaw0_numbers10.f).bind fun t233 => (some t233)) else (some false))) else (some false))) else (some false))) else (some false))) else (some false))) else (some false))) else (some false))) else (some false))) else (some false))) else (some false))) else (some false))) else (some false))) else (some false))) else (some false))) else (some false))) else (some false)) = some r := H
      have A5 := Aside0.mk A50
      clear A50
      by_cases c6 : t217 = true
      · subst c6
        have H1 : ((stencillaw0_errors4.f).bind fun t218 => (if t218 = true then ((stencillaw0_errors5.f).bind fun t219 => (if t219 = true then ((stencillaw0_errors6.f).bind fun t220 => (if t220 = true then ((stencillaw0_errors7.f).bind fun t221 => (if t221 = true then ((stencillaw0_errors8.f).bind fun t222 => (if t222 = true then ((stencillaw0_errors9.f).bind fun t223 => (if t223 = true then ((stencillaw0_numbers1.f).bind fun t224 => (if t224 = true then ((stencillaw0_numbers2.f).bind fun t225 => (if t225 = true then ((stencillaw0_numbers3.f).bind fun t226 => (if t226 = true then ((stencillaw0_numbers4.f).bind fun t227 => (if t227 = true then ((stencillaw0_numbers5.f).bind fun t228 => (if t228 = true then ((stencillaw0_numbers6.f).bind fun t229 => (if t229 = true then ((stencillaw0_numbers7.f).bind fun t230 => (if t230 = true then ((stencillaw0_numbers8.f).bind fun t231 => (if t231 = true then ((stencillaw0_numbers9.f).bind fun t232 => (if t232 = true then ((stencillaw0_numbers10.f).bind fun t233 => (some t233)) else (some false))) else (some false))) else (some false))) else (some false))) else (some false))) else (some false))) else (some false))) else (some false))) else (some false))) else (some false))) else (some false))) else (some false))) else (some false))) else (some false))) else (some false))) = some r := by rw [if_pos rfl] at H; exact H
        clear H
        have H := H1
        clear H1
        replace H := Option.bind_eq_some_iff.mp H
        obtain ⟨t218, A70, H⟩ := H
        replace H : (if t218 = true then ((stencillaw0_errors5.f).bind fun t219 => (if t219 = true then ((stencillaw0_errors6.f).bind fun t220 => (if t220 = true then ((stencillaw0_errors7.f).bind fun t221 => (if t221 = true then ((stencillaw0_errors8.f).bind fun t222 => (if t222 = true then ((stencillaw0_errors9.f).bind fun t223 => (if t223 = true then ((stencillaw0_numbers1.f).bind fun t224 => (if t224 = true then ((stencillaw0_numbers2.f).bind fun t225 => (if t225 = true then ((stencillaw0_numbers3.f).bind fun t226 => (if t226 = true then ((stencillaw0_numbers4.f).bind fun t227 => (if t227 = true then ((stencillaw0_numbers5.f).bind fun t228 => (if t228 = true then ((stencillaw0_numbers6.f).bind fun t229 => (if t229 = true then ((stencillaw0_numbers7.f).bind fun t230 => (if t230 = true then ((stencillaw0_numbers8.f).bind fun t231 => (if t231 = true then ((stencillaw0_numbers9.f).bind fun t232 => (if t232 = true then ((stencillaw0_numbers10.f).bind fun t233 => (some t233)) else (some false))) else (some false))) else (some false))) else (some false))) else (some false))) else (some false))) else (some false))) else (some false))) else (some false))) else (some false))) else (some false))) else (some false))) else (some false))) else (some false))) else (some false)) = some r := H
        have A7 := Aside0.mk A70
        clear A70
        by_cases c8 : t218 = true
        · subst c8
          have H1 : ((stencillaw0_errors5.f).bind fun t219 => (if t219 = true then ((stencillaw0_errors6.f).bind fun t220 => (if t220 = true then ((stencillaw0_errors7.f).bind fun t221 => (if t221 = true then ((stencillaw0_errors8.f).bind fun t222 => (if t222 = true then ((stencillaw0_errors9.f).bind fun t223 => (if t223 = true then ((stencillaw0_numbers1.f).bind fun t224 => (if t224 = true then ((stencillaw0_numbers2.f).bind fun t225 => (if t225 = true then ((stencillaw0_numbers3.f).bind fun t226 => (if t226 = true then ((stencillaw0_numbers4.f).bind fun t227 => (if t227 = true then ((stencillaw0_numbers5.f).bind fun t228 => (if t228 = true then ((stencillaw0_numbers6.f).bind fun t229 => (if t229 = true then ((stencillaw0_numbers7.f).bind fun t230 => (if t230 = true then ((stencillaw0_numbers8.f).bind fun t231 => (if t231 = true then ((stencillaw0_numbers9.f).bind fun t232 => (if t232 = true then ((stencillaw0_numbers10.f).bind fun t233 => (some t233)) else (some false))) else (some false))) else (some false))) else (some false))) else (some false))) else (some false))) else (some false))) else (some false))) else (some false))) else (some false))) else (some false))) else (some false))) else (some false))) else (some false))) = some r := by rw [if_pos rfl] at H; exact H
          clear H
          have H := H1
          clear H1
          replace H := Option.bind_eq_some_iff.mp H
          obtain ⟨t219, A90, H⟩ := H
          replace H : (if t219 = true then ((stencillaw0_errors6.f).bind fun t220 => (if t220 = true then ((stencillaw0_errors7.f).bind fun t221 => (if t221 = true then ((stencillaw0_errors8.f).bind fun t222 => (if t222 = true then ((stencillaw0_errors9.f).bind fun t223 => (if t223 = true then ((stencillaw0_numbers1.f).bind fun t224 => (if t224 = true then ((stencillaw0_numbers2.f).bind fun t225 => (if t225 = true then ((stencillaw0_numbers3.f).bind fun t226 => (if t226 = true then ((stencillaw0_numbers4.f).bind fun t227 => (if t227 = true then ((stencillaw0_numbers5.f).bind fun t228 => (if t228 = true then ((stencillaw0_numbers6.f).bind fun t229 => (if t229 = true then ((stencillaw0_numbers7.f).bind fun t230 => (if t230 = true then ((stencillaw0_numbers8.f).bind fun t231 => (if t231 = true then ((stencillaw0_numbers9.f).bind fun t232 => (if t232 = true then ((stencillaw0_numbers10.f).bind fun t233 => (some t233)) else (some false))) else (some false))) else (some false))) else (some false))) else (some false))) else (some false))) else (some false))) else (some false))) else (some false))) else (some false))) else (some false))) else (some false))) else (some false))) else (some false)) = some r := H
          have A9 := Aside0.mk A90
          clear A90
          by_cases c10 : t219 = true
          · subst c10
            have H1 : ((stencillaw0_errors6.f).bind fun t220 => (if t220 = true then ((stencillaw0_errors7.f).bind fun t221 => (if t221 = true then ((stencillaw0_errors8.f).bind fun t222 => (if t222 = true then ((stencillaw0_errors9.f).bind fun t223 => (if t223 = true then ((stencillaw0_numbers1.f).bind fun t224 => (if t224 = true then ((stencillaw0_numbers2.f).bind fun t225 => (if t225 = true then ((stencillaw0_numbers3.f).bind fun t226 => (if t226 = true then ((stencillaw0_numbers4.f).bind fun t227 => (if t227 = true then ((stencillaw0_numbers5.f).bind fun t228 => (if t228 = true then ((stencillaw0_numbers6.f).bind fun t229 => (if t229 = true then ((stencillaw0_numbers7.f).bind fun t230 => (if t230 = true then ((stencillaw0_numbers8.f).bind fun t231 => (if t231 = true then ((stencillaw0_numbers9.f).bind fun t232 => (if t232 = true then ((stencillaw0_numbers10.f).bind fun t233 => (some t233)) else (some false))) else (some false))) else (some false))) else (some false))) else (some false))) else (some false))) else (some false))) else (some false))) else (some false))) else (some false))) else (some false))) else (some false))) else (some false))) = some r := by rw [if_pos rfl] at H; exact H
            clear H
            have H := H1
            clear H1
            replace H := Option.bind_eq_some_iff.mp H
            obtain ⟨t220, A110, H⟩ := H
            replace H : (if t220 = true then ((stencillaw0_errors7.f).bind fun t221 => (if t221 = true then ((stencillaw0_errors8.f).bind fun t222 => (if t222 = true then ((stencillaw0_errors9.f).bind fun t223 => (if t223 = true then ((stencillaw0_numbers1.f).bind fun t224 => (if t224 = true then ((stencillaw0_numbers2.f).bind fun t225 => (if t225 = true then ((stencillaw0_numbers3.f).bind fun t226 => (if t226 = true then ((stencillaw0_numbers4.f).bind fun t227 => (if t227 = true then ((stencillaw0_numbers5.f).bind fun t228 => (if t228 = true then ((stencillaw0_numbers6.f).bind fun t229 => (if t229 = true then ((stencillaw0_numbers7.f).bind fun t230 => (if t230 = true then ((stencillaw0_numbers8.f).bind fun t231 => (if t231 = true then ((stencillaw0_numbers9.f).bind fun t232 => (if t232 = true then ((stencillaw0_numbers10.f).bind fun t233 => (some t233)) else (some false))) else (some false))) else (some false))) else (some false))) else (some false))) else (some false))) else (some false))) else (some false))) else (some false))) else (some false))) else (some false))) else (some false))) else (some false)) = some r := H
            have A11 := Aside0.mk A110
            clear A110
            by_cases c12 : t220 = true
            · subst c12
              have H1 : ((stencillaw0_errors7.f).bind fun t221 => (if t221 = true then ((stencillaw0_errors8.f).bind fun t222 => (if t222 = true then ((stencillaw0_errors9.f).bind fun t223 => (if t223 = true then ((stencillaw0_numbers1.f).bind fun t224 => (if t224 = true then ((stencillaw0_numbers2.f).bind fun t225 => (if t225 = true then ((stencillaw0_numbers3.f).bind fun t226 => (if t226 = true then ((stencillaw0_numbers4.f).bind fun t227 => (if t227 = true then ((stencillaw0_numbers5.f).bind fun t228 => (if t228 = true then ((stencillaw0_numbers6.f).bind fun t229 => (if t229 = true then ((stencillaw0_numbers7.f).bind fun t230 => (if t230 = true then ((stencillaw0_numbers8.f).bind fun t231 => (if t231 = true then ((stencillaw0_numbers9.f).bind fun t232 => (if t232 = true then ((stencillaw0_numbers10.f).bind fun t233 => (some t233)) else (some false))) else (some false))) else (some false))) else (some false))) else (some false))) else (some false))) else (some false))) else (some false))) else (some false))) else (some false))) else (some false))) else (some false))) = some r := by rw [if_pos rfl] at H; exact H
              clear H
              have H := H1
              clear H1
              replace H := Option.bind_eq_some_iff.mp H
              obtain ⟨t221, A130, H⟩ := H
              replace H : (if t221 = true then ((stencillaw0_errors8.f).bind fun t222 => (if t222 = true then ((stencillaw0_errors9.f).bind fun t223 => (if t223 = true then ((stencillaw0_numbers1.f).bind fun t224 => (if t224 = true then ((stencillaw0_numbers2.f).bind fun t225 => (if t225 = true then ((stencillaw0_numbers3.f).bind fun t226 => (if t226 = true then ((stencillaw0_numbers4.f).bind fun t227 => (if t227 = true then ((stencillaw0_numbers5.f).bind fun t228 => (if t228 = true then ((stencillaw0_numbers6.f).bind fun t229 => (if t229 = true then ((stencillaw0_numbers7.f).bind fun t230 => (if t230 = true then ((stencillaw0_numbers8.f).bind fun t231 => (if t231 = true then ((stencillaw0_numbers9.f).bind fun t232 => (if t232 = true then ((stencillaw0_numbers10.f).bind fun t233 => (some t233)) else (some false))) else (some false))) else (some false))) else (some false))) else (some false))) else (some false))) else (some false))) else (some false))) else (some false))) else (some false))) else (some false))) else (some false)) = some r := H
              have A13 := Aside0.mk A130
              clear A130
              by_cases c14 : t221 = true
              · subst c14
                have H1 : ((stencillaw0_errors8.f).bind fun t222 => (if t222 = true then ((stencillaw0_errors9.f).bind fun t223 => (if t223 = true then ((stencillaw0_numbers1.f).bind fun t224 => (if t224 = true then ((stencillaw0_numbers2.f).bind fun t225 => (if t225 = true then ((stencillaw0_numbers3.f).bind fun t226 => (if t226 = true then ((stencillaw0_numbers4.f).bind fun t227 => (if t227 = true then ((stencillaw0_numbers5.f).bind fun t228 => (if t228 = true then ((stencillaw0_numbers6.f).bind fun t229 => (if t229 = true then ((stencillaw0_numbers7.f).bind fun t230 => (if t230 = true then ((stencillaw0_numbers8.f).bind fun t231 => (if t231 = true then ((stencillaw0_numbers9.f).bind fun t232 => (if t232 = true then ((stencillaw0_numbers10.f).bind fun t233 => (some t233)) else (some false))) else (some false))) else (some false))) else (some false))) else (some false))) else (some false))) else (some false))) else (some false))) else (some false))) else (some false))) else (some false))) = some r := by rw [if_pos rfl] at H; exact H
                clear H
                have H := H1
                clear H1
                replace H := Option.bind_eq_some_iff.mp H
                obtain ⟨t222, A150, H⟩ := H
                replace H : (if t222 = true then ((stencillaw0_errors9.f).bind fun t223 => (if t223 = true then ((stencillaw0_numbers1.f).bind fun t224 => (if t224 = true then ((stencillaw0_numbers2.f).bind fun t225 => (if t225 = true then ((stencillaw0_numbers3.f).bind fun t226 => (if t226 = true then ((stencillaw0_numbers4.f).bind fun t227 => (if t227 = true then ((stencillaw0_numbers5.f).bind fun t228 => (if t228 = true then ((stencillaw0_numbers6.f).bind fun t229 => (if t229 = true then ((stencillaw0_numbers7.f).bind fun t230 => (if t230 = true then ((stencillaw0_numbers8.f).bind fun t231 => (if t231 = true then ((stencillaw0_numbers9.f).bind fun t232 => (if t232 = true then ((stencillaw0_numbers10.f).bind fun t233 => (some t233)) else (some false))) else (some false))) else (some false))) else (some false))) else (some false))) else (some false))) else (some false))) else (some false))) else (some false))) else (some false))) else (some false)) = some r := H
                have A15 := Aside0.mk A150
                clear A150
                by_cases c16 : t222 = true
                · subst c16
                  have H1 : ((stencillaw0_errors9.f).bind fun t223 => (if t223 = true then ((stencillaw0_numbers1.f).bind fun t224 => (if t224 = true then ((stencillaw0_numbers2.f).bind fun t225 => (if t225 = true then ((stencillaw0_numbers3.f).bind fun t226 => (if t226 = true then ((stencillaw0_numbers4.f).bind fun t227 => (if t227 = true then ((stencillaw0_numbers5.f).bind fun t228 => (if t228 = true then ((stencillaw0_numbers6.f).bind fun t229 => (if t229 = true then ((stencillaw0_numbers7.f).bind fun t230 => (if t230 = true then ((stencillaw0_numbers8.f).bind fun t231 => (if t231 = true then ((stencillaw0_numbers9.f).bind fun t232 => (if t232 = true then ((stencillaw0_numbers10.f).bind fun t233 => (some t233)) else (some false))) else (some false))) else (some false))) else (some false))) else (some false))) else (some false))) else (some false))) else (some false))) else (some false))) else (some false))) = some r := by rw [if_pos rfl] at H; exact H
                  clear H
                  have H := H1
                  clear H1
                  replace H := Option.bind_eq_some_iff.mp H
                  obtain ⟨t223, A170, H⟩ := H
                  replace H : (if t223 = true then ((stencillaw0_numbers1.f).bind fun t224 => (if t224 = true then ((stencillaw0_numbers2.f).bind fun t225 => (if t225 = true then ((stencillaw0_numbers3.f).bind fun t226 => (if t226 = true then ((stencillaw0_numbers4.f).bind fun t227 => (if t227 = true then ((stencillaw0_numbers5.f).bind fun t228 => (if t228 = true then ((stencillaw0_numbers6.f).bind fun t229 => (if t229 = true then ((stencillaw0_numbers7.f).bind fun t230 => (if t230 = true then ((stencillaw0_numbers8.f).bind fun t231 => (if t231 = true then ((stencillaw0_numbers9.f).bind fun t232 => (if t232 = true then ((stencillaw0_numbers10.f).bind fun t233 => (some t233)) else (some false))) else (some false))) else (some false))) else (some false))) else (some false))) else (some false))) else (some false))) else (some false))) else (some false))) else (some false)) = some r := H
                  have A17 := Aside0.mk A170
                  clear A170
                  by_cases c18 : t223 = true
                  · subst c18
                    have H1 : ((stencillaw0_numbers1.f).bind fun t224 => (if t224 = true then ((stencillaw0_numbers2.f).bind fun t225 => (if t225 = true then ((stencillaw0_numbers3.f).bind fun t226 => (if t226 = true then ((stencillaw0_numbers4.f).bind fun t227 => (if t227 = true then ((stencillaw0_numbers5.f).bind fun t228 => (if t228 = true then ((stencillaw0_numbers6.f).bind fun t229 => (if t229 = true then ((stencillaw0_numbers7.f).bind fun t230 => (if t230 = true then ((stencillaw0_numbers8.f).bind fun t231 => (if t231 = true then ((stencillaw0_numbers9.f).bind fun t232 => (if t232 = true then ((stencillaw0_numbers10.f).bind fun t233 => (some t233)) else (some false))) else (some false))) else (some false))) else (some false))) else (some false))) else (some false))) else (some false))) else (some false))) else (some false))) = some r := by rw [if_pos rfl] at H; exact H
                    clear H
                    have H := H1
                    clear H1
                    replace H := Option.bind_eq_some_iff.mp H
                    obtain ⟨t224, A190, H⟩ := H
                    replace H : (if t224 = true then ((stencillaw0_numbers2.f).bind fun t225 => (if t225 = true then ((stencillaw0_numbers3.f).bind fun t226 => (if t226 = true then ((stencillaw0_numbers4.f).bind fun t227 => (if t227 = true then ((stencillaw0_numbers5.f).bind fun t228 => (if t228 = true then ((stencillaw0_numbers6.f).bind fun t229 => (if t229 = true then ((stencillaw0_numbers7.f).bind fun t230 => (if t230 = true then ((stencillaw0_numbers8.f).bind fun t231 => (if t231 = true then ((stencillaw0_numbers9.f).bind fun t232 => (if t232 = true then ((stencillaw0_numbers10.f).bind fun t233 => (some t233)) else (some false))) else (some false))) else (some false))) else (some false))) else (some false))) else (some false))) else (some false))) else (some false))) else (some false)) = some r := H
                    have A19 := Aside0.mk A190
                    clear A190
                    by_cases c20 : t224 = true
                    · subst c20
                      have H1 : ((stencillaw0_numbers2.f).bind fun t225 => (if t225 = true then ((stencillaw0_numbers3.f).bind fun t226 => (if t226 = true then ((stencillaw0_numbers4.f).bind fun t227 => (if t227 = true then ((stencillaw0_numbers5.f).bind fun t228 => (if t228 = true then ((stencillaw0_numbers6.f).bind fun t229 => (if t229 = true then ((stencillaw0_numbers7.f).bind fun t230 => (if t230 = true then ((stencillaw0_numbers8.f).bind fun t231 => (if t231 = true then ((stencillaw0_numbers9.f).bind fun t232 => (if t232 = true then ((stencillaw0_numbers10.f).bind fun t233 => (some t233)) else (some false))) else (some false))) else (some false))) else (some false))) else (some false))) else (some false))) else (some false))) else (some false))) = some r := by rw [if_pos rfl] at H; exact H
                      clear H
                      have H := H1
                      clear H1
                      replace H := Option.bind_eq_some_iff.mp H
                      obtain ⟨t225, A210, H⟩ := H
                      replace H : (if t225 = true then ((stencillaw0_numbers3.f).bind fun t226 => (if t226 = true then ((stencillaw0_numbers4.f).bind fun t227 => (if t227 = true then ((stencillaw0_numbers5.f).bind fun t228 => (if t228 = true then ((stencillaw0_numbers6.f).bind fun t229 => (if t229 = true then ((stencillaw0_numbers7.f).bind fun t230 => (if t230 = true then ((stencillaw0_numbers8.f).bind fun t231 => (if t231 = true then ((stencillaw0_numbers9.f).bind fun t232 => (if t232 = true then ((stencillaw0_numbers10.f).bind fun t233 => (some t233)) else (some false))) else (some false))) else (some false))) else (some false))) else (some false))) else (some false))) else (some false))) else (some false)) = some r := H
                      have A21 := Aside0.mk A210
                      clear A210
                      by_cases c22 : t225 = true
                      · subst c22
                        have H1 : ((stencillaw0_numbers3.f).bind fun t226 => (if t226 = true then ((stencillaw0_numbers4.f).bind fun t227 => (if t227 = true then ((stencillaw0_numbers5.f).bind fun t228 => (if t228 = true then ((stencillaw0_numbers6.f).bind fun t229 => (if t229 = true then ((stencillaw0_numbers7.f).bind fun t230 => (if t230 = true then ((stencillaw0_numbers8.f).bind fun t231 => (if t231 = true then ((stencillaw0_numbers9.f).bind fun t232 => (if t232 = true then ((stencillaw0_numbers10.f).bind fun t233 => (some t233)) else (some false))) else (some false))) else (some false))) else (some false))) else (some false))) else (some false))) else (some false))) = some r := by rw [if_pos rfl] at H; exact H
                        clear H
                        have H := H1
                        clear H1
                        replace H := Option.bind_eq_some_iff.mp H
                        obtain ⟨t226, A230, H⟩ := H
                        replace H : (if t226 = true then ((stencillaw0_numbers4.f).bind fun t227 => (if t227 = true then ((stencillaw0_numbers5.f).bind fun t228 => (if t228 = true then ((stencillaw0_numbers6.f).bind fun t229 => (if t229 = true then ((stencillaw0_numbers7.f).bind fun t230 => (if t230 = true then ((stencillaw0_numbers8.f).bind fun t231 => (if t231 = true then ((stencillaw0_numbers9.f).bind fun t232 => (if t232 = true then ((stencillaw0_numbers10.f).bind fun t233 => (some t233)) else (some false))) else (some false))) else (some false))) else (some false))) else (some false))) else (some false))) else (some false)) = some r := H
                        have A23 := Aside0.mk A230
                        clear A230
                        by_cases c24 : t226 = true
                        · subst c24
                          have H1 : ((stencillaw0_numbers4.f).bind fun t227 => (if t227 = true then ((stencillaw0_numbers5.f).bind fun t228 => (if t228 = true then ((stencillaw0_numbers6.f).bind fun t229 => (if t229 = true then ((stencillaw0_numbers7.f).bind fun t230 => (if t230 = true then ((stencillaw0_numbers8.f).bind fun t231 => (if t231 = true then ((stencillaw0_numbers9.f).bind fun t232 => (if t232 = true then ((stencillaw0_numbers10.f).bind fun t233 => (some t233)) else (some false))) else (some false))) else (some false))) else (some false))) else (some false))) else (some false))) = some r := by rw [if_pos rfl] at H; exact H
                          clear H
                          have H := H1
                          clear H1
                          replace H := Option.bind_eq_some_iff.mp H
                          obtain ⟨t227, A250, H⟩ := H
                          replace H : (if t227 = true then ((stencillaw0_numbers5.f).bind fun t228 => (if t228 = true then ((stencillaw0_numbers6.f).bind fun t229 => (if t229 = true then ((stencillaw0_numbers7.f).bind fun t230 => (if t230 = true then ((stencillaw0_numbers8.f).bind fun t231 => (if t231 = true then ((stencillaw0_numbers9.f).bind fun t232 => (if t232 = true then ((stencillaw0_numbers10.f).bind fun t233 => (some t233)) else (some false))) else (some false))) else (some false))) else (some false))) else (some false))) else (some false)) = some r := H
                          have A25 := Aside0.mk A250
                          clear A250
                          by_cases c26 : t227 = true
                          · subst c26
                            have H1 : ((stencillaw0_numbers5.f).bind fun t228 => (if t228 = true then ((stencillaw0_numbers6.f).bind fun t229 => (if t229 = true then ((stencillaw0_numbers7.f).bind fun t230 => (if t230 = true then ((stencillaw0_numbers8.f).bind fun t231 => (if t231 = true then ((stencillaw0_numbers9.f).bind fun t232 => (if t232 = true then ((stencillaw0_numbers10.f).bind fun t233 => (some t233)) else (some false))) else (some false))) else (some false))) else (some false))) else (some false))) = some r := by rw [if_pos rfl] at H; exact H
                            clear H
                            have H := H1
                            clear H1
                            replace H := Option.bind_eq_some_iff.mp H
                            obtain ⟨t228, A270, H⟩ := H
                            replace H : (if t228 = true then ((stencillaw0_numbers6.f).bind fun t229 => (if t229 = true then ((stencillaw0_numbers7.f).bind fun t230 => (if t230 = true then ((stencillaw0_numbers8.f).bind fun t231 => (if t231 = true then ((stencillaw0_numbers9.f).bind fun t232 => (if t232 = true then ((stencillaw0_numbers10.f).bind fun t233 => (some t233)) else (some false))) else (some false))) else (some false))) else (some false))) else (some false)) = some r := H
                            have A27 := Aside0.mk A270
                            clear A270
                            by_cases c28 : t228 = true
                            · subst c28
                              have H1 : ((stencillaw0_numbers6.f).bind fun t229 => (if t229 = true then ((stencillaw0_numbers7.f).bind fun t230 => (if t230 = true then ((stencillaw0_numbers8.f).bind fun t231 => (if t231 = true then ((stencillaw0_numbers9.f).bind fun t232 => (if t232 = true then ((stencillaw0_numbers10.f).bind fun t233 => (some t233)) else (some false))) else (some false))) else (some false))) else (some false))) = some r := by rw [if_pos rfl] at H; exact H
                              clear H
                              have H := H1
                              clear H1
                              replace H := Option.bind_eq_some_iff.mp H
                              obtain ⟨t229, A290, H⟩ := H
                              replace H : (if t229 = true then ((stencillaw0_numbers7.f).bind fun t230 => (if t230 = true then ((stencillaw0_numbers8.f).bind fun t231 => (if t231 = true then ((stencillaw0_numbers9.f).bind fun t232 => (if t232 = true then ((stencillaw0_numbers10.f).bind fun t233 => (some t233)) else (some false))) else (some false))) else (some false))) else (some false)) = some r := H
                              have A29 := Aside0.mk A290
                              clear A290
                              by_cases c30 : t229 = true
                              · subst c30
                                have H1 : ((stencillaw0_numbers7.f).bind fun t230 => (if t230 = true then ((stencillaw0_numbers8.f).bind fun t231 => (if t231 = true then ((stencillaw0_numbers9.f).bind fun t232 => (if t232 = true then ((stencillaw0_numbers10.f).bind fun t233 => (some t233)) else (some false))) else (some false))) else (some false))) = some r := by rw [if_pos rfl] at H; exact H
                                clear H
                                have H := H1
                                clear H1
                                replace H := Option.bind_eq_some_iff.mp H
                                obtain ⟨t230, A310, H⟩ := H
                                replace H : (if t230 = true then ((stencillaw0_numbers8.f).bind fun t231 => (if t231 = true then ((stencillaw0_numbers9.f).bind fun t232 => (if t232 = true then ((stencillaw0_numbers10.f).bind fun t233 => (some t233)) else (some false))) else (some false))) else (some false)) = some r := H
                                have A31 := Aside0.mk A310
                                clear A310
                                by_cases c32 : t230 = true
                                · subst c32
                                  have H1 : ((stencillaw0_numbers8.f).bind fun t231 => (if t231 = true then ((stencillaw0_numbers9.f).bind fun t232 => (if t232 = true then ((stencillaw0_numbers10.f).bind fun t233 => (some t233)) else (some false))) else (some false))) = some r := by rw [if_pos rfl] at H; exact H
                                  clear H
                                  have H := H1
                                  clear H1
                                  replace H := Option.bind_eq_some_iff.mp H
                                  obtain ⟨t231, A330, H⟩ := H
                                  replace H : (if t231 = true then ((stencillaw0_numbers9.f).bind fun t232 => (if t232 = true then ((stencillaw0_numbers10.f).bind fun t233 => (some t233)) else (some false))) else (some false)) = some r := H
                                  have A33 := Aside0.mk A330
                                  clear A330
                                  by_cases c34 : t231 = true
                                  · subst c34
                                    have H1 : ((stencillaw0_numbers9.f).bind fun t232 => (if t232 = true then ((stencillaw0_numbers10.f).bind fun t233 => (some t233)) else (some false))) = some r := by rw [if_pos rfl] at H; exact H
                                    clear H
                                    have H := H1
                                    clear H1
                                    replace H := Option.bind_eq_some_iff.mp H
                                    obtain ⟨t232, A350, H⟩ := H
                                    replace H : (if t232 = true then ((stencillaw0_numbers10.f).bind fun t233 => (some t233)) else (some false)) = some r := H
                                    have A35 := Aside0.mk A350
                                    clear A350
                                    by_cases c36 : t232 = true
                                    · subst c36
                                      have H1 : ((stencillaw0_numbers10.f).bind fun t233 => (some t233)) = some r := by rw [if_pos rfl] at H; exact H
                                      clear H
                                      have H := H1
                                      clear H1
                                      replace H := Option.bind_eq_some_iff.mp H
                                      obtain ⟨t233, A370, H⟩ := H
                                      replace H : (some t233) = some r := H
                                      have A37 := Aside0.mk A370
                                      clear A370
                                      obtain rfl := Option.some.inj H
                                      go_enter Try.func3, Try.ntmps3
                                      go_wp2_with (first | ((with_reducible refine gate_callee (f := 8) rfl ?_); refine goesL_ (some 1) rfl rfl Try.func8 (by kernel_rfl) rfl #[] rfl (by (try simp only [List.map_toArray, List.map_cons, List.map_nil]); first | done | rfl | (simp only [List.length_drop, List.length_take]; rfl)) ?_; (with_reducible refine (stencillaw0_errors1.calls  true _ A1.out).mono ?_); rintro e w' ⟨rfl, ⟨nd, rfl⟩⟩; refine ⟨_, rfl, ?_⟩) | (go_at_call 9; (with_reducible refine (stencillaw0_errors2.calls  true _ A3.out).mono ?_); rintro e w' ⟨rfl, ⟨nd, rfl⟩⟩) | (go_at_call 10; (with_reducible refine (stencillaw0_errors3.calls  true _ A5.out).mono ?_); rintro e w' ⟨rfl, ⟨nd, rfl⟩⟩) | (go_at_call 11; (with_reducible refine (stencillaw0_errors4.calls  true _ A7.out).mono ?_); rintro e w' ⟨rfl, ⟨nd, rfl⟩⟩) | (go_at_call 12; (with_reducible refine (stencillaw0_errors5.calls  true _ A9.out).mono ?_); rintro e w' ⟨rfl, ⟨nd, rfl⟩⟩) | (go_at_call 13; (with_reducible refine (stencillaw0_errors6.calls  true _ A11.out).mono ?_); rintro e w' ⟨rfl, ⟨nd, rfl⟩⟩) | (go_at_call 14; (with_reducible refine (stencillaw0_errors7.calls  true _ A13.out).mono ?_); rintro e w' ⟨rfl, ⟨nd, rfl⟩⟩) | (go_at_call 15; (with_reducible refine (stencillaw0_errors8.calls  true _ A15.out).mono ?_); rintro e w' ⟨rfl, ⟨nd, rfl⟩⟩) | (go_at_call 16; (with_reducible refine (stencillaw0_errors9.calls  true _ A17.out).mono ?_); rintro e w' ⟨rfl, ⟨nd, rfl⟩⟩) | (go_at_call 17; (with_reducible refine (stencillaw0_numbers1.calls  true _ A19.out).mono ?_); rintro e w' ⟨rfl, ⟨nd, rfl⟩⟩) | (go_at_call 18; (with_reducible refine (stencillaw0_numbers2.calls  true _ A21.out).mono ?_); rintro e w' ⟨rfl, ⟨nd, rfl⟩⟩) | (go_at_call 19; (with_reducible refine (stencillaw0_numbers3.calls  true _ A23.out).mono ?_); rintro e w' ⟨rfl, ⟨nd, rfl⟩⟩) | (go_at_call 20; (with_reducible refine (stencillaw0_numbers4.calls  true _ A25.out).mono ?_); rintro e w' ⟨rfl, ⟨nd, rfl⟩⟩) | (go_at_call 21; (with_reducible refine (stencillaw0_numbers5.calls  true _ A27.out).mono ?_); rintro e w' ⟨rfl, ⟨nd, rfl⟩⟩) | (go_at_call 22; (with_reducible refine (stencillaw0_numbers6.calls  true _ A29.out).mono ?_); rintro e w' ⟨rfl, ⟨nd, rfl⟩⟩) | (go_at_call 23; (with_reducible refine (stencillaw0_numbers7.calls  true _ A31.out).mono ?_); rintro e w' ⟨rfl, ⟨nd, rfl⟩⟩) | (go_at_call 24; (with_reducible refine (stencillaw0_numbers8.calls  true _ A33.out).mono ?_); rintro e w' ⟨rfl, ⟨nd, rfl⟩⟩) | (go_at_call 25; (with_reducible refine (stencillaw0_numbers9.calls  true _ A35.out).mono ?_); rintro e w' ⟨rfl, ⟨nd, rfl⟩⟩) | (go_at_call 26; (with_reducible refine (stencillaw0_numbers10.calls  t233 _ A37.out).mono ?_); rintro e w' ⟨rfl, ⟨nd, rfl⟩⟩))
                                      go_ret
                                      exact ⟨by first | rfl | (simp; done) | (simp [*]; done), by repeat (first | exact Drawn0.refl _ | apply Drawn0.step)⟩
                                    · replace c36 := Bool.eq_false_iff.mpr c36
                                      subst c36
                                      have H1 : (some false) = some r := by rw [if_neg (show ¬ (false = true) by decide)] at H; exact H
                                      clear H
                                      have H := H1
                                      clear H1
                                      obtain rfl := Option.some.inj H
                                      go_enter Try.func3, Try.ntmps3
                                      go_wp2_with (first | ((with_reducible refine gate_callee (f := 8) rfl ?_); refine goesL_ (some 1) rfl rfl Try.func8 (by kernel_rfl) rfl #[] rfl (by (try simp only [List.map_toArray, List.map_cons, List.map_nil]); first | done | rfl | (simp only [List.length_drop, List.length_take]; rfl)) ?_; (with_reducible refine (stencillaw0_errors1.calls  true _ A1.out).mono ?_); rintro e w' ⟨rfl, ⟨nd, rfl⟩⟩; refine ⟨_, rfl, ?_⟩) | (go_at_call 9; (with_reducible refine (stencillaw0_errors2.calls  true _ A3.out).mono ?_); rintro e w' ⟨rfl, ⟨nd, rfl⟩⟩) | (go_at_call 10; (with_reducible refine (stencillaw0_errors3.calls  true _ A5.out).mono ?_); rintro e w' ⟨rfl, ⟨nd, rfl⟩⟩) | (go_at_call 11; (with_reducible refine (stencillaw0_errors4.calls  true _ A7.out).mono ?_); rintro e w' ⟨rfl, ⟨nd, rfl⟩⟩) | (go_at_call 12; (with_reducible refine (stencillaw0_errors5.calls  true _ A9.out).mono ?_); rintro e w' ⟨rfl, ⟨nd, rfl⟩⟩) | (go_at_call 13; (with_reducible refine (stencillaw0_errors6.calls  true _ A11.out).mono ?_); rintro e w' ⟨rfl, ⟨nd, rfl⟩⟩) | (go_at_call 14; (with_reducible refine (stencillaw0_errors7.calls  true _ A13.out).mono ?_); rintro e w' ⟨rfl, ⟨nd, rfl⟩⟩) | (go_at_call 15; (with_reducible refine (stencillaw0_errors8.calls  true _ A15.out).mono ?_); rintro e w' ⟨rfl, ⟨nd, rfl⟩⟩) | (go_at_call 16; (with_reducible refine (stencillaw0_errors9.calls  true _ A17.out).mono ?_); rintro e w' ⟨rfl, ⟨nd, rfl⟩⟩) | (go_at_call 17; (with_reducible refine (stencillaw0_numbers1.calls  true _ A19.out).mono ?_); rintro e w' ⟨rfl, ⟨nd, rfl⟩⟩) | (go_at_call 18; (with_reducible refine (stencillaw0_numbers2.calls  true _ A21.out).mono ?_); rintro e w' ⟨rfl, ⟨nd, rfl⟩⟩) | (go_at_call 19; (with_reducible refine (stencillaw0_numbers3.calls  true _ A23.out).mono ?_); rintro e w' ⟨rfl, ⟨nd, rfl⟩⟩) | (go_at_call 20; (with_reducible refine (stencillaw0_numbers4.calls  true _ A25.out).mono ?_); rintro e w' ⟨rfl, ⟨nd, rfl⟩⟩) | (go_at_call 21; (with_reducible refine (stencillaw0_numbers5.calls  true _ A27.out).mono ?_); rintro e w' ⟨rfl, ⟨nd, rfl⟩⟩) | (go_at_call 22; (with_reducible refine (stencillaw0_numbers6.calls  true _ A29.out).mono ?_); rintro e w' ⟨rfl, ⟨nd, rfl⟩⟩) | (go_at_call 23; (with_reducible refine (stencillaw0_numbers7.calls  true _ A31.out).mono ?_); rintro e w' ⟨rfl, ⟨nd, rfl⟩⟩) | (go_at_call 24; (with_reducible refine (stencillaw0_numbers8.calls  true _ A33.out).mono ?_); rintro e w' ⟨rfl, ⟨nd, rfl⟩⟩) | (go_at_call 25; (with_reducible refine (stencillaw0_numbers9.calls  false _ A35.out).mono ?_); rintro e w' ⟨rfl, ⟨nd, rfl⟩⟩))
                                      go_ret
                                      exact ⟨by first | rfl | (simp; done) | (simp [*]; done), by repeat (first | exact Drawn0.refl _ | apply Drawn0.step)⟩
                                  · replace c34 := Bool.eq_false_iff.mpr c34
                                    subst c34
                                    have H1 : (some false) = some r := by rw [if_neg (show ¬ (false = true) by decide)] at H; exact H
                                    clear H
                                    have H := H1
                                    clear H1
                                    obtain rfl := Option.some.inj H
                                    go_enter Try.func3, Try.ntmps3
                                    go_wp2_with (first | ((with_reducible refine gate_callee (f := 8) rfl ?_); refine goesL_ (some 1) rfl rfl Try.func8 (by kernel_rfl) rfl #[] rfl (by (try simp only [List.map_toArray, List.map_cons, List.map_nil]); first | done | rfl | (simp only [List.length_drop, List.length_take]; rfl)) ?_; (with_reducible refine (stencillaw0_errors1.calls  true _ A1.out).mono ?_); rintro e w' ⟨rfl, ⟨nd, rfl⟩⟩; refine ⟨_, rfl, ?_⟩) | (go_at_call 9; (with_reducible refine (stencillaw0_errors2.calls  true _ A3.out).mono ?_); rintro e w' ⟨rfl, ⟨nd, rfl⟩⟩) | (go_at_call 10; (with_reducible refine (stencillaw0_errors3.calls  true _ A5.out).mono ?_); rintro e w' ⟨rfl, ⟨nd, rfl⟩⟩) | (go_at_call 11; (with_reducible refine (stencillaw0_errors4.calls  true _ A7.out).mono ?_); rintro e w' ⟨rfl, ⟨nd, rfl⟩⟩) | (go_at_call 12; (with_reducible refine (stencillaw0_errors5.calls  true _ A9.out).mono ?_); rintro e w' ⟨rfl, ⟨nd, rfl⟩⟩) | (go_at_call 13; (with_reducible refine (stencillaw0_errors6.calls  true _ A11.out).mono ?_); rintro e w' ⟨rfl, ⟨nd, rfl⟩⟩) | (go_at_call 14; (with_reducible refine (stencillaw0_errors7.calls  true _ A13.out).mono ?_); rintro e w' ⟨rfl, ⟨nd, rfl⟩⟩) | (go_at_call 15; (with_reducible refine (stencillaw0_errors8.calls  true _ A15.out).mono ?_); rintro e w' ⟨rfl, ⟨nd, rfl⟩⟩) | (go_at_call 16; (with_reducible refine (stencillaw0_errors9.calls  true _ A17.out).mono ?_); rintro e w' ⟨rfl, ⟨nd, rfl⟩⟩) | (go_at_call 17; (with_reducible refine (stencillaw0_numbers1.calls  true _ A19.out).mono ?_); rintro e w' ⟨rfl, ⟨nd, rfl⟩⟩) | (go_at_call 18; (with_reducible refine (stencillaw0_numbers2.calls  true _ A21.out).mono ?_); rintro e w' ⟨rfl, ⟨nd, rfl⟩⟩) | (go_at_call 19; (with_reducible refine (stencillaw0_numbers3.calls  true _ A23.out).mono ?_); rintro e w' ⟨rfl, ⟨nd, rfl⟩⟩) | (go_at_call 20; (with_reducible refine (stencillaw0_numbers4.calls  true _ A25.out).mono ?_); rintro e w' ⟨rfl, ⟨nd, rfl⟩⟩) | (go_at_call 21; (with_reducible refine (stencillaw0_numbers5.calls  true _ A27.out).mono ?_); rintro e w' ⟨rfl, ⟨nd, rfl⟩⟩) | (go_at_call 22; (with_reducible refine (stencillaw0_numbers6.calls  true _ A29.out).mono ?_); rintro e w' ⟨rfl, ⟨nd, rfl⟩⟩) | (go_at_call 23; (with_reducible refine (stencillaw0_numbers7.calls  true _ A31.out).mono ?_); rintro e w' ⟨rfl, ⟨nd, rfl⟩⟩) | (go_at_call 24; (with_reducible refine (stencillaw0_numbers8.calls  false _ A33.out).mono ?_); rintro e w' ⟨rfl, ⟨nd, rfl⟩⟩))
                                    go_ret
                                    exact ⟨by first | rfl | (simp; done) | (simp [*]; done), by repeat (first | exact Drawn0.refl _ | apply Drawn0.step)⟩
                                · replace c32 := Bool.eq_false_iff.mpr c32
                                  subst c32
                                  have H1 : (some false) = some r := by rw [if_neg (show ¬ (false = true) by decide)] at H; exact H
                                  clear H
                                  have H := H1
                                  clear H1
                                  obtain rfl := Option.some.inj H
                                  go_enter Try.func3, Try.ntmps3
                                  go_wp2_with (first | ((with_reducible refine gate_callee (f := 8) rfl ?_); refine goesL_ (some 1) rfl rfl Try.func8 (by kernel_rfl) rfl #[] rfl (by (try simp only [List.map_toArray, List.map_cons, List.map_nil]); first | done | rfl | (simp only [List.length_drop, List.length_take]; rfl)) ?_; (with_reducible refine (stencillaw0_errors1.calls  true _ A1.out).mono ?_); rintro e w' ⟨rfl, ⟨nd, rfl⟩⟩; refine ⟨_, rfl, ?_⟩) | (go_at_call 9; (with_reducible refine (stencillaw0_errors2.calls  true _ A3.out).mono ?_); rintro e w' ⟨rfl, ⟨nd, rfl⟩⟩) | (go_at_call 10; (with_reducible refine (stencillaw0_errors3.calls  true _ A5.out).mono ?_); rintro e w' ⟨rfl, ⟨nd, rfl⟩⟩) | (go_at_call 11; (with_reducible refine (stencillaw0_errors4.calls  true _ A7.out).mono ?_); rintro e w' ⟨rfl, ⟨nd, rfl⟩⟩) | (go_at_call 12; (with_reducible refine (stencillaw0_errors5.calls  true _ A9.out).mono ?_); rintro e w' ⟨rfl, ⟨nd, rfl⟩⟩) | (go_at_call 13; (with_reducible refine (stencillaw0_errors6.calls  true _ A11.out).mono ?_); rintro e w' ⟨rfl, ⟨nd, rfl⟩⟩) | (go_at_call 14; (with_reducible refine (stencillaw0_errors7.calls  true _ A13.out).mono ?_); rintro e w' ⟨rfl, ⟨nd, rfl⟩⟩) | (go_at_call 15; (with_reducible refine (stencillaw0_errors8.calls  true _ A15.out).mono ?_); rintro e w' ⟨rfl, ⟨nd, rfl⟩⟩) | (go_at_call 16; (with_reducible refine (stencillaw0_errors9.calls  true _ A17.out).mono ?_); rintro e w' ⟨rfl, ⟨nd, rfl⟩⟩) | (go_at_call 17; (with_reducible refine (stencillaw0_numbers1.calls  true _ A19.out).mono ?_); rintro e w' ⟨rfl, ⟨nd, rfl⟩⟩) | (go_at_call 18; (with_reducible refine (stencillaw0_numbers2.calls  true _ A21.out).mono ?_); rintro e w' ⟨rfl, ⟨nd, rfl⟩⟩) | (go_at_call 19; (with_reducible refine (stencillaw0_numbers3.calls  true _ A23.out).mono ?_); rintro e w' ⟨rfl, ⟨nd, rfl⟩⟩) | (go_at_call 20; (with_reducible refine (stencillaw0_numbers4.calls  true _ A25.out).mono ?_); rintro e w' ⟨rfl, ⟨nd, rfl⟩⟩) | (go_at_call 21; (with_reducible refine (stencillaw0_numbers5.calls  true _ A27.out).mono ?_); rintro e w' ⟨rfl, ⟨nd, rfl⟩⟩) | (go_at_call 22; (with_reducible refine (stencillaw0_numbers6.calls  true _ A29.out).mono ?_); rintro e w' ⟨rfl, ⟨nd, rfl⟩⟩) | (go_at_call 23; (with_reducible refine (stencillaw0_numbers7.calls  false _ A31.out).mono ?_); rintro e w' ⟨rfl, ⟨nd, rfl⟩⟩))
                                  go_ret
                                  exact ⟨by first | rfl | (simp; done) | (simp [*]; done), by repeat (first | exact Drawn0.refl _ | apply Drawn0.step)⟩
                              · replace c30 := Bool.eq_false_iff.mpr c30
                                subst c30
                                have H1 : (some false) = some r := by rw [if_neg (show ¬ (false = true) by decide)] at H; exact H
                                clear H
                                have H := H1
                                clear H1
                                obtain rfl := Option.some.inj H
                                go_enter Try.func3, Try.ntmps3
                                go_wp2_with (first | ((with_reducible refine gate_callee (f := 8) rfl ?_); refine goesL_ (some 1) rfl rfl Try.func8 (by kernel_rfl) rfl #[] rfl (by (try simp only [List.map_toArray, List.map_cons, List.map_nil]); first | done | rfl | (simp only [List.length_drop, List.length_take]; rfl)) ?_; (with_reducible refine (stencillaw0_errors1.calls  true _ A1.out).mono ?_); rintro e w' ⟨rfl, ⟨nd, rfl⟩⟩; refine ⟨_, rfl, ?_⟩) | (go_at_call 9; (with_reducible refine (stencillaw0_errors2.calls  true _ A3.out).mono ?_); rintro e w' ⟨rfl, ⟨nd, rfl⟩⟩) | (go_at_call 10; (with_reducible refine (stencillaw0_errors3.calls  true _ A5.out).mono ?_); rintro e w' ⟨rfl, ⟨nd, rfl⟩⟩) | (go_at_call 11; (with_reducible refine (stencillaw0_errors4.calls  true _ A7.out).mono ?_); rintro e w' ⟨rfl, ⟨nd, rfl⟩⟩) | (go_at_call 12; (with_reducible refine (stencillaw0_errors5.calls  true _ A9.out).mono ?_); rintro e w' ⟨rfl, ⟨nd, rfl⟩⟩) | (go_at_call 13; (with_reducible refine (stencillaw0_errors6.calls  true _ A11.out).mono ?_); rintro e w' ⟨rfl, ⟨nd, rfl⟩⟩) | (go_at_call 14; (with_reducible refine (stencillaw0_errors7.calls  true _ A13.out).mono ?_); rintro e w' ⟨rfl, ⟨nd, rfl⟩⟩) | (go_at_call 15; (with_reducible refine (stencillaw0_errors8.calls  true _ A15.out).mono ?_); rintro e w' ⟨rfl, ⟨nd, rfl⟩⟩) | (go_at_call 16; (with_reducible refine (stencillaw0_errors9.calls  true _ A17.out).mono ?_); rintro e w' ⟨rfl, ⟨nd, rfl⟩⟩) | (go_at_call 17; (with_reducible refine (stencillaw0_numbers1.calls  true _ A19.out).mono ?_); rintro e w' ⟨rfl, ⟨nd, rfl⟩⟩) | (go_at_call 18; (with_reducible refine (stencillaw0_numbers2.calls  true _ A21.out).mono ?_); rintro e w' ⟨rfl, ⟨nd, rfl⟩⟩) | (go_at_call 19; (with_reducible refine (stencillaw0_numbers3.calls  true _ A23.out).mono ?_); rintro e w' ⟨rfl, ⟨nd, rfl⟩⟩) | (go_at_call 20; (with_reducible refine (stencillaw0_numbers4.calls  true _ A25.out).mono ?_); rintro e w' ⟨rfl, ⟨nd, rfl⟩⟩) | (go_at_call 21; (with_reducible refine (stencillaw0_numbers5.calls  true _ A27.out).mono ?_); rintro e w' ⟨rfl, ⟨nd, rfl⟩⟩) | (go_at_call 22; (with_reducible refine (stencillaw0_numbers6.calls  false _ A29.out).mono ?_); rintro e w' ⟨rfl, ⟨nd, rfl⟩⟩))
                                go_ret
                                exact ⟨by first | rfl | (simp; done) | (simp [*]; done), by repeat (first | exact Drawn0.refl _ | apply Drawn0.step)⟩
                            · replace c28 := Bool.eq_false_iff.mpr c28
                              subst c28
                              have H1 : (some false) = some r := by rw [if_neg (show ¬ (false = true) by decide)] at H; exact H
                              clear H
                              have H := H1
                              clear H1
                              obtain rfl := Option.some.inj H
                              go_enter Try.func3, Try.ntmps3
                              go_wp2_with (first | ((with_reducible refine gate_callee (f := 8) rfl ?_); refine goesL_ (some 1) rfl rfl Try.func8 (by kernel_rfl) rfl #[] rfl (by (try simp only [List.map_toArray, List.map_cons, List.map_nil]); first | done | rfl | (simp only [List.length_drop, List.length_take]; rfl)) ?_; (with_reducible refine (stencillaw0_errors1.calls  true _ A1.out).mono ?_); rintro e w' ⟨rfl, ⟨nd, rfl⟩⟩; refine ⟨_, rfl, ?_⟩) | (go_at_call 9; (with_reducible refine (stencillaw0_errors2.calls  true _ A3.out).mono ?_); rintro e w' ⟨rfl, ⟨nd, rfl⟩⟩) | (go_at_call 10; (with_reducible refine (stencillaw0_errors3.calls  true _ A5.out).mono ?_); rintro e w' ⟨rfl, ⟨nd, rfl⟩⟩) | (go_at_call 11; (with_reducible refine (stencillaw0_errors4.calls  true _ A7.out).mono ?_); rintro e w' ⟨rfl, ⟨nd, rfl⟩⟩) | (go_at_call 12; (with_reducible refine (stencillaw0_errors5.calls  true _ A9.out).mono ?_); rintro e w' ⟨rfl, ⟨nd, rfl⟩⟩) | (go_at_call 13; (with_reducible refine (stencillaw0_errors6.calls  true _ A11.out).mono ?_); rintro e w' ⟨rfl, ⟨nd, rfl⟩⟩) | (go_at_call 14; (with_reducible refine (stencillaw0_errors7.calls  true _ A13.out).mono ?_); rintro e w' ⟨rfl, ⟨nd, rfl⟩⟩) | (go_at_call 15; (with_reducible refine (stencillaw0_errors8.calls  true _ A15.out).mono ?_); rintro e w' ⟨rfl, ⟨nd, rfl⟩⟩) | (go_at_call 16; (with_reducible refine (stencillaw0_errors9.calls  true _ A17.out).mono ?_); rintro e w' ⟨rfl, ⟨nd, rfl⟩⟩) | (go_at_call 17; (with_reducible refine (stencillaw0_numbers1.calls  true _ A19.out).mono ?_); rintro e w' ⟨rfl, ⟨nd, rfl⟩⟩) | (go_at_call 18; (with_reducible refine (stencillaw0_numbers2.calls  true _ A21.out).mono ?_); rintro e w' ⟨rfl, ⟨nd, rfl⟩⟩) | (go_at_call 19; (with_reducible refine (stencillaw0_numbers3.calls  true _ A23.out).mono ?_); rintro e w' ⟨rfl, ⟨nd, rfl⟩⟩) | (go_at_call 20; (with_reducible refine (stencillaw0_numbers4.calls  true _ A25.out).mono ?_); rintro e w' ⟨rfl, ⟨nd, rfl⟩⟩) | (go_at_call 21; (with_reducible refine (stencillaw0_numbers5.calls  false _ A27.out).mono ?_); rintro e w' ⟨rfl, ⟨nd, rfl⟩⟩))
                              go_ret
                              exact ⟨by first | rfl | (simp; done) | (simp [*]; done), by repeat (first | exact Drawn0.refl _ | apply Drawn0.step)⟩
                          · replace c26 := Bool.eq_false_iff.mpr c26
                            subst c26
                            have H1 : (some false) = some r := by rw [if_neg (show ¬ (false = true) by decide)] at H; exact H
                            clear H
                            have H := H1
                            clear H1
                            obtain rfl := Option.some.inj H
                            go_enter Try.func3, Try.ntmps3
                            go_wp2_with (first | ((with_reducible refine gate_callee (f := 8) rfl ?_); refine goesL_ (some 1) rfl rfl Try.func8 (by kernel_rfl) rfl #[] rfl (by (try simp only [List.map_toArray, List.map_cons, List.map_nil]); first | done | rfl | (simp only [List.length_drop, List.length_take]; rfl)) ?_; (with_reducible refine (stencillaw0_errors1.calls  true _ A1.out).mono ?_); rintro e w' ⟨rfl, ⟨nd, rfl⟩⟩; refine ⟨_, rfl, ?_⟩) | (go_at_call 9; (with_reducible refine (stencillaw0_errors2.calls  true _ A3.out).mono ?_); rintro e w' ⟨rfl, ⟨nd, rfl⟩⟩) | (go_at_call 10; (with_reducible refine (stencillaw0_errors3.calls  true _ A5.out).mono ?_); rintro e w' ⟨rfl, ⟨nd, rfl⟩⟩) | (go_at_call 11; (with_reducible refine (stencillaw0_errors4.calls  true _ A7.out).mono ?_); rintro e w' ⟨rfl, ⟨nd, rfl⟩⟩) | (go_at_call 12; (with_reducible refine (stencillaw0_errors5.calls  true _ A9.out).mono ?_); rintro e w' ⟨rfl, ⟨nd, rfl⟩⟩) | (go_at_call 13; (with_reducible refine (stencillaw0_errors6.calls  true _ A11.out).mono ?_); rintro e w' ⟨rfl, ⟨nd, rfl⟩⟩) | (go_at_call 14; (with_reducible refine (stencillaw0_errors7.calls  true _ A13.out).mono ?_); rintro e w' ⟨rfl, ⟨nd, rfl⟩⟩) | (go_at_call 15; (with_reducible refine (stencillaw0_errors8.calls  true _ A15.out).mono ?_); rintro e w' ⟨rfl, ⟨nd, rfl⟩⟩) | (go_at_call 16; (with_reducible refine (stencillaw0_errors9.calls  true _ A17.out).mono ?_); rintro e w' ⟨rfl, ⟨nd, rfl⟩⟩) | (go_at_call 17; (with_reducible refine (stencillaw0_numbers1.calls  true _ A19.out).mono ?_); rintro e w' ⟨rfl, ⟨nd, rfl⟩⟩) | (go_at_call 18; (with_reducible refine (stencillaw0_numbers2.calls  true _ A21.out).mono ?_); rintro e w' ⟨rfl, ⟨nd, rfl⟩⟩) | (go_at_call 19; (with_reducible refine (stencillaw0_numbers3.calls  true _ A23.out).mono ?_); rintro e w' ⟨rfl, ⟨nd, rfl⟩⟩) | (go_at_call 20; (with_reducible refine (stencillaw0_numbers4.calls  false _ A25.out).mono ?_); rintro e w' ⟨rfl, ⟨nd, rfl⟩⟩))
                            go_ret
                            exact ⟨by first | rfl | (simp; done) | (simp [*]; done), by repeat (first | exact Drawn0.refl _ | apply Drawn0.step)⟩
                        · replace c24 := Bool.eq_false_iff.mpr c24
                          subst c24
                          have H1 : (some false) = some r := by rw [if_neg (show ¬ (false = true) by decide)] at H; exact H
                          clear H
                          have H := H1
                          clear H1
                          obtain rfl := Option.some.inj H
                          go_enter Try.func3, Try.ntmps3
                          go_wp2_with (first | ((with_reducible refine gate_callee (f := 8) rfl ?_); refine goesL_ (some 1) rfl rfl Try.func8 (by kernel_rfl) rfl #[] rfl (by (try simp only [List.map_toArray, List.map_cons, List.map_nil]); first | done | rfl | (simp only [List.length_drop, List.length_take]; rfl)) ?_; (with_reducible refine (stencillaw0_errors1.calls  true _ A1.out).mono ?_); rintro e w' ⟨rfl, ⟨nd, rfl⟩⟩; refine ⟨_, rfl, ?_⟩) | (go_at_call 9; (with_reducible refine (stencillaw0_errors2.calls  true _ A3.out).mono ?_); rintro e w' ⟨rfl, ⟨nd, rfl⟩⟩) | (go_at_call 10; (with_reducible refine (stencillaw0_errors3.calls  true _ A5.out).mono ?_); rintro e w' ⟨rfl, ⟨nd, rfl⟩⟩) | (go_at_call 11; (with_reducible refine (stencillaw0_errors4.calls  true _ A7.out).mono ?_); rintro e w' ⟨rfl, ⟨nd, rfl⟩⟩) | (go_at_call 12; (with_reducible refine (stencillaw0_errors5.calls  true _ A9.out).mono ?_); rintro e w' ⟨rfl, ⟨nd, rfl⟩⟩) | (go_at_call 13; (with_reducible refine (stencillaw0_errors6.calls  true _ A11.out).mono ?_); rintro e w' ⟨rfl, ⟨nd, rfl⟩⟩) | (go_at_call 14; (with_reducible refine (stencillaw0_errors7.calls  true _ A13.out).mono ?_); rintro e w' ⟨rfl, ⟨nd, rfl⟩⟩) | (go_at_call 15; (with_reducible refine (stencillaw0_errors8.calls  true _ A15.out).mono ?_); rintro e w' ⟨rfl, ⟨nd, rfl⟩⟩) | (go_at_call 16; (with_reducible refine (stencillaw0_errors9.calls  true _ A17.out).mono ?_); rintro e w' ⟨rfl, ⟨nd, rfl⟩⟩) | (go_at_call 17; (with_reducible refine (stencillaw0_numbers1.calls  true _ A19.out).mono ?_); rintro e w' ⟨rfl, ⟨nd, rfl⟩⟩) | (go_at_call 18; (with_reducible refine (stencillaw0_numbers2.calls  true _ A21.out).mono ?_); rintro e w' ⟨rfl, ⟨nd, rfl⟩⟩) | (go_at_call 19; (with_reducible refine (stencillaw0_numbers3.calls  false _ A23.out).mono ?_); rintro e w' ⟨rfl, ⟨nd, rfl⟩⟩))
                          go_ret
                          exact ⟨by first | rfl | (simp; done) | (simp [*]; done), by repeat (first | exact Drawn0.refl _ | apply Drawn0.step)⟩
                      · replace c22 := Bool.eq_false_iff.mpr c22
                        subst c22
                        have H1 : (some false) = some r := by rw [if_neg (show ¬ (false = true) by decide)] at H; exact H
                        clear H
                        have H := H1
                        clear H1
                        obtain rfl := Option.some.inj H
                        go_enter Try.func3, Try.ntmps3
                        go_wp2_with (first | ((with_reducible refine gate_callee (f := 8) rfl ?_); refine goesL_ (some 1) rfl rfl Try.func8 (by kernel_rfl) rfl #[] rfl (by (try simp only [List.map_toArray, List.map_cons, List.map_nil]); first | done | rfl | (simp only [List.length_drop, List.length_take]; rfl)) ?_; (with_reducible refine (stencillaw0_errors1.calls  true _ A1.out).mono ?_); rintro e w' ⟨rfl, ⟨nd, rfl⟩⟩; refine ⟨_, rfl, ?_⟩) | (go_at_call 9; (with_reducible refine (stencillaw0_errors2.calls  true _ A3.out).mono ?_); rintro e w' ⟨rfl, ⟨nd, rfl⟩⟩) | (go_at_call 10; (with_reducible refine (stencillaw0_errors3.calls  true _ A5.out).mono ?_); rintro e w' ⟨rfl, ⟨nd, rfl⟩⟩) | (go_at_call 11; (with_reducible refine (stencillaw0_errors4.calls  true _ A7.out).mono ?_); rintro e w' ⟨rfl, ⟨nd, rfl⟩⟩) | (go_at_call 12; (with_reducible refine (stencillaw0_errors5.calls  true _ A9.out).mono ?_); rintro e w' ⟨rfl, ⟨nd, rfl⟩⟩) | (go_at_call 13; (with_reducible refine (stencillaw0_errors6.calls  true _ A11.out).mono ?_); rintro e w' ⟨rfl, ⟨nd, rfl⟩⟩) | (go_at_call 14; (with_reducible refine (stencillaw0_errors7.calls  true _ A13.out).mono ?_); rintro e w' ⟨rfl, ⟨nd, rfl⟩⟩) | (go_at_call 15; (with_reducible refine (stencillaw0_errors8.calls  true _ A15.out).mono ?_); rintro e w' ⟨rfl, ⟨nd, rfl⟩⟩) | (go_at_call 16; (with_reducible refine (stencillaw0_errors9.calls  true _ A17.out).mono ?_); rintro e w' ⟨rfl, ⟨nd, rfl⟩⟩) | (go_at_call 17; (with_reducible refine (stencillaw0_numbers1.calls  true _ A19.out).mono ?_); rintro e w' ⟨rfl, ⟨nd, rfl⟩⟩) | (go_at_call 18; (with_reducible refine (stencillaw0_numbers2.calls  false _ A21.out).mono ?_); rintro e w' ⟨rfl, ⟨nd, rfl⟩⟩))
                        go_ret
                        exact ⟨by first | rfl | (simp; done) | (simp [*]; done), by repeat (first | exact Drawn0.refl _ | apply Drawn0.step)⟩
                    · replace c20 := Bool.eq_false_iff.mpr c20
                      subst c20
                      have H1 : (some false) = some r := by rw [if_neg (show ¬ (false = true) by decide)] at H; exact H
                      clear H
                      have H := H1
                      clear H1
                      obtain rfl := Option.some.inj H
                      go_enter Try.func3, Try.ntmps3
                      go_wp2_with (first | ((with_reducible refine gate_callee (f := 8) rfl ?_); refine goesL_ (some 1) rfl rfl Try.func8 (by kernel_rfl) rfl #[] rfl (by (try simp only [List.map_toArray, List.map_cons, List.map_nil]); first | done | rfl | (simp only [List.length_drop, List.length_take]; rfl)) ?_; (with_reducible refine (stencillaw0_errors1.calls  true _ A1.out).mono ?_); rintro e w' ⟨rfl, ⟨nd, rfl⟩⟩; refine ⟨_, rfl, ?_⟩) | (go_at_call 9; (with_reducible refine (stencillaw0_errors2.calls  true _ A3.out).mono ?_); rintro e w' ⟨rfl, ⟨nd, rfl⟩⟩) | (go_at_call 10; (with_reducible refine (stencillaw0_errors3.calls  true _ A5.out).mono ?_); rintro e w' ⟨rfl, ⟨nd, rfl⟩⟩) | (go_at_call 11; (with_reducible refine (stencillaw0_errors4.calls  true _ A7.out).mono ?_); rintro e w' ⟨rfl, ⟨nd, rfl⟩⟩) | (go_at_call 12; (with_reducible refine (stencillaw0_errors5.calls  true _ A9.out).mono ?_); rintro e w' ⟨rfl, ⟨nd, rfl⟩⟩) | (go_at_call 13; (with_reducible refine (stencillaw0_errors6.calls  true _ A11.out).mono ?_); rintro e w' ⟨rfl, ⟨nd, rfl⟩⟩) | (go_at_call 14; (with_reducible refine (stencillaw0_errors7.calls  true _ A13.out).mono ?_); rintro e w' ⟨rfl, ⟨nd, rfl⟩⟩) | (go_at_call 15; (with_reducible refine (stencillaw0_errors8.calls  true _ A15.out).mono ?_); rintro e w' ⟨rfl, ⟨nd, rfl⟩⟩) | (go_at_call 16; (with_reducible refine (stencillaw0_errors9.calls  true _ A17.out).mono ?_); rintro e w' ⟨rfl, ⟨nd, rfl⟩⟩) | (go_at_call 17; (with_reducible refine (stencillaw0_numbers1.calls  false _ A19.out).mono ?_); rintro e w' ⟨rfl, ⟨nd, rfl⟩⟩))
                      go_ret
                      exact ⟨by first | rfl | (simp; done) | (simp [*]; done), by repeat (first | exact Drawn0.refl _ | apply Drawn0.step)⟩
                  · replace c18 := Bool.eq_false_iff.mpr c18
                    subst c18
                    have H1 : (some false) = some r := by rw [if_neg (show ¬ (false = true) by decide)] at H; exact H
                    clear H
                    have H := H1
                    clear H1
                    obtain rfl := Option.some.inj H
                    go_enter Try.func3, Try.ntmps3
                    go_wp2_with (first | ((with_reducible refine gate_callee (f := 8) rfl ?_); refine goesL_ (some 1) rfl rfl Try.func8 (by kernel_rfl) rfl #[] rfl (by (try simp only [List.map_toArray, List.map_cons, List.map_nil]); first | done | rfl | (simp only [List.length_drop, List.length_take]; rfl)) ?_; (with_reducible refine (stencillaw0_errors1.calls  true _ A1.out).mono ?_); rintro e w' ⟨rfl, ⟨nd, rfl⟩⟩; refine ⟨_, rfl, ?_⟩) | (go_at_call 9; (with_reducible refine (stencillaw0_errors2.calls  true _ A3.out).mono ?_); rintro e w' ⟨rfl, ⟨nd, rfl⟩⟩) | (go_at_call 10; (with_reducible refine (stencillaw0_errors3.calls  true _ A5.out).mono ?_); rintro e w' ⟨rfl, ⟨nd, rfl⟩⟩) | (go_at_call 11; (with_reducible refine (stencillaw0_errors4.calls  true _ A7.out).mono ?_); rintro e w' ⟨rfl, ⟨nd, rfl⟩⟩) | (go_at_call 12; (with_reducible refine (stencillaw0_errors5.calls  true _ A9.out).mono ?_); rintro e w' ⟨rfl, ⟨nd, rfl⟩⟩) | (go_at_call 13; (with_reducible refine (stencillaw0_errors6.calls  true _ A11.out).mono ?_); rintro e w' ⟨rfl, ⟨nd, rfl⟩⟩) | (go_at_call 14; (with_reducible refine (stencillaw0_errors7.calls  true _ A13.out).mono ?_); rintro e w' ⟨rfl, ⟨nd, rfl⟩⟩) | (go_at_call 15; (with_reducible refine (stencillaw0_errors8.calls  true _ A15.out).mono ?_); rintro e w' ⟨rfl, ⟨nd, rfl⟩⟩) | (go_at_call 16; (with_reducible refine (stencillaw0_errors9.calls  false _ A17.out).mono ?_); rintro e w' ⟨rfl, ⟨nd, rfl⟩⟩))
                    go_ret
                    exact ⟨by first | rfl | (simp; done) | (simp [*]; done), by repeat (first | exact Drawn0.refl _ | apply Drawn0.step)⟩
                · replace c16 := Bool.eq_false_iff.mpr c16
                  subst c16
                  have H1 : (some false) = some r := by rw [if_neg (show ¬ (false = true) by decide)] at H; exact H
                  clear H
                  have H := H1
                  clear H1
                  obtain rfl := Option.some.inj H
                  go_enter Try.func3, Try.ntmps3
                  go_wp2_with (first | ((with_reducible refine gate_callee (f := 8) rfl ?_); refine goesL_ (some 1) rfl rfl Try.func8 (by kernel_rfl) rfl #[] rfl (by (try simp only [List.map_toArray, List.map_cons, List.map_nil]); first | done | rfl | (simp only [List.length_drop, List.length_take]; rfl)) ?_; (with_reducible refine (stencillaw0_errors1.calls  true _ A1.out).mono ?_); rintro e w' ⟨rfl, ⟨nd, rfl⟩⟩; refine ⟨_, rfl, ?_⟩) | (go_at_call 9; (with_reducible refine (stencillaw0_errors2.calls  true _ A3.out).mono ?_); rintro e w' ⟨rfl, ⟨nd, rfl⟩⟩) | (go_at_call 10; (with_reducible refine (stencillaw0_errors3.calls  true _ A5.out).mono ?_); rintro e w' ⟨rfl, ⟨nd, rfl⟩⟩) | (go_at_call 11; (with_reducible refine (stencillaw0_errors4.calls  true _ A7.out).mono ?_); rintro e w' ⟨rfl, ⟨nd, rfl⟩⟩) | (go_at_call 12; (with_reducible refine (stencillaw0_errors5.calls  true _ A9.out).mono ?_); rintro e w' ⟨rfl, ⟨nd, rfl⟩⟩) | (go_at_call 13; (with_reducible refine (stencillaw0_errors6.calls  true _ A11.out).mono ?_); rintro e w' ⟨rfl, ⟨nd, rfl⟩⟩) | (go_at_call 14; (with_reducible refine (stencillaw0_errors7.calls  true _ A13.out).mono ?_); rintro e w' ⟨rfl, ⟨nd, rfl⟩⟩) | (go_at_call 15; (with_reducible refine (stencillaw0_errors8.calls  false _ A15.out).mono ?_); rintro e w' ⟨rfl, ⟨nd, rfl⟩⟩))
                  go_ret
                  exact ⟨by first | rfl | (simp; done) | (simp [*]; done), by repeat (first | exact Drawn0.refl _ | apply Drawn0.step)⟩
              · replace c14 := Bool.eq_false_iff.mpr c14
                subst c14
                have H1 : (some false) = some r := by rw [if_neg (show ¬ (false = true) by decide)] at H; exact H
                clear H
                have H := H1
                clear H1
                obtain rfl := Option.some.inj H
                go_enter Try.func3, Try.ntmps3
                go_wp2_with (first | ((with_reducible refine gate_callee (f := 8) rfl ?_); refine goesL_ (some 1) rfl rfl Try.func8 (by kernel_rfl) rfl #[] rfl (by (try simp only [List.map_toArray, List.map_cons, List.map_nil]); first | done | rfl | (simp only [List.length_drop, List.length_take]; rfl)) ?_; (with_reducible refine (stencillaw0_errors1.calls  true _ A1.out).mono ?_); rintro e w' ⟨rfl, ⟨nd, rfl⟩⟩; refine ⟨_, rfl, ?_⟩) | (go_at_call 9; (with_reducible refine (stencillaw0_errors2.calls  true _ A3.out).mono ?_); rintro e w' ⟨rfl, ⟨nd, rfl⟩⟩) | (go_at_call 10; (with_reducible refine (stencillaw0_errors3.calls  true _ A5.out).mono ?_); rintro e w' ⟨rfl, ⟨nd, rfl⟩⟩) | (go_at_call 11; (with_reducible refine (stencillaw0_errors4.calls  true _ A7.out).mono ?_); rintro e w' ⟨rfl, ⟨nd, rfl⟩⟩) | (go_at_call 12; (with_reducible refine (stencillaw0_errors5.calls  true _ A9.out).mono ?_); rintro e w' ⟨rfl, ⟨nd, rfl⟩⟩) | (go_at_call 13; (with_reducible refine (stencillaw0_errors6.calls  true _ A11.out).mono ?_); rintro e w' ⟨rfl, ⟨nd, rfl⟩⟩) | (go_at_call 14; (with_reducible refine (stencillaw0_errors7.calls  false _ A13.out).mono ?_); rintro e w' ⟨rfl, ⟨nd, rfl⟩⟩))
                go_ret
                exact ⟨by first | rfl | (simp; done) | (simp [*]; done), by repeat (first | exact Drawn0.refl _ | apply Drawn0.step)⟩
            · replace c12 := Bool.eq_false_iff.mpr c12
              subst c12
              have H1 : (some false) = some r := by rw [if_neg (show ¬ (false = true) by decide)] at H; exact H
              clear H
              have H := H1
              clear H1
              obtain rfl := Option.some.inj H
              go_enter Try.func3, Try.ntmps3
              go_wp2_with (first | ((with_reducible refine gate_callee (f := 8) rfl ?_); refine goesL_ (some 1) rfl rfl Try.func8 (by kernel_rfl) rfl #[] rfl (by (try simp only [List.map_toArray, List.map_cons, List.map_nil]); first | done | rfl | (simp only [List.length_drop, List.length_take]; rfl)) ?_; (with_reducible refine (stencillaw0_errors1.calls  true _ A1.out).mono ?_); rintro e w' ⟨rfl, ⟨nd, rfl⟩⟩; refine ⟨_, rfl, ?_⟩) | (go_at_call 9; (with_reducible refine (stencillaw0_errors2.calls  true _ A3.out).mono ?_); rintro e w' ⟨rfl, ⟨nd, rfl⟩⟩) | (go_at_call 10; (with_reducible refine (stencillaw0_errors3.calls  true _ A5.out).mono ?_); rintro e w' ⟨rfl, ⟨nd, rfl⟩⟩) | (go_at_call 11; (with_reducible refine (stencillaw0_errors4.calls  true _ A7.out).mono ?_); rintro e w' ⟨rfl, ⟨nd, rfl⟩⟩) | (go_at_call 12; (with_reducible refine (stencillaw0_errors5.calls  true _ A9.out).mono ?_); rintro e w' ⟨rfl, ⟨nd, rfl⟩⟩) | (go_at_call 13; (with_reducible refine (stencillaw0_errors6.calls  false _ A11.out).mono ?_); rintro e w' ⟨rfl, ⟨nd, rfl⟩⟩))
              go_ret
              exact ⟨by first | rfl | (simp; done) | (simp [*]; done), by repeat (first | exact Drawn0.refl _ | apply Drawn0.step)⟩
          · replace c10 := Bool.eq_false_iff.mpr c10
            subst c10
            have H1 : (some false) = some r := by rw [if_neg (show ¬ (false = true) by decide)] at H; exact H
            clear H
            have H := H1
            clear H1
            obtain rfl := Option.some.inj H
            go_enter Try.func3, Try.ntmps3
            go_wp2_with (first | ((with_reducible refine gate_callee (f := 8) rfl ?_); refine goesL_ (some 1) rfl rfl Try.func8 (by kernel_rfl) rfl #[] rfl (by (try simp only [List.map_toArray, List.map_cons, List.map_nil]); first | done | rfl | (simp only [List.length_drop, List.length_take]; rfl)) ?_; (with_reducible refine (stencillaw0_errors1.calls  true _ A1.out).mono ?_); rintro e w' ⟨rfl, ⟨nd, rfl⟩⟩; refine ⟨_, rfl, ?_⟩) | (go_at_call 9; (with_reducible refine (stencillaw0_errors2.calls  true _ A3.out).mono ?_); rintro e w' ⟨rfl, ⟨nd, rfl⟩⟩) | (go_at_call 10; (with_reducible refine (stencillaw0_errors3.calls  true _ A5.out).mono ?_); rintro e w' ⟨rfl, ⟨nd, rfl⟩⟩) | (go_at_call 11; (with_reducible refine (stencillaw0_errors4.calls  true _ A7.out).mono ?_); rintro e w' ⟨rfl, ⟨nd, rfl⟩⟩) | (go_at_call 12; (with_reducible refine (stencillaw0_errors5.calls  false _ A9.out).mono ?_); rintro e w' ⟨rfl, ⟨nd, rfl⟩⟩))
            go_ret
            exact ⟨by first | rfl | (simp; done) | (simp [*]; done), by repeat (first | exact Drawn0.refl _ | apply Drawn0.step)⟩
        · replace c8 := Bool.eq_false_iff.mpr c8
          subst c8
          have H1 : (some false) = some r := by rw [if_neg (show ¬ (false = true) by decide)] at H; exact H
          clear H
          have H := H1
          clear H1
          obtain rfl := Option.some.inj H
          go_enter Try.func3, Try.ntmps3
          go_wp2_with (first | ((with_reducible refine gate_callee (f := 8) rfl ?_); refine goesL_ (some 1) rfl rfl Try.func8 (by kernel_rfl) rfl #[] rfl (by (try simp only [List.map_toArray, List.map_cons, List.map_nil]); first | done | rfl | (simp only [List.length_drop, List.length_take]; rfl)) ?_; (with_reducible refine (stencillaw0_errors1.calls  true _ A1.out).mono ?_); rintro e w' ⟨rfl, ⟨nd, rfl⟩⟩; refine ⟨_, rfl, ?_⟩) | (go_at_call 9; (with_reducible refine (stencillaw0_errors2.calls  true _ A3.out).mono ?_); rintro e w' ⟨rfl, ⟨nd, rfl⟩⟩) | (go_at_call 10; (with_reducible refine (stencillaw0_errors3.calls  true _ A5.out).mono ?_); rintro e w' ⟨rfl, ⟨nd, rfl⟩⟩) | (go_at_call 11; (with_reducible refine (stencillaw0_errors4.calls  false _ A7.out).mono ?_); rintro e w' ⟨rfl, ⟨nd, rfl⟩⟩))
          go_ret
          exact ⟨by first | rfl | (simp; done) | (simp [*]; done), by repeat (first | exact Drawn0.refl _ | apply Drawn0.step)⟩
      · replace c6 := Bool.eq_false_iff.mpr c6
        subst c6
        have H1 : (some false) = some r := by rw [if_neg (show ¬ (false = true) by decide)] at H; exact H
        clear H
        have H := H1
        clear H1
        obtain rfl := Option.some.inj H
        go_enter Try.func3, Try.ntmps3
        go_wp2_with (first | ((with_reducible refine gate_callee (f := 8) rfl ?_); refine goesL_ (some 1) rfl rfl Try.func8 (by kernel_rfl) rfl #[] rfl (by (try simp only [List.map_toArray, List.map_cons, List.map_nil]); first | done | rfl | (simp only [List.length_drop, List.length_take]; rfl)) ?_; (with_reducible refine (stencillaw0_errors1.calls  true _ A1.out).mono ?_); rintro e w' ⟨rfl, ⟨nd, rfl⟩⟩; refine ⟨_, rfl, ?_⟩) | (go_at_call 9; (with_reducible refine (stencillaw0_errors2.calls  true _ A3.out).mono ?_); rintro e w' ⟨rfl, ⟨nd, rfl⟩⟩) | (go_at_call 10; (with_reducible refine (stencillaw0_errors3.calls  false _ A5.out).mono ?_); rintro e w' ⟨rfl, ⟨nd, rfl⟩⟩))
        go_ret
        exact ⟨by first | rfl | (simp; done) | (simp [*]; done), by repeat (first | exact Drawn0.refl _ | apply Drawn0.step)⟩
    · replace c4 := Bool.eq_false_iff.mpr c4
      subst c4
      have H1 : (some false) = some r := by rw [if_neg (show ¬ (false = true) by decide)] at H; exact H
      clear H
      have H := H1
      clear H1
      obtain rfl := Option.some.inj H
      go_enter Try.func3, Try.ntmps3
      go_wp2_with (first | ((with_reducible refine gate_callee (f := 8) rfl ?_); refine goesL_ (some 1) rfl rfl Try.func8 (by kernel_rfl) rfl #[] rfl (by (try simp only [List.map_toArray, List.map_cons, List.map_nil]); first | done | rfl | (simp only [List.length_drop, List.length_take]; rfl)) ?_; (with_reducible refine (stencillaw0_errors1.calls  true _ A1.out).mono ?_); rintro e w' ⟨rfl, ⟨nd, rfl⟩⟩; refine ⟨_, rfl, ?_⟩) | (go_at_call 9; (with_reducible refine (stencillaw0_errors2.calls  false _ A3.out).mono ?_); rintro e w' ⟨rfl, ⟨nd, rfl⟩⟩))
      go_ret
      exact ⟨by first | rfl | (simp; done) | (simp [*]; done), by repeat (first | exact Drawn0.refl _ | apply Drawn0.step)⟩
  · replace c2 := Bool.eq_false_iff.mpr c2
    subst c2
    have H1 : (some false) = some r := by rw [if_neg (show ¬ (false = true) by decide)] at H; exact H
    clear H
    have H := H1
    clear H1
    obtain rfl := Option.some.inj H
    go_enter Try.func3, Try.ntmps3
    go_wp2_with (first | ((with_reducible refine gate_callee (f := 8) rfl ?_); refine goesL_ (some 1) rfl rfl Try.func8 (by kernel_rfl) rfl #[] rfl (by (try simp only [List.map_toArray, List.map_cons, List.map_nil]); first | done | rfl | (simp only [List.length_drop, List.length_take]; rfl)) ?_; (with_reducible refine (stencillaw0_errors1.calls  false _ A1.out).mono ?_); rintro e w' ⟨rfl, ⟨nd, rfl⟩⟩; refine ⟨_, rfl, ?_⟩))
    go_ret
    exact ⟨by first | rfl | (simp; done) | (simp [*]; done), by repeat (first | exact Drawn0.refl _ | apply Drawn0.step)⟩

/-- THE ONE PURE STATEMENT of stencillaw0_StencilNames: yours. -/
def stencillaw0_StencilNames.Pure : Prop := stencillaw0_StencilNames.f  = some true
theorem stencillaw0_StencilNames.walk (P : stencillaw0_StencilNames.Pure)  (w : World)  :
    Calls Try.prog 3 #[] w fun e w' => e = .returned (.bool true) ∧ Below w.heap.size w w' := by
  have h := P  
  refine (stencillaw0_StencilNames.calls  true w h).mono ?_
  rintro e w' ⟨rfl, hd⟩
  exact ⟨rfl, hd.below⟩

end Go.Proofs.Ytcphoefiiejlhaa.PStencilNames
