-- PRINTED BY print.sh 35421559b90ae4d0a3588c463048766b98c2df88dd9212a6774a882060cdf62d: not written by this session
import Derived.Test.YtcphoefiiejlhaaPStencilNamesx0
import Derived.Test.YtcphoefiiejlhaaPStencilNamesx1
namespace Go.Proofs.Ytcphoefiiejlhaa.PStencilNames
open Go.RowKit Go.Proofs.YtcphoefiiejlhaaW.PrintWords Go.Proofs.YtcphoefiiejlhaaW.PrintLast Go.Proofs.YtcphoefiiejlhaaW.PrintMore
attribute [local go_sem] max2_int min2_int max_two min_two max_three min_three max_four min_four   -- for this text's walks alone
set_option linter.unusedVariables false
set_option linter.unusedSimpArgs false

/-! ### stencillaw0_errors4: function 11 -/
def stencillaw0_errors4.f  : Option (Bool) := (stencillaw0_Num.f 1003).bind fun t143 => (if t143 = 1003 then ((stencillaw0_Num.f 1100).bind fun t144 => (if t144 = 1100 then ((stencillaw0_Num.f 1101).bind fun t145 => (if t145 = 1101 then ((stencillaw0_Num.f 1102).bind fun t146 => (if t146 = 1102 then ((stencillaw0_Num.f 1103).bind fun t147 => (if t147 = 1103 then ((stencillaw0_Num.f 1104).bind fun t148 => (if t148 = 1104 then ((stencillaw0_Num.f 1105).bind fun t149 => (if t149 = 1105 then ((stencillaw0_Num.f 1106).bind fun t150 => (if t150 = 1106 then ((stencillaw0_Num.f 1107).bind fun t151 => (if t151 = 1107 then ((stencillaw0_Num.f 1108).bind fun t152 => (if t152 = 1108 then ((stencillaw0_Num.f 1200).bind fun t153 => (if t153 = 1200 then ((stencillaw0_Num.f 1201).bind fun t154 => (if t154 = 1201 then ((stencillaw0_Num.f 1202).bind fun t155 => (if t155 = 1202 then ((stencillaw0_Num.f 1203).bind fun t156 => (some (t156 == 1203))) else (some false))) else (some false))) else (some false))) else (some false))) else (some false))) else (some false))) else (some false))) else (some false))) else (some false))) else (some false))) else (some false))) else (some false))) else (some false))
set_option maxHeartbeats 8000000 in
set_option maxRecDepth 100000 in
theorem stencillaw0_errors4.calls  (r : Bool) (w : World) (h : stencillaw0_errors4.f  = some r) :
    Calls Try.prog 11 #[] w fun e w' => e = .returned (.bool r) ∧ Drawn0 w w' := by
  have H : ((stencillaw0_Num.f 1003).bind fun t143 => (if t143 = 1003 then ((stencillaw0_Num.f 1100).bind fun t144 => (if t144 = 1100 then ((stencillaw0_Num.f 1101).bind fun t145 => (if t145 = 1101 then ((stencillaw0_Num.f 1102).bind fun t146 => (if t146 = 1102 then ((stencillaw0_Num.f 1103).bind fun t147 => (if t147 = 1103 then ((stencillaw0_Num.f 1104).bind fun t148 => (if t148 = 1104 then ((stencillaw0_Num.f 1105).bind fun t149 => (if t149 = 1105 then ((stencillaw0_Num.f 1106).bind fun t150 => (if t150 = 1106 then ((stencillaw0_Num.f 1107).bind fun t151 => (if t151 = 1107 then ((stencillaw0_Num.f 1108).bind fun t152 => (if t152 = 1108 then ((stencillaw0_Num.f 1200).bind fun t153 => (if t153 = 1200 then ((stencillaw0_Num.f 1201).bind fun t154 => (if t154 = 1201 then ((stencillaw0_Num.f 1202).bind fun t155 => (if t155 = 1202 then ((stencillaw0_Num.f 1203).bind fun t156 => (some (t156 == 1203))) else (some false))) else (some false))) else (some false))) else (some false))) else (some false))) else (some false))) else (some false))) else (some false))) else (some false))) else (some false))) else (some false))) else (some false))) else (some false))) = some r := h
  clear h
  replace H := Option.bind_eq_some_iff.mp H
  obtain ⟨t143, A10, H⟩ := H
  replace H : (if t143 = 1003 then ((stencillaw0_Num.f 1100).bind fun t144 => (if t144 = 1100 then ((stencillaw0_Num.f 1101).bind fun t145 => (if t145 = 1101 then ((stencillaw0_Num.f 1102).bind fun t146 => (if t146 = 1102 then ((stencillaw0_Num.f 1103).bind fun t147 => (if t147 = 1103 then ((stencillaw0_Num.f 1104).bind fun t148 => (if t148 = 1104 then ((stencillaw0_Num.f 1105).bind fun t149 => (if t149 = 1105 then ((stencillaw0_Num.f 1106).bind fun t150 => (if t150 = 1106 then ((stencillaw0_Num.f 1107).bind fun t151 => (if t151 = 1107 then ((stencillaw0_Num.f 1108).bind fun t152 => (if t152 = 1108 then ((stencillaw0_Num.f 1200).bind fun t153 => (if t153 = 1200 then ((stencillaw0_Num.f 1201).bind fun t154 => (if t154 = 1201 then ((stencillaw0_Num.f 1202).bind fun t155 => (if t155 = 1202 then ((stencillaw0_Num.f 1203).bind fun t156 => (some (t156 == 1203))) else (some false))) else (some false))) else (some false))) else (some false))) else (some false))) else (some false))) else (some false))) else (some false))) else (some false))) else (some false))) else (some false))) else (some false))) else (some false)) = some r := H
  have A1 := Aside0.mk A10
  clear A10
  by_cases c2 : t143 = 1003
  · rw [if_pos c2] at H
    have c2b0 : (t143 == 1003) = true := beq_iff_eq.mpr c2
    have c2b1 : (t143 != 1003) = false := bne_eq_false_iff_eq.mpr c2
    clear c2
    replace H := Option.bind_eq_some_iff.mp H
    obtain ⟨t144, A30, H⟩ := H
    replace H : (if t144 = 1100 then ((stencillaw0_Num.f 1101).bind fun t145 => (if t145 = 1101 then ((stencillaw0_Num.f 1102).bind fun t146 => (if t146 = 1102 then ((stencillaw0_Num.f 1103).bind fun t147 => (if t147 = 1103 then ((stencillaw0_Num.f 1104).bind fun t148 => (if t148 = 1104 then ((stencillaw0_Num.f 1105).bind fun t149 => (if t149 = 1105 then ((stencillaw0_Num.f 1106).bind fun t150 => (if t150 = 1106 then ((stencillaw0_Num.f 1107).bind fun t151 => (if t151 = 1107 then ((stencillaw0_Num.f 1108).bind fun t152 => (if t152 = 1108 then ((stencillaw0_Num.f 1200).bind fun t153 => (if t153 = 1200 then ((stencillaw0_Num.f 1201).bind fun t154 => (if t154 = 1201 then ((stencillaw0_Num.f 1202).bind fun t155 => (if t155 = 1202 then ((stencillaw0_Num.f 1203).bind fun t156 => (some (t156 == 1203))) else (some false))) else (some false))) else (some false))) else (some false))) else (some false))) else (some false))) else (some false))) else (some false))) else (some false))) else (some false))) else (some false))) else (some false)) = some r := H
    have A3 := Aside0.mk A30
    clear A30
    by_cases c4 : t144 = 1100
    · rw [if_pos c4] at H
      have c4b0 : (t144 == 1100) = true := beq_iff_eq.mpr c4
      have c4b1 : (t144 != 1100) = false := bne_eq_false_iff_eq.mpr c4
      clear c4
      replace H := Option.bind_eq_some_iff.mp H
      obtain ⟨t145, A50, H⟩ := H
      replace H : (if t145 = 1101 then ((stencillaw0_Num.f 1102).bind fun t146 => (if t146 = 1102 then ((stencillaw0_Num.f 1103).bind fun t147 => (if t147 = 1103 then ((stencillaw0_Num.f 1104).bind fun t148 => (if t148 = 1104 then ((stencillaw0_Num.f 1105).bind fun t149 => (if t149 = 1105 then ((stencillaw0_Num.f 1106).bind fun t150 => (if t150 = 1106 then ((stencillaw0_Num.f 1107).bind fun t151 => (if t151 = 1107 then ((stencillaw0_Num.f 1108).bind fun t152 => (if t152 = 1108 then ((stencillaw0_Num.f 1200).bind fun t153 => (if t153 = 1200 then ((stencillaw0_Num.f 1201).bind fun t154 => (if t154 = 1201 then ((stencillaw0_Num.f 1202).bind fun t155 => (if t155 = 1202 then ((stencillaw0_Num.f 1203).bind fun t156 => (some (t156 == 1203))) else (some false))) else (some false))) else (some false))) else (some false))) else (some false))) else (some false))) else (some false))) else (some false))) else (some false))) else (some false))) else (some false)) = some r := H
      have A5 := Aside0.mk A50
      clear A50
      by_cases c6 : t145 = 1101
      · rw [if_pos c6] at H
        have c6b0 : (t145 == 1101) = true := beq_iff_eq.mpr c6
        have c6b1 : (t145 != 1101) = false := bne_eq_false_iff_eq.mpr c6
        clear c6
        replace H := Option.bind_eq_some_iff.mp H
        obtain ⟨t146, A70, H⟩ := H
        replace H : (if t146 = 1102 then ((stencillaw0_Num.f 1103).bind fun t147 => (if t147 = 1103 then ((stencillaw0_Num.f 1104).bind fun t148 => (if t148 = 1104 then ((stencillaw0_Num.f 1105).bind fun t149 => (if t149 = 1105 then ((stencillaw0_Num.f 1106).bind fun t150 => (if t150 = 1106 then ((stencillaw0_Num.f 1107).bind fun t151 => (if t151 = 1107 then ((stencillaw0_Num.f 1108).bind fun t152 => (if t152 = 1108 then ((stencillaw0_Num.f 1200).bind fun t153 => (if t153 = 1200 then ((stencillaw0_Num.f 1201).bind fun t154 => (if t154 = 1201 then ((stencillaw0_Num.f 1202).bind fun t155 => (if t155 = 1202 then ((stencillaw0_Num.f 1203).bind fun t156 => (some (t156 == 1203))) else (some false))) else (some false))) else (some false))) else (some false))) else (some false))) else (some false))) else (some false))) else (some false))) else (some false))) else (some false)) = some r := H
        have A7 := Aside0.mk A70
        clear A70
        by_cases c8 : t146 = 1102
        · rw [if_pos c8] at H
          have c8b0 : (t146 == 1102) = true := beq_iff_eq.mpr c8
          have c8b1 : (t146 != 1102) = false := bne_eq_false_iff_eq.mpr c8
          clear c8
          replace H := Option.bind_eq_some_iff.mp H
          obtain ⟨t147, A90, H⟩ := H
          replace H : (if t147 = 1103 then ((stencillaw0_Num.f 1104).bind fun t148 => (if t148 = 1104 then ((stencillaw0_Num.f 1105).bind fun t149 => (if t149 = 1105 then ((stencillaw0_Num.f 1106).bind fun t150 => (if t150 = 1106 then ((stencillaw0_Num.f 1107).bind fun t151 => (if t151 = 1107 then ((stencillaw0_Num.f 1108).bind fun t152 => (if t152 = 1108 then ((stencillaw0_Num.f 1200).bind fun t153 => (if t153 = 1200 then ((stencillaw0_Num.f 1201).bind fun t154 => (if t154 = 1201 then ((stencillaw0_Num.f 1202).bind fun t155 => (if t155 = 1202 then ((stencillaw0_Num.f 1203).bind fun t156 => (some (t156 == 1203))) else (some false))) else (some false))) else (some false))) else (some false))) else (some false))) else (some false))) else (some false))) else (some false))) else (some false)) = some r := H
          have A9 := Aside0.mk A90
          clear A90
          by_cases c10 : t147 = 1103
          · rw [if_pos c10] at H
            have c10b0 : (t147 == 1103) = true := beq_iff_eq.mpr c10
            have c10b1 : (t147 != 1103) = false := bne_eq_false_iff_eq.mpr c10
            clear c10
            replace H := Option.bind_eq_some_iff.mp H
            obtain ⟨t148, A110, H⟩ := H
            replace H : (if t148 = 1104 then ((stencillaw0_Num.f 1105).bind fun t149 => (if t149 = 1105 then ((stencillaw0_Num.f 1106).bind fun t150 => (if t150 = 1106 then ((stencillaw0_Num.f 1107).bind fun t151 => (if t151 = 1107 then ((stencillaw0_Num.f 1108).bind fun t152 => (if t152 = 1108 then ((stencillaw0_Num.f 1200).bind fun t153 => (if t153 = 1200 then ((stencillaw0_Num.f 1201).bind fun t154 => (if t154 = 1201 then ((stencillaw0_Num.f 1202).bind fun t155 => (if t155 = 1202 then ((stencillaw0_Num.f 1203).bind fun t156 => (some (t156 == 1203))) else (some false))) else (some false))) else (some false))) else (some false))) else (some false))) else (some false))) else (some false))) else (some false)) = some r := H
            have A11 := Aside0.mk A110
            clear A110
            by_cases c12 : t148 = 1104
            · rw [if_pos c12] at H
              have c12b0 : (t148 == 1104) = true := beq_iff_eq.mpr c12
              have c12b1 : (t148 != 1104) = false := bne_eq_false_iff_eq.mpr c12
              clear c12
              replace H := Option.bind_eq_some_iff.mp H
              obtain ⟨t149, A130, H⟩ := H
              replace H : (if t149 = 1105 then ((stencillaw0_Num.f 1106).bind fun t150 => (if t150 = 1106 then ((stencillaw0_Num.f 1107).bind fun t151 => (if t151 = 1107 then ((stencillaw0_Num.f 1108).bind fun t152 => (if t152 = 1108 then ((stencillaw0_Num.f 1200).bind fun t153 => (if t153 = 1200 then ((stencillaw0_Num.f 1201).bind fun t154 => (if t154 = 1201 then ((stencillaw0_Num.f 1202).bind fun t155 => (if t155 = 1202 then ((stencillaw0_Num.f 1203).bind fun t156 => (some (t156 == 1203))) else (some false))) else (some false))) else (some false))) else (some false))) else (some false))) else (some false))) else (some false)) = some r := H
              have A13 := Aside0.mk A130
              clear A130
              by_cases c14 : t149 = 1105
              · rw [if_pos c14] at H
                have c14b0 : (t149 == 1105) = true := beq_iff_eq.mpr c14
                have c14b1 : (t149 != 1105) = false := bne_eq_false_iff_eq.mpr c14
                clear c14
                replace H := Option.bind_eq_some_iff.mp H
                obtain ⟨t150, A150, H⟩ := H
                replace H : (if t150 = 1106 then ((stencillaw0_Num.f 1107).bind fun t151 => (if t151 = 1107 then ((stencillaw0_Num.f 1108).bind fun t152 => (if t152 = 1108 then ((stencillaw0_Num.f 1200).bind fun t153 => (if t153 = 1200 then ((stencillaw0_Num.f 1201).bind fun t154 => (if t154 = 1201 then ((stencillaw0_Num.f 1202).bind fun t155 => (if t155 = 1202 then ((stencillaw0_Num.f 1203).bind fun t156 => (some (t156 == 1203))) else (some false))) else (some false))) else (some false))) else (some false))) else (some false))) else (some false)) = some r := H
                have A15 := Aside0.mk A150
                clear A150
                by_cases c16 : t150 = 1106
                · rw [if_pos c16] at H
                  have c16b0 : (t150 == 1106) = true := beq_iff_eq.mpr c16
                  have c16b1 : (t150 != 1106) = false := bne_eq_false_iff_eq.mpr c16
                  clear c16
                  replace H := Option.bind_eq_some_iff.mp H
                  obtain ⟨t151, A170, H⟩ := H
                  replace H : (if t151 = 1107 then ((stencillaw0_Num.f 1108).bind fun t152 => (if t152 = 1108 then ((stencillaw0_Num.f 1200).bind fun t153 => (if t153 = 1200 then ((stencillaw0_Num.f 1201).bind fun t154 => (if t154 = 1201 then ((stencillaw0_Num.f 1202).bind fun t155 => (if t155 = 1202 then ((stencillaw0_Num.f 1203).bind fun t156 => (some (t156 == 1203))) else (some false))) else (some false))) else (some false))) else (some false))) else (some false)) = some r := H
                  have A17 := Aside0.mk A170
                  clear A170
                  by_cases c18 : t151 = 1107
                  · rw [if_pos c18] at H
                    have c18b0 : (t151 == 1107) = true := beq_iff_eq.mpr c18
                    have c18b1 : (t151 != 1107) = false := bne_eq_false_iff_eq.mpr c18
                    clear c18
                    replace H := Option.bind_eq_some_iff.mp H
                    obtain ⟨t152, A190, H⟩ := H
                    replace H : (if t152 = 1108 then ((stencillaw0_Num.f 1200).bind fun t153 => (if t153 = 1200 then ((stencillaw0_Num.f 1201).bind fun t154 => (if t154 = 1201 then ((stencillaw0_Num.f 1202).bind fun t155 => (if t155 = 1202 then ((stencillaw0_Num.f 1203).bind fun t156 => (some (t156 == 1203))) else (some false))) else (some false))) else (some false))) else (some false)) = some r := H
                    have A19 := Aside0.mk A190
                    clear A190
                    by_cases c20 : t152 = 1108
                    · rw [if_pos c20] at H
                      have c20b0 : (t152 == 1108) = true := beq_iff_eq.mpr c20
                      have c20b1 : (t152 != 1108) = false := bne_eq_false_iff_eq.mpr c20
                      clear c20
                      replace H := Option.bind_eq_some_iff.mp H
                      obtain ⟨t153, A210, H⟩ := H
                      replace H : (if t153 = 1200 then ((stencillaw0_Num.f 1201).bind fun t154 => (if t154 = 1201 then ((stencillaw0_Num.f 1202).bind fun t155 => (if t155 = 1202 then ((stencillaw0_Num.f 1203).bind fun t156 => (some (t156 == 1203))) else (some false))) else (some false))) else (some false)) = some r := H
                      have A21 := Aside0.mk A210
                      clear A210
                      by_cases c22 : t153 = 1200
                      · rw [if_pos c22] at H
                        have c22b0 : (t153 == 1200) = true := beq_iff_eq.mpr c22
                        have c22b1 : (t153 != 1200) = false := bne_eq_false_iff_eq.mpr c22
                        clear c22
                        replace H := Option.bind_eq_some_iff.mp H
                        obtain ⟨t154, A230, H⟩ := H
                        replace H : (if t154 = 1201 then ((stencillaw0_Num.f 1202).bind fun t155 => (if t155 = 1202 then ((stencillaw0_Num.f 1203).bind fun t156 => (some (t156 == 1203))) else (some false))) else (some false)) = some r := H
                        have A23 := Aside0.mk A230
                        clear A230
                        by_cases c24 : t154 = 1201
                        · rw [if_pos c24] at H
                          have c24b0 : (t154 == 1201) = true := beq_iff_eq.mpr c24
                          have c24b1 : (t154 != 1201) = false := bne_eq_false_iff_eq.mpr c24
                          clear c24
                          replace H := Option.bind_eq_some_iff.mp H
                          obtain ⟨t155, A250, H⟩ := H
                          replace H : (if t155 = 1202 then ((stencillaw0_Num.f 1203).bind fun t156 => (some (t156 == 1203))) else (some false)) = some r := H
                          have A25 := Aside0.mk A250
                          clear A250
                          by_cases c26 : t155 = 1202
                          · rw [if_pos c26] at H
                            have c26b0 : (t155 == 1202) = true := beq_iff_eq.mpr c26
                            have c26b1 : (t155 != 1202) = false := bne_eq_false_iff_eq.mpr c26
                            clear c26
                            replace H := Option.bind_eq_some_iff.mp H
                            obtain ⟨t156, A270, H⟩ := H
                            replace H : (some (t156 == 1203)) = some r := H
                            have A27 := Aside0.mk A270
                            clear A270
                            obtain rfl := Option.some.inj H
                            go_enter Try.func11, Try.ntmps11
                            go_wp2_with (first | ((with_reducible refine gate_callee (f := 35) rfl ?_); refine goesL_ (some 1) rfl rfl Try.func35 (by kernel_rfl) rfl #[.int .i64 1003] rfl (by (try simp only [List.map_toArray, List.map_cons, List.map_nil]); first | done | rfl | (simp only [List.length_drop, List.length_take]; rfl)) ?_; (with_reducible refine (stencillaw0_Num.calls 1003 t143 _ A1.out).mono ?_); rintro e w' ⟨rfl, ⟨nd, rfl⟩⟩; refine ⟨_, rfl, ?_⟩) | (go_at_call 35; (with_reducible refine (stencillaw0_Num.calls 1100 t144 _ A3.out).mono ?_); rintro e w' ⟨rfl, ⟨nd, rfl⟩⟩) | (go_at_call 35; (with_reducible refine (stencillaw0_Num.calls 1101 t145 _ A5.out).mono ?_); rintro e w' ⟨rfl, ⟨nd, rfl⟩⟩) | (go_at_call 35; (with_reducible refine (stencillaw0_Num.calls 1102 t146 _ A7.out).mono ?_); rintro e w' ⟨rfl, ⟨nd, rfl⟩⟩) | (go_at_call 35; (with_reducible refine (stencillaw0_Num.calls 1103 t147 _ A9.out).mono ?_); rintro e w' ⟨rfl, ⟨nd, rfl⟩⟩) | (go_at_call 35; (with_reducible refine (stencillaw0_Num.calls 1104 t148 _ A11.out).mono ?_); rintro e w' ⟨rfl, ⟨nd, rfl⟩⟩) | (go_at_call 35; (with_reducible refine (stencillaw0_Num.calls 1105 t149 _ A13.out).mono ?_); rintro e w' ⟨rfl, ⟨nd, rfl⟩⟩) | (go_at_call 35; (with_reducible refine (stencillaw0_Num.calls 1106 t150 _ A15.out).mono ?_); rintro e w' ⟨rfl, ⟨nd, rfl⟩⟩) | (go_at_call 35; (with_reducible refine (stencillaw0_Num.calls 1107 t151 _ A17.out).mono ?_); rintro e w' ⟨rfl, ⟨nd, rfl⟩⟩) | (go_at_call 35; (with_reducible refine (stencillaw0_Num.calls 1108 t152 _ A19.out).mono ?_); rintro e w' ⟨rfl, ⟨nd, rfl⟩⟩) | (go_at_call 35; (with_reducible refine (stencillaw0_Num.calls 1200 t153 _ A21.out).mono ?_); rintro e w' ⟨rfl, ⟨nd, rfl⟩⟩) | (go_at_call 35; (with_reducible refine (stencillaw0_Num.calls 1201 t154 _ A23.out).mono ?_); rintro e w' ⟨rfl, ⟨nd, rfl⟩⟩) | (go_at_call 35; (with_reducible refine (stencillaw0_Num.calls 1202 t155 _ A25.out).mono ?_); rintro e w' ⟨rfl, ⟨nd, rfl⟩⟩) | (go_at_call 35; (with_reducible refine (stencillaw0_Num.calls 1203 t156 _ A27.out).mono ?_); rintro e w' ⟨rfl, ⟨nd, rfl⟩⟩))
                            go_ret
                            exact ⟨by first | rfl | (simp; done) | (simp [*]; done), by repeat (first | exact Drawn0.refl _ | apply Drawn0.step)⟩
                          · rw [if_neg c26] at H
                            have c26b0 : (t155 == 1202) = false := beq_eq_false_iff_ne.mpr c26
                            have c26b1 : (t155 != 1202) = true := bne_iff_ne.mpr c26
                            obtain rfl := Option.some.inj H
                            go_enter Try.func11, Try.ntmps11
                            go_wp2_with (first | ((with_reducible refine gate_callee (f := 35) rfl ?_); refine goesL_ (some 1) rfl rfl Try.func35 (by kernel_rfl) rfl #[.int .i64 1003] rfl (by (try simp only [List.map_toArray, List.map_cons, List.map_nil]); first | done | rfl | (simp only [List.length_drop, List.length_take]; rfl)) ?_; (with_reducible refine (stencillaw0_Num.calls 1003 t143 _ A1.out).mono ?_); rintro e w' ⟨rfl, ⟨nd, rfl⟩⟩; refine ⟨_, rfl, ?_⟩) | (go_at_call 35; (with_reducible refine (stencillaw0_Num.calls 1100 t144 _ A3.out).mono ?_); rintro e w' ⟨rfl, ⟨nd, rfl⟩⟩) | (go_at_call 35; (with_reducible refine (stencillaw0_Num.calls 1101 t145 _ A5.out).mono ?_); rintro e w' ⟨rfl, ⟨nd, rfl⟩⟩) | (go_at_call 35; (with_reducible refine (stencillaw0_Num.calls 1102 t146 _ A7.out).mono ?_); rintro e w' ⟨rfl, ⟨nd, rfl⟩⟩) | (go_at_call 35; (with_reducible refine (stencillaw0_Num.calls 1103 t147 _ A9.out).mono ?_); rintro e w' ⟨rfl, ⟨nd, rfl⟩⟩) | (go_at_call 35; (with_reducible refine (stencillaw0_Num.calls 1104 t148 _ A11.out).mono ?_); rintro e w' ⟨rfl, ⟨nd, rfl⟩⟩) | (go_at_call 35; (with_reducible refine (stencillaw0_Num.calls 1105 t149 _ A13.out).mono ?_); rintro e w' ⟨rfl, ⟨nd, rfl⟩⟩) | (go_at_call 35; (with_reducible refine (stencillaw0_Num.calls 1106 t150 _ A15.out).mono ?_); rintro e w' ⟨rfl, ⟨nd, rfl⟩⟩) | (go_at_call 35; (with_reducible refine (stencillaw0_Num.calls 1107 t151 _ A17.out).mono ?_); rintro e w' ⟨rfl, ⟨nd, rfl⟩⟩) | (go_at_call 35; (with_reducible refine (stencillaw0_Num.calls 1108 t152 _ A19.out).mono ?_); rintro e w' ⟨rfl, ⟨nd, rfl⟩⟩) | (go_at_call 35; (with_reducible refine (stencillaw0_Num.calls 1200 t153 _ A21.out).mono ?_); rintro e w' ⟨rfl, ⟨nd, rfl⟩⟩) | (go_at_call 35; (with_reducible refine (stencillaw0_Num.calls 1201 t154 _ A23.out).mono ?_); rintro e w' ⟨rfl, ⟨nd, rfl⟩⟩) | (go_at_call 35; (with_reducible refine (stencillaw0_Num.calls 1202 t155 _ A25.out).mono ?_); rintro e w' ⟨rfl, ⟨nd, rfl⟩⟩))
                            go_ret
                            exact ⟨by first | rfl | (simp; done) | (simp [*]; done), by repeat (first | exact Drawn0.refl _ | apply Drawn0.step)⟩
                        · rw [if_neg c24] at H
                          have c24b0 : (t154 == 1201) = false := beq_eq_false_iff_ne.mpr c24
                          have c24b1 : (t154 != 1201) = true := bne_iff_ne.mpr c24
                          obtain rfl := Option.some.inj H
                          go_enter Try.func11, Try.ntmps11
                          go_wp2_with (first | ((with_reducible refine gate_callee (f := 35) rfl ?_); refine goesL_ (some 1) rfl rfl Try.func35 (by kernel_rfl) rfl #[.int .i64 1003] rfl (by (try simp only [List.map_toArray, List.map_cons, List.map_nil]); first | done | rfl | (simp only [List.length_drop, List.length_take]; rfl)) ?_; (with_reducible refine (stencillaw0_Num.calls 1003 t143 _ A1.out).mono ?_); rintro e w' ⟨rfl, ⟨nd, rfl⟩⟩; refine ⟨_, rfl, ?_⟩) | (go_at_call 35; (with_reducible refine (stencillaw0_Num.calls 1100 t144 _ A3.out).mono ?_); rintro e w' ⟨rfl, ⟨nd, rfl⟩⟩) | (go_at_call 35; (with_reducible refine (stencillaw0_Num.calls 1101 t145 _ A5.out).mono ?_); rintro e w' ⟨rfl, ⟨nd, rfl⟩⟩) | (go_at_call 35; (with_reducible refine (stencillaw0_Num.calls 1102 t146 _ A7.out).mono ?_); rintro e w' ⟨rfl, ⟨nd, rfl⟩⟩) | (go_at_call 35; (with_reducible refine (stencillaw0_Num.calls 1103 t147 _ A9.out).mono ?_); rintro e w' ⟨rfl, ⟨nd, rfl⟩⟩) | (go_at_call 35; (with_reducible refine (stencillaw0_Num.calls 1104 t148 _ A11.out).mono ?_); rintro e w' ⟨rfl, ⟨nd, rfl⟩⟩) | (go_at_call 35; (with_reducible refine (stencillaw0_Num.calls 1105 t149 _ A13.out).mono ?_); rintro e w' ⟨rfl, ⟨nd, rfl⟩⟩) | (go_at_call 35; (with_reducible refine (stencillaw0_Num.calls 1106 t150 _ A15.out).mono ?_); rintro e w' ⟨rfl, ⟨nd, rfl⟩⟩) | (go_at_call 35; (with_reducible refine (stencillaw0_Num.calls 1107 t151 _ A17.out).mono ?_); rintro e w' ⟨rfl, ⟨nd, rfl⟩⟩) | (go_at_call 35; (with_reducible refine (stencillaw0_Num.calls 1108 t152 _ A19.out).mono ?_); rintro e w' ⟨rfl, ⟨nd, rfl⟩⟩) | (go_at_call 35; (with_reducible refine (stencillaw0_Num.calls 1200 t153 _ A21.out).mono ?_); rintro e w' ⟨rfl, ⟨nd, rfl⟩⟩) | (go_at_call 35; (with_reducible refine (stencillaw0_Num.calls 1201 t154 _ A23.out).mono ?_); rintro e w' ⟨rfl, ⟨nd, rfl⟩⟩))
                          go_ret
                          exact ⟨by first | rfl | (simp; done) | (simp [*]; done), by repeat (first | exact Drawn0.refl _ | apply Drawn0.step)⟩
                      · rw [if_neg c22] at H
                        have c22b0 : (t153 == 1200) = false := beq_eq_false_iff_ne.mpr c22
                        have c22b1 : (t153 != 1200) = true := bne_iff_ne.mpr c22
                        obtain rfl := Option.some.inj H
                        go_enter Try.func11, Try.ntmps11
                        go_wp2_with (first | ((with_reducible refine gate_callee (f := 35) rfl ?_); refine goesL_ (some 1) rfl rfl Try.func35 (by kernel_rfl) rfl #[.int .i64 1003] rfl (by (try simp only [List.map_toArray, List.map_cons, List.map_nil]); first | done | rfl | (simp only [List.length_drop, List.length_take]; rfl)) ?_; (with_reducible refine (stencillaw0_Num.calls 1003 t143 _ A1.out).mono ?_); rintro e w' ⟨rfl, ⟨nd, rfl⟩⟩; refine ⟨_, rfl, ?_⟩) | (go_at_call 35; (with_reducible refine (stencillaw0_Num.calls 1100 t144 _ A3.out).mono ?_); rintro e w' ⟨rfl, ⟨nd, rfl⟩⟩) | (go_at_call 35; (with_reducible refine (stencillaw0_Num.calls 1101 t145 _ A5.out).mono ?_); rintro e w' ⟨rfl, ⟨nd, rfl⟩⟩) | (go_at_call 35; (with_reducible refine (stencillaw0_Num.calls 1102 t146 _ A7.out).mono ?_); rintro e w' ⟨rfl, ⟨nd, rfl⟩⟩) | (go_at_call 35; (with_reducible refine (stencillaw0_Num.calls 1103 t147 _ A9.out).mono ?_); rintro e w' ⟨rfl, ⟨nd, rfl⟩⟩) | (go_at_call 35; (with_reducible refine (stencillaw0_Num.calls 1104 t148 _ A11.out).mono ?_); rintro e w' ⟨rfl, ⟨nd, rfl⟩⟩) | (go_at_call 35; (with_reducible refine (stencillaw0_Num.calls 1105 t149 _ A13.out).mono ?_); rintro e w' ⟨rfl, ⟨nd, rfl⟩⟩) | (go_at_call 35; (with_reducible refine (stencillaw0_Num.calls 1106 t150 _ A15.out).mono ?_); rintro e w' ⟨rfl, ⟨nd, rfl⟩⟩) | (go_at_call 35; (with_reducible refine (stencillaw0_Num.calls 1107 t151 _ A17.out).mono ?_); rintro e w' ⟨rfl, ⟨nd, rfl⟩⟩) | (go_at_call 35; (with_reducible refine (stencillaw0_Num.calls 1108 t152 _ A19.out).mono ?_); rintro e w' ⟨rfl, ⟨nd, rfl⟩⟩) | (go_at_call 35; (with_reducible refine (stencillaw0_Num.calls 1200 t153 _ A21.out).mono ?_); rintro e w' ⟨rfl, ⟨nd, rfl⟩⟩))
                        go_ret
                        exact ⟨by first | rfl | (simp; done) | (simp [*]; done), by repeat (first | exact Drawn0.refl _ | apply Drawn0.step)⟩
                    · rw [if_neg c20] at H
                      have c20b0 : (t152 == 1108) = false := beq_eq_false_iff_ne.mpr c20
                      have c20b1 : (t152 != 1108) = true := bne_iff_ne.mpr c20
                      obtain rfl := Option.some.inj H
                      go_enter Try.func11, Try.ntmps11
                      go_wp2_with (first | ((with_reducible refine gate_callee (f := 35) rfl ?_); refine goesL_ (some 1) rfl rfl Try.func35 (by kernel_rfl) rfl #[.int .i64 1003] rfl (by (try simp only [List.map_toArray, List.map_cons, List.map_nil]); first | done | rfl | (simp only [List.length_drop, List.length_take]; rfl)) ?_; (with_reducible refine (stencillaw0_Num.calls 1003 t143 _ A1.out).mono ?_); rintro e w' ⟨rfl, ⟨nd, rfl⟩⟩; refine ⟨_, rfl, ?_⟩) | (go_at_call 35; (with_reducible refine (stencillaw0_Num.calls 1100 t144 _ A3.out).mono ?_); rintro e w' ⟨rfl, ⟨nd, rfl⟩⟩) | (go_at_call 35; (with_reducible refine (stencillaw0_Num.calls 1101 t145 _ A5.out).mono ?_); rintro e w' ⟨rfl, ⟨nd, rfl⟩⟩) | (go_at_call 35; (with_reducible refine (stencillaw0_Num.calls 1102 t146 _ A7.out).mono ?_); rintro e w' ⟨rfl, ⟨nd, rfl⟩⟩) | (go_at_call 35; (with_reducible refine (stencillaw0_Num.calls 1103 t147 _ A9.out).mono ?_); rintro e w' ⟨rfl, ⟨nd, rfl⟩⟩) | (go_at_call 35; (with_reducible refine (stencillaw0_Num.calls 1104 t148 _ A11.out).mono ?_); rintro e w' ⟨rfl, ⟨nd, rfl⟩⟩) | (go_at_call 35; (with_reducible refine (stencillaw0_Num.calls 1105 t149 _ A13.out).mono ?_); rintro e w' ⟨rfl, ⟨nd, rfl⟩⟩) | (go_at_call 35; (with_reducible refine (stencillaw0_Num.calls 1106 t150 _ A15.out).mono ?_); rintro e w' ⟨rfl, ⟨nd, rfl⟩⟩) | (go_at_call 35; (with_reducible refine (stencillaw0_Num.calls 1107 t151 _ A17.out).mono ?_); rintro e w' ⟨rfl, ⟨nd, rfl⟩⟩) | (go_at_call 35; (with_reducible refine (stencillaw0_Num.calls 1108 t152 _ A19.out).mono ?_); rintro e w' ⟨rfl, ⟨nd, rfl⟩⟩))
                      go_ret
                      exact ⟨by first | rfl | (simp; done) | (simp [*]; done), by repeat (first | exact Drawn0.refl _ | apply Drawn0.step)⟩
                  · rw [if_neg c18] at H
                    have c18b0 : (t151 == 1107) = false := beq_eq_false_iff_ne.mpr c18
                    have c18b1 : (t151 != 1107) = true := bne_iff_ne.mpr c18
                    obtain rfl := Option.some.inj H
                    go_enter Try.func11, Try.ntmps11
                    go_wp2_with (first | ((with_reducible refine gate_callee (f := 35) rfl ?_); refine goesL_ (some 1) rfl rfl Try.func35 (by kernel_rfl) rfl #[.int .i64 1003] rfl (by (try simp only [List.map_toArray, List.map_cons, List.map_nil]); first | done | rfl | (simp only [List.length_drop, List.length_take]; rfl)) ?_; (with_reducible refine (stencillaw0_Num.calls 1003 t143 _ A1.out).mono ?_); rintro e w' ⟨rfl, ⟨nd, rfl⟩⟩; refine ⟨_, rfl, ?_⟩) | (go_at_call 35; (with_reducible refine (stencillaw0_Num.calls 1100 t144 _ A3.out).mono ?_); rintro e w' ⟨rfl, ⟨nd, rfl⟩⟩) | (go_at_call 35; (with_reducible refine (stencillaw0_Num.calls 1101 t145 _ A5.out).mono ?_); rintro e w' ⟨rfl, ⟨nd, rfl⟩⟩) | (go_at_call 35; (with_reducible refine (stencillaw0_Num.calls 1102 t146 _ A7.out).mono ?_); rintro e w' ⟨rfl, ⟨nd, rfl⟩⟩) | (go_at_call 35; (with_reducible refine (stencillaw0_Num.calls 1103 t147 _ A9.out).mono ?_); rintro e w' ⟨rfl, ⟨nd, rfl⟩⟩) | (go_at_call 35; (with_reducible refine (stencillaw0_Num.calls 1104 t148 _ A11.out).mono ?_); rintro e w' ⟨rfl, ⟨nd, rfl⟩⟩) | (go_at_call 35; (with_reducible refine (stencillaw0_Num.calls 1105 t149 _ A13.out).mono ?_); rintro e w' ⟨rfl, ⟨nd, rfl⟩⟩) | (go_at_call 35; (with_reducible refine (stencillaw0_Num.calls 1106 t150 _ A15.out).mono ?_); rintro e w' ⟨rfl, ⟨nd, rfl⟩⟩) | (go_at_call 35; (with_reducible refine (stencillaw0_Num.calls 1107 t151 _ A17.out).mono ?_); rintro e w' ⟨rfl, ⟨nd, rfl⟩⟩))
                    go_ret
                    exact ⟨by first | rfl | (simp; done) | (simp [*]; done), by repeat (first | exact Drawn0.refl _ | apply Drawn0.step)⟩
                · rw [if_neg c16] at H
                  have c16b0 : (t150 == 1106) = false := beq_eq_false_iff_ne.mpr c16
                  have c16b1 : (t150 != 1106) = true := bne_iff_ne.mpr c16
                  obtain rfl := Option.some.inj H
                  go_enter Try.func11, Try.ntmps11
                  go_wp2_with (first | ((with_reducible refine gate_callee (f := 35) rfl ?_); refine goesL_ (some 1) rfl rfl Try.func35 (by kernel_rfl) rfl #[.int .i64 1003] rfl (by (try simp only [List.map_toArray, List.map_cons, List.map_nil]); first | done | rfl | (simp only [List.length_drop, List.length_take]; rfl)) ?_; (with_reducible refine (stencillaw0_Num.calls 1003 t143 _ A1.out).mono ?_); rintro e w' ⟨rfl, ⟨nd, rfl⟩⟩; refine ⟨_, rfl, ?_⟩) | (go_at_call 35; (with_reducible refine (stencillaw0_Num.calls 1100 t144 _ A3.out).mono ?_); rintro e w' ⟨rfl, ⟨nd, rfl⟩⟩) | (go_at_call 35; (with_reducible refine (stencillaw0_Num.calls 1101 t145 _ A5.out).mono ?_); rintro e w' ⟨rfl, ⟨nd, rfl⟩⟩) | (go_at_call 35; (with_reducible refine (stencillaw0_Num.calls 1102 t146 _ A7.out).mono ?_); rintro e w' ⟨rfl, ⟨nd, rfl⟩⟩) | (go_at_call 35; (with_reducible refine (stencillaw0_Num.calls 1103 t147 _ A9.out).mono ?_); rintro e w' ⟨rfl, ⟨nd, rfl⟩⟩) | (go_at_call 35; (with_reducible refine (stencillaw0_Num.calls 1104 t148 _ A11.out).mono ?_); rintro e w' ⟨rfl, ⟨nd, rfl⟩⟩) | (go_at_call 35; (with_reducible refine (stencillaw0_Num.calls 1105 t149 _ A13.out).mono ?_); rintro e w' ⟨rfl, ⟨nd, rfl⟩⟩) | (go_at_call 35; (with_reducible refine (stencillaw0_Num.calls 1106 t150 _ A15.out).mono ?_); rintro e w' ⟨rfl, ⟨nd, rfl⟩⟩))
                  go_ret
                  exact ⟨by first | rfl | (simp; done) | (simp [*]; done), by repeat (first | exact Drawn0.refl _ | apply Drawn0.step)⟩
              · rw [if_neg c14] at H
                have c14b0 : (t149 == 1105) = false := beq_eq_false_iff_ne.mpr c14
                have c14b1 : (t149 != 1105) = true := bne_iff_ne.mpr c14
                obtain rfl := Option.some.inj H
                go_enter Try.func11, Try.ntmps11
                go_wp2_with (first | ((with_reducible refine gate_callee (f := 35) rfl ?_); refine goesL_ (some 1) rfl rfl Try.func35 (by kernel_rfl) rfl #[.int .i64 1003] rfl (by (try simp only [List.map_toArray, List.map_cons, List.map_nil]); first | done | rfl | (simp only [List.length_drop, List.length_take]; rfl)) ?_; (with_reducible refine (stencillaw0_Num.calls 1003 t143 _ A1.out).mono ?_); rintro e w' ⟨rfl, ⟨nd, rfl⟩⟩; refine ⟨_, rfl, ?_⟩) | (go_at_call 35; (with_reducible refine (stencillaw0_Num.calls 1100 t144 _ A3.out).mono ?_); rintro e w' ⟨rfl, ⟨nd, rfl⟩⟩) | (go_at_call 35; (with_reducible refine (stencillaw0_Num.calls 1101 t145 _ A5.out).mono ?_); rintro e w' ⟨rfl, ⟨nd, rfl⟩⟩) | (go_at_call 35; (with_reducible refine (stencillaw0_Num.calls 1102 t146 _ A7.out).mono ?_); rintro e w' ⟨rfl, ⟨nd, rfl⟩⟩) | (go_at_call 35; (with_reducible refine (stencillaw0_Num.calls 1103 t147 _ A9.out).mono ?_); rintro e w' ⟨rfl, ⟨nd, rfl⟩⟩) | (go_at_call 35; (with_reducible refine (stencillaw0_Num.calls 1104 t148 _ A11.out).mono ?_); rintro e w' ⟨rfl, ⟨nd, rfl⟩⟩) | (go_at_call 35; (with_reducible refine (stencillaw0_Num.calls 1105 t149 _ A13.out).mono ?_); rintro e w' ⟨rfl, ⟨nd, rfl⟩⟩))
                go_ret
                exact ⟨by first | rfl | (simp; done) | (simp [*]; done), by repeat (first | exact Drawn0.refl _ | apply Drawn0.step)⟩
            · rw [if_neg c12] at H
              have c12b0 : (t148 == 1104) = false := beq_eq_false_iff_ne.mpr c12
              have c12b1 : (t148 != 1104) = true := bne_iff_ne.mpr c12
              obtain rfl := Option.some.inj H
              go_enter Try.func11, Try.ntmps11
              go_wp2_with (first | ((with_reducible refine gate_callee (f := 35) rfl ?_); refine goesL_ (some 1) rfl rfl Try.func35 (by kernel_rfl) rfl #[.int .i64 1003] rfl (by (try simp only [List.map_toArray, List.map_cons, List.map_nil]); first | done | rfl | (simp only [List.length_drop, List.length_take]; rfl)) ?_; (with_reducible refine (stencillaw0_Num.calls 1003 t143 _ A1.out).mono ?_); rintro e w' ⟨rfl, ⟨nd, rfl⟩⟩; refine ⟨_, rfl, ?_⟩) | (go_at_call 35; (with_reducible refine (stencillaw0_Num.calls 1100 t144 _ A3.out).mono ?_); rintro e w' ⟨rfl, ⟨nd, rfl⟩⟩) | (go_at_call 35; (with_reducible refine (stencillaw0_Num.calls 1101 t145 _ A5.out).mono ?_); rintro e w' ⟨rfl, ⟨nd, rfl⟩⟩) | (go_at_call 35; (with_reducible refine (stencillaw0_Num.calls 1102 t146 _ A7.out).mono ?_); rintro e w' ⟨rfl, ⟨nd, rfl⟩⟩) | (go_at_call 35; (with_reducible refine (stencillaw0_Num.calls 1103 t147 _ A9.out).mono ?_); rintro e w' ⟨rfl, ⟨nd, rfl⟩⟩) | (go_at_call 35; (with_reducible refine (stencillaw0_Num.calls 1104 t148 _ A11.out).mono ?_); rintro e w' ⟨rfl, ⟨nd, rfl⟩⟩))
              go_ret
              exact ⟨by first | rfl | (simp; done) | (simp [*]; done), by repeat (first | exact Drawn0.refl _ | apply Drawn0.step)⟩
          · rw [if_neg c10] at H
            have c10b0 : (t147 == 1103) = false := beq_eq_false_iff_ne.mpr c10
            have c10b1 : (t147 != 1103) = true := bne_iff_ne.mpr c10
            obtain rfl := Option.some.inj H
            go_enter Try.func11, Try.ntmps11
            go_wp2_with (first | ((with_reducible refine gate_callee (f := 35) rfl ?_); refine goesL_ (some 1) rfl rfl Try.func35 (by kernel_rfl) rfl #[.int .i64 1003] rfl (by (try simp only [List.map_toArray, List.map_cons, List.map_nil]); first | done | rfl | (simp only [List.length_drop, List.length_take]; rfl)) ?_; (with_reducible refine (stencillaw0_Num.calls 1003 t143 _ A1.out).mono ?_); rintro e w' ⟨rfl, ⟨nd, rfl⟩⟩; refine ⟨_, rfl, ?_⟩) | (go_at_call 35; (with_reducible refine (stencillaw0_Num.calls 1100 t144 _ A3.out).mono ?_); rintro e w' ⟨rfl, ⟨nd, rfl⟩⟩) | (go_at_call 35; (with_reducible refine (stencillaw0_Num.calls 1101 t145 _ A5.out).mono ?_); rintro e w' ⟨rfl, ⟨nd, rfl⟩⟩) | (go_at_call 35; (with_reducible refine (stencillaw0_Num.calls 1102 t146 _ A7.out).mono ?_); rintro e w' ⟨rfl, ⟨nd, rfl⟩⟩) | (go_at_call 35; (with_reducible refine (stencillaw0_Num.calls 1103 t147 _ A9.out).mono ?_); rintro e w' ⟨rfl, ⟨nd, rfl⟩⟩))
            go_ret
            exact ⟨by first | rfl | (simp; done) | (simp [*]; done), by repeat (first | exact Drawn0.refl _ | apply Drawn0.step)⟩
        · rw [if_neg c8] at H
          have c8b0 : (t146 == 1102) = false := beq_eq_false_iff_ne.mpr c8
          have c8b1 : (t146 != 1102) = true := bne_iff_ne.mpr c8
          obtain rfl := Option.some.inj H
          go_enter Try.func11, Try.ntmps11
          go_wp2_with (first | ((with_reducible refine gate_callee (f := 35) rfl ?_); refine goesL_ (some 1) rfl rfl Try.func35 (by kernel_rfl) rfl #[.int .i64 1003] rfl (by (try simp only [List.map_toArray, List.map_cons, List.map_nil]); first | done | rfl | (simp only [List.length_drop, List.length_take]; rfl)) ?_; (with_reducible refine (stencillaw0_Num.calls 1003 t143 _ A1.out).mono ?_); rintro e w' ⟨rfl, ⟨nd, rfl⟩⟩; refine ⟨_, rfl, ?_⟩) | (go_at_call 35; (with_reducible refine (stencillaw0_Num.calls 1100 t144 _ A3.out).mono ?_); rintro e w' ⟨rfl, ⟨nd, rfl⟩⟩) | (go_at_call 35; (with_reducible refine (stencillaw0_Num.calls 1101 t145 _ A5.out).mono ?_); rintro e w' ⟨rfl, ⟨nd, rfl⟩⟩) | (go_at_call 35; (with_reducible refine (stencillaw0_Num.calls 1102 t146 _ A7.out).mono ?_); rintro e w' ⟨rfl, ⟨nd, rfl⟩⟩))
          go_ret
          exact ⟨by first | rfl | (simp; done) | (simp [*]; done), by repeat (first | exact Drawn0.refl _ | apply Drawn0.step)⟩
      · rw [if_neg c6] at H
        have c6b0 : (t145 == 1101) = false := beq_eq_false_iff_ne.mpr c6
        have c6b1 : (t145 != 1101) = true := bne_iff_ne.mpr c6
        obtain rfl := Option.some.inj H
        go_enter Try.func11, Try.ntmps11
        go_wp2_with (first | ((with_reducible refine gate_callee (f := 35) rfl ?_); refine goesL_ (some 1) rfl rfl Try.func35 (by kernel_rfl) rfl #[.int .i64 1003] rfl (by (try simp only [List.map_toArray, List.map_cons, List.map_nil]); first | done | rfl | (simp only [List.length_drop, List.length_take]; rfl)) ?_; (with_reducible refine (stencillaw0_Num.calls 1003 t143 _ A1.out).mono ?_); rintro e w' ⟨rfl, ⟨nd, rfl⟩⟩; refine ⟨_, rfl, ?_⟩) | (go_at_call 35; (with_reducible refine (stencillaw0_Num.calls 1100 t144 _ A3.out).mono ?_); rintro e w' ⟨rfl, ⟨nd, rfl⟩⟩) | (go_at_call 35; (with_reducible refine (stencillaw0_Num.calls 1101 t145 _ A5.out).mono ?_); rintro e w' ⟨rfl, ⟨nd, rfl⟩⟩))
        go_ret
        exact ⟨by first | rfl | (simp; done) | (simp [*]; done), by repeat (first | exact Drawn0.refl _ | apply Drawn0.step)⟩
    · rw [if_neg c4] at H
      have c4b0 : (t144 == 1100) = false := beq_eq_false_iff_ne.mpr c4
      have c4b1 : (t144 != 1100) = true := bne_iff_ne.mpr c4
      obtain rfl := Option.some.inj H
      go_enter Try.func11, Try.ntmps11
      go_wp2_with (first | ((with_reducible refine gate_callee (f := 35) rfl ?_); refine goesL_ (some 1) rfl rfl Try.func35 (by kernel_rfl) rfl #[.int .i64 1003] rfl (by (try simp only [List.map_toArray, List.map_cons, List.map_nil]); first | done | rfl | (simp only [List.length_drop, List.length_take]; rfl)) ?_; (with_reducible refine (stencillaw0_Num.calls 1003 t143 _ A1.out).mono ?_); rintro e w' ⟨rfl, ⟨nd, rfl⟩⟩; refine ⟨_, rfl, ?_⟩) | (go_at_call 35; (with_reducible refine (stencillaw0_Num.calls 1100 t144 _ A3.out).mono ?_); rintro e w' ⟨rfl, ⟨nd, rfl⟩⟩))
      go_ret
      exact ⟨by first | rfl | (simp; done) | (simp [*]; done), by repeat (first | exact Drawn0.refl _ | apply Drawn0.step)⟩
  · rw [if_neg c2] at H
    have c2b0 : (t143 == 1003) = false := beq_eq_false_iff_ne.mpr c2
    have c2b1 : (t143 != 1003) = true := bne_iff_ne.mpr c2
    obtain rfl := Option.some.inj H
    go_enter Try.func11, Try.ntmps11
    go_wp2_with (first | ((with_reducible refine gate_callee (f := 35) rfl ?_); refine goesL_ (some 1) rfl rfl Try.func35 (by kernel_rfl) rfl #[.int .i64 1003] rfl (by (try simp only [List.map_toArray, List.map_cons, List.map_nil]); first | done | rfl | (simp only [List.length_drop, List.length_take]; rfl)) ?_; (with_reducible refine (stencillaw0_Num.calls 1003 t143 _ A1.out).mono ?_); rintro e w' ⟨rfl, ⟨nd, rfl⟩⟩; refine ⟨_, rfl, ?_⟩))
    go_ret
    exact ⟨by first | rfl | (simp; done) | (simp [*]; done), by repeat (first | exact Drawn0.refl _ | apply Drawn0.step)⟩

/-! ### stencillaw0_errors5: function 12 -/
def stencillaw0_errors5.f  : Option (Bool) := (stencillaw0_Num.f 1204).bind fun t157 => (if t157 = 1204 then ((stencillaw0_Num.f 1205).bind fun t158 => (if t158 = 1205 then ((stencillaw0_Num.f 1300).bind fun t159 => (if t159 = 1300 then ((stencillaw0_Num.f 1301).bind fun t160 => (if t160 = 1301 then ((stencillaw0_Num.f 1302).bind fun t161 => (if t161 = 1302 then ((stencillaw0_Num.f 1303).bind fun t162 => (if t162 = 1303 then ((stencillaw0_Num.f 1304).bind fun t163 => (if t163 = 1304 then ((stencillaw0_Num.f 1400).bind fun t164 => (if t164 = 1400 then ((stencillaw0_Num.f 1401).bind fun t165 => (if t165 = 1401 then ((stencillaw0_Num.f 1402).bind fun t166 => (if t166 = 1402 then ((stencillaw0_Num.f 1403).bind fun t167 => (if t167 = 1403 then ((stencillaw0_Num.f 1404).bind fun t168 => (if t168 = 1404 then ((stencillaw0_Num.f 1405).bind fun t169 => (if t169 = 1405 then ((stencillaw0_Num.f 1406).bind fun t170 => (some (t170 == 1406))) else (some false))) else (some false))) else (some false))) else (some false))) else (some false))) else (some false))) else (some false))) else (some false))) else (some false))) else (some false))) else (some false))) else (some false))) else (some false))
set_option maxHeartbeats 8000000 in
set_option maxRecDepth 100000 in
theorem stencillaw0_errors5.calls  (r : Bool) (w : World) (h : stencillaw0_errors5.f  = some r) :
    Calls Try.prog 12 #[] w fun e w' => e = .returned (.bool r) ∧ Drawn0 w w' := by
  have H : ((stencillaw0_Num.f 1204).bind fun t157 => (if t157 = 1204 then ((stencillaw0_Num.f 1205).bind fun t158 => (if t158 = 1205 then ((stencillaw0_Num.f 1300).bind fun t159 => (if t159 = 1300 then ((stencillaw0_Num.f 1301).bind fun t160 => (if t160 = 1301 then ((stencillaw0_Num.f 1302).bind fun t161 => (if t161 = 1302 then ((stencillaw0_Num.f 1303).bind fun t162 => (if t162 = 1303 then ((stencillaw0_Num.f 1304).bind fun t163 => (if t163 = 1304 then ((stencillaw0_Num.f 1400).bind fun t164 => (if t164 = 1400 then ((stencillaw0_Num.f 1401).bind fun t165 => (if t165 = 1401 then ((stencillaw0_Num.f 1402).bind fun t166 => (if t166 = 1402 then ((stencillaw0_Num.f 1403).bind fun t167 => (if t167 = 1403 then ((stencillaw0_Num.f 1404).bind fun t168 => (if t168 = 1404 then ((stencillaw0_Num.f 1405).bind fun t169 => (if t169 = 1405 then ((stencillaw0_Num.f 1406).bind fun t170 => (some (t170 == 1406))) else (some false))) else (some false))) else (some false))) else (some false))) else (some false))) else (some false))) else (some false))) else (some false))) else (some false))) else (some false))) else (some false))) else (some false))) else (some false))) = some r := h
  clear h
  replace H := Option.bind_eq_some_iff.mp H
  obtain ⟨t157, A10, H⟩ := H
  replace H : (if t157 = 1204 then ((stencillaw0_Num.f 1205).bind fun t158 => (if t158 = 1205 then ((stencillaw0_Num.f 1300).bind fun t159 => (if t159 = 1300 then ((stencillaw0_Num.f 1301).bind fun t160 => (if t160 = 1301 then ((stencillaw0_Num.f 1302).bind fun t161 => (if t161 = 1302 then ((stencillaw0_Num.f 1303).bind fun t162 => (if t162 = 1303 then ((stencillaw0_Num.f 1304).bind fun t163 => (if t163 = 1304 then ((stencillaw0_Num.f 1400).bind fun t164 => (if t164 = 1400 then ((stencillaw0_Num.f 1401).bind fun t165 => (if t165 = 1401 then ((stencillaw0_Num.f 1402).bind fun t166 => (if t166 = 1402 then ((stencillaw0_Num.f 1403).bind fun t167 => (if t167 = 1403 then ((stencillaw0_Num.f 1404).bind fun t168 => (if t168 = 1404 then ((stencillaw0_Num.f 1405).bind fun t169 => (if t169 = 1405 then ((stencillaw0_Num.f 1406).bind fun t170 => (some (t170 == 1406))) else (some false))) else (some false))) else (some false))) else (some false))) else (some false))) else (some false))) else (some false))) else (some false))) else (some false))) else (some false))) else (some false))) else (some false))) else (some false)) = some r := H
  have A1 := Aside0.mk A10
  clear A10
  by_cases c2 : t157 = 1204
  · rw [if_pos c2] at H
    have c2b0 : (t157 == 1204) = true := beq_iff_eq.mpr c2
    have c2b1 : (t157 != 1204) = false := bne_eq_false_iff_eq.mpr c2
    clear c2
    replace H := Option.bind_eq_some_iff.mp H
    obtain ⟨t158, A30, H⟩ := H
    replace H : (if t158 = 1205 then ((stencillaw0_Num.f 1300).bind fun t159 => (if t159 = 1300 then ((stencillaw0_Num.f 1301).bind fun t160 => (if t160 = 1301 then ((stencillaw0_Num.f 1302).bind fun t161 => (if t161 = 1302 then ((stencillaw0_Num.f 1303).bind fun t162 => (if t162 = 1303 then ((stencillaw0_Num.f 1304).bind fun t163 => (if t163 = 1304 then ((stencillaw0_Num.f 1400).bind fun t164 => (if t164 = 1400 then ((stencillaw0_Num.f 1401).bind fun t165 => (if t165 = 1401 then ((stencillaw0_Num.f 1402).bind fun t166 => (if t166 = 1402 then ((stencillaw0_Num.f 1403).bind fun t167 => (if t167 = 1403 then ((stencillaw0_Num.f 1404).bind fun t168 => (if t168 = 1404 then ((stencillaw0_Num.f 1405).bind fun t169 => (if t169 = 1405 then ((stencillaw0_Num.f 1406).bind fun t170 => (some (t170 == 1406))) else (some false))) else (some false))) else (some false))) else (some false))) else (some false))) else (some false))) else (some false))) else (some false))) else (some false))) else (some false))) else (some false))) else (some false)) = some r := H
    have A3 := Aside0.mk A30
    clear A30
    by_cases c4 : t158 = 1205
    · rw [if_pos c4] at H
      have c4b0 : (t158 == 1205) = true := beq_iff_eq.mpr c4
      have c4b1 : (t158 != 1205) = false := bne_eq_false_iff_eq.mpr c4
      clear c4
      replace H := Option.bind_eq_some_iff.mp H
      obtain ⟨t159, A50, H⟩ := H
      replace H : (if t159 = 1300 then ((stencillaw0_Num.f 1301).bind fun t160 => (if t160 = 1301 then ((stencillaw0_Num.f 1302).bind fun t161 => (if t161 = 1302 then ((stencillaw0_Num.f 1303).bind fun t162 => (if t162 = 1303 then ((stencillaw0_Num.f 1304).bind fun t163 => (if t163 = 1304 then ((stencillaw0_Num.f 1400).bind fun t164 => (if t164 = 1400 then ((stencillaw0_Num.f 1401).bind fun t165 => (if t165 = 1401 then ((stencillaw0_Num.f 1402).bind fun t166 => (if t166 = 1402 then ((stencillaw0_Num.f 1403).bind fun t167 => (if t167 = 1403 then ((stencillaw0_Num.f 1404).bind fun t168 => (if t168 = 1404 then ((stencillaw0_Num.f 1405).bind fun t169 => (if t169 = 1405 then ((stencillaw0_Num.f 1406).bind fun t170 => (some (t170 == 1406))) else (some false))) else (some false))) else (some false))) else (some false))) else (some false))) else (some false))) else (some false))) else (some false))) else (some false))) else (some false))) else (some false)) = some r := H
      have A5 := Aside0.mk A50
      clear A50
      by_cases c6 : t159 = 1300
      · rw [if_pos c6] at H
        have c6b0 : (t159 == 1300) = true := beq_iff_eq.mpr c6
        have c6b1 : (t159 != 1300) = false := bne_eq_false_iff_eq.mpr c6
        clear c6
        replace H := Option.bind_eq_some_iff.mp H
        obtain ⟨t160, A70, H⟩ := H
        replace H : (if t160 = 1301 then ((stencillaw0_Num.f 1302).bind fun t161 => (if t161 = 1302 then ((stencillaw0_Num.f 1303).bind fun t162 => (if t162 = 1303 then ((stencillaw0_Num.f 1304).bind fun t163 => (if t163 = 1304 then ((stencillaw0_Num.f 1400).bind fun t164 => (if t164 = 1400 then ((stencillaw0_Num.f 1401).bind fun t165 => (if t165 = 1401 then ((stencillaw0_Num.f 1402).bind fun t166 => (if t166 = 1402 then ((stencillaw0_Num.f 1403).bind fun t167 => (if t167 = 1403 then ((stencillaw0_Num.f 1404).bind fun t168 => (if t168 = 1404 then ((stencillaw0_Num.f 1405).bind fun t169 => (if t169 = 1405 then ((stencillaw0_Num.f 1406).bind fun t170 => (some (t170 == 1406))) else (some false))) else (some false))) else (some false))) else (some false))) else (some false))) else (some false))) else (some false))) else (some false))) else (some false))) else (some false)) = some r := H
        have A7 := Aside0.mk A70
        clear A70
        by_cases c8 : t160 = 1301
        · rw [if_pos c8] at H
          have c8b0 : (t160 == 1301) = true := beq_iff_eq.mpr c8
          have c8b1 : (t160 != 1301) = false := bne_eq_false_iff_eq.mpr c8
          clear c8
          replace H := Option.bind_eq_some_iff.mp H
          obtain ⟨t161, A90, H⟩ := H
          replace H : (if t161 = 1302 then ((stencillaw0_Num.f 1303).bind fun t162 => (if t162 = 1303 then ((stencillaw0_Num.f 1304).bind fun t163 => (if t163 = 1304 then ((stencillaw0_Num.f 1400).bind fun t164 => (if t164 = 1400 then ((stencillaw0_Num.f 1401).bind fun t165 => (if t165 = 1401 then ((stencillaw0_Num.f 1402).bind fun t166 => (if t166 = 1402 then ((stencillaw0_Num.f 1403).bind fun t167 => (if t167 = 1403 then ((stencillaw0_Num.f 1404).bind fun t168 => (if t168 = 1404 then ((stencillaw0_Num.f 1405).bind fun t169 => (if t169 = 1405 then ((stencillaw0_Num.f 1406).bind fun t170 => (some (t170 == 1406))) else (some false))) else (some false))) else (some false))) else (some false))) else (some false))) else (some false))) else (some false))) else (some false))) else (some false)) = some r := H
          have A9 := Aside0.mk A90
          clear A90
          by_cases c10 : t161 = 1302
          · rw [if_pos c10] at H
            have c10b0 : (t161 == 1302) = true := beq_iff_eq.mpr c10
            have c10b1 : (t161 != 1302) = false := bne_eq_false_iff_eq.mpr c10
            clear c10
            replace H := Option.bind_eq_some_iff.mp H
            obtain ⟨t162, A110, H⟩ := H
            replace H : (if t162 = 1303 then ((stencillaw0_Num.f 1304).bind fun t163 => (if t163 = 1304 then ((stencillaw0_Num.f 1400).bind fun t164 => (if t164 = 1400 then ((stencillaw0_Num.f 1401).bind fun t165 => (if t165 = 1401 then ((stencillaw0_Num.f 1402).bind fun t166 => (if t166 = 1402 then ((stencillaw0_Num.f 1403).bind fun t167 => (if t167 = 1403 then ((stencillaw0_Num.f 1404).bind fun t168 => (if t168 = 1404 then ((stencillaw0_Num.f 1405).bind fun t169 => (if t169 = 1405 then ((stencillaw0_Num.f 1406).bind fun t170 => (some (t170 == 1406))) else (some false))) else (some false))) else (some false))) else (some false))) else (some false))) else (some false))) else (some false))) else (some false)) = some r := H
            have A11 := Aside0.mk A110
            clear A110
            by_cases c12 : t162 = 1303
            · rw [if_pos c12] at H
              have c12b0 : (t162 == 1303) = true := beq_iff_eq.mpr c12
              have c12b1 : (t162 != 1303) = false := bne_eq_false_iff_eq.mpr c12
              clear c12
              replace H := Option.bind_eq_some_iff.mp H
              obtain ⟨t163, A130, H⟩ := H
              replace H : (if t163 = 1304 then ((stencillaw0_Num.f 1400).bind fun t164 => (if t164 = 1400 then ((stencillaw0_Num.f 1401).bind fun t165 => (if t165 = 1401 then ((stencillaw0_Num.f 1402).bind fun t166 => (if t166 = 1402 then ((stencillaw0_Num.f 1403).bind fun t167 => (if t167 = 1403 then ((stencillaw0_Num.f 1404).bind fun t168 => (if t168 = 1404 then ((stencillaw0_Num.f 1405).bind fun t169 => (if t169 = 1405 then ((stencillaw0_Num.f 1406).bind fun t170 => (some (t170 == 1406))) else (some false))) else (some false))) else (some false))) else (some false))) else (some false))) else (some false))) else (some false)) = some r := H
              have A13 := Aside0.mk A130
              clear A130
              by_cases c14 : t163 = 1304
              · rw [if_pos c14] at H
                have c14b0 : (t163 == 1304) = true := beq_iff_eq.mpr c14
                have c14b1 : (t163 != 1304) = false := bne_eq_false_iff_eq.mpr c14
                clear c14
                replace H := Option.bind_eq_some_iff.mp H
                obtain ⟨t164, A150, H⟩ := H
                replace H : (if t164 = 1400 then ((stencillaw0_Num.f 1401).bind fun t165 => (if t165 = 1401 then ((stencillaw0_Num.f 1402).bind fun t166 => (if t166 = 1402 then ((stencillaw0_Num.f 1403).bind fun t167 => (if t167 = 1403 then ((stencillaw0_Num.f 1404).bind fun t168 => (if t168 = 1404 then ((stencillaw0_Num.f 1405).bind fun t169 => (if t169 = 1405 then ((stencillaw0_Num.f 1406).bind fun t170 => (some (t170 == 1406))) else (some false))) else (some false))) else (some false))) else (some false))) else (some false))) else (some false)) = some r := H
                have A15 := Aside0.mk A150
                clear A150
                by_cases c16 : t164 = 1400
                · rw [if_pos c16] at H
                  have c16b0 : (t164 == 1400) = true := beq_iff_eq.mpr c16
                  have c16b1 : (t164 != 1400) = false := bne_eq_false_iff_eq.mpr c16
                  clear c16
                  replace H := Option.bind_eq_some_iff.mp H
                  obtain ⟨t165, A170, H⟩ := H
                  replace H : (if t165 = 1401 then ((stencillaw0_Num.f 1402).bind fun t166 => (if t166 = 1402 then ((stencillaw0_Num.f 1403).bind fun t167 => (if t167 = 1403 then ((stencillaw0_Num.f 1404).bind fun t168 => (if t168 = 1404 then ((stencillaw0_Num.f 1405).bind fun t169 => (if t169 = 1405 then ((stencillaw0_Num.f 1406).bind fun t170 => (some (t170 == 1406))) else (some false))) else (some false))) else (some false))) else (some false))) else (some false)) = some r := H
                  have A17 := Aside0.mk A170
                  clear A170
                  by_cases c18 : t165 = 1401
                  · rw [if_pos c18] at H
                    have c18b0 : (t165 == 1401) = true := beq_iff_eq.mpr c18
                    have c18b1 : (t165 != 1401) = false := bne_eq_false_iff_eq.mpr c18
                    clear c18
                    replace H := Option.bind_eq_some_iff.mp H
                    obtain ⟨t166, A190, H⟩ := H
                    replace H : (if t166 = 1402 then ((stencillaw0_Num.f 1403).bind fun t167 => (if t167 = 1403 then ((stencillaw0_Num.f 1404).bind fun t168 => (if t168 = 1404 then ((stencillaw0_Num.f 1405).bind fun t169 => (if t169 = 1405 then ((stencillaw0_Num.f 1406).bind fun t170 => (some (t170 == 1406))) else (some false))) else (some false))) else (some false))) else (some false)) = some r := H
                    have A19 := Aside0.mk A190
                    clear A190
                    by_cases c20 : t166 = 1402
                    · rw [if_pos c20] at H
                      have c20b0 : (t166 == 1402) = true := beq_iff_eq.mpr c20
                      have c20b1 : (t166 != 1402) = false := bne_eq_false_iff_eq.mpr c20
                      clear c20
                      replace H := Option.bind_eq_some_iff.mp H
                      obtain ⟨t167, A210, H⟩ := H
                      replace H : (if t167 = 1403 then ((stencillaw0_Num.f 1404).bind fun t168 => (if t168 = 1404 then ((stencillaw0_Num.f 1405).bind fun t169 => (if t169 = 1405 then ((stencillaw0_Num.f 1406).bind fun t170 => (some (t170 == 1406))) else (some false))) else (some false))) else (some false)) = some r := H
                      have A21 := Aside0.mk A210
                      clear A210
                      by_cases c22 : t167 = 1403
                      · rw [if_pos c22] at H
                        have c22b0 : (t167 == 1403) = true := beq_iff_eq.mpr c22
                        have c22b1 : (t167 != 1403) = false := bne_eq_false_iff_eq.mpr c22
                        clear c22
                        replace H := Option.bind_eq_some_iff.mp H
                        obtain ⟨t168, A230, H⟩ := H
                        replace H : (if t168 = 1404 then ((stencillaw0_Num.f 1405).bind fun t169 => (if t169 = 1405 then ((stencillaw0_Num.f 1406).bind fun t170 => (some (t170 == 1406))) else (some false))) else (some false)) = some r := H
                        have A23 := Aside0.mk A230
                        clear A230
                        by_cases c24 : t168 = 1404
                        · rw [if_pos c24] at H
                          have c24b0 : (t168 == 1404) = true := beq_iff_eq.mpr c24
                          have c24b1 : (t168 != 1404) = false := bne_eq_false_iff_eq.mpr c24
                          clear c24
                          replace H := Option.bind_eq_some_iff.mp H
                          obtain ⟨t169, A250, H⟩ := H
                          replace H : (if t169 = 1405 then ((stencillaw0_Num.f 1406).bind fun t170 => (some (t170 == 1406))) else (some false)) = some r := H
                          have A25 := Aside0.mk A250
                          clear A250
                          by_cases c26 : t169 = 1405
                          · rw [if_pos c26] at H
                            have c26b0 : (t169 == 1405) = true := beq_iff_eq.mpr c26
                            have c26b1 : (t169 != 1405) = false := bne_eq_false_iff_eq.mpr c26
                            clear c26
                            replace H := Option.bind_eq_some_iff.mp H
                            obtain ⟨t170, A270, H⟩ := H
                            replace H : (some (t170 == 1406)) = some r := H
                            have A27 := Aside0.mk A270
                            clear A270
                            obtain rfl := Option.some.inj H
                            go_enter Try.func12, Try.ntmps12
                            go_wp2_with (first | ((with_reducible refine gate_callee (f := 35) rfl ?_); refine goesL_ (some 1) rfl rfl Try.func35 (by kernel_rfl) rfl #[.int .i64 1204] rfl (by (try simp only [List.map_toArray, List.map_cons, List.map_nil]); first | done | rfl | (simp only [List.length_drop, List.length_take]; rfl)) ?_; (with_reducible refine (stencillaw0_Num.calls 1204 t157 _ A1.out).mono ?_); rintro e w' ⟨rfl, ⟨nd, rfl⟩⟩; refine ⟨_, rfl, ?_⟩) | (go_at_call 35; (with_reducible refine (stencillaw0_Num.calls 1205 t158 _ A3.out).mono ?_); rintro e w' ⟨rfl, ⟨nd, rfl⟩⟩) | (go_at_call 35; (with_reducible refine (stencillaw0_Num.calls 1300 t159 _ A5.out).mono ?_); rintro e w' ⟨rfl, ⟨nd, rfl⟩⟩) | (go_at_call 35; (with_reducible refine (stencillaw0_Num.calls 1301 t160 _ A7.out).mono ?_); rintro e w' ⟨rfl, ⟨nd, rfl⟩⟩) | (go_at_call 35; (with_reducible refine (stencillaw0_Num.calls 1302 t161 _ A9.out).mono ?_); rintro e w' ⟨rfl, ⟨nd, rfl⟩⟩) | (go_at_call 35; (with_reducible refine (stencillaw0_Num.calls 1303 t162 _ A11.out).mono ?_); rintro e w' ⟨rfl, ⟨nd, rfl⟩⟩) | (go_at_call 35; (with_reducible refine (stencillaw0_Num.calls 1304 t163 _ A13.out).mono ?_); rintro e w' ⟨rfl, ⟨nd, rfl⟩⟩) | (go_at_call 35; (with_reducible refine (stencillaw0_Num.calls 1400 t164 _ A15.out).mono ?_); rintro e w' ⟨rfl, ⟨nd, rfl⟩⟩) | (go_at_call 35; (with_reducible refine (stencillaw0_Num.calls 1401 t165 _ A17.out).mono ?_); rintro e w' ⟨rfl, ⟨nd, rfl⟩⟩) | (go_at_call 35; (with_reducible refine (stencillaw0_Num.calls 1402 t166 _ A19.out).mono ?_); rintro e w' ⟨rfl, ⟨nd, rfl⟩⟩) | (go_at_call 35; (with_reducible refine (stencillaw0_Num.calls 1403 t167 _ A21.out).mono ?_); rintro e w' ⟨rfl, ⟨nd, rfl⟩⟩) | (go_at_call 35; (with_reducible refine (stencillaw0_Num.calls 1404 t168 _ A23.out).mono ?_); rintro e w' ⟨rfl, ⟨nd, rfl⟩⟩) | (go_at_call 35; (with_reducible refine (stencillaw0_Num.calls 1405 t169 _ A25.out).mono ?_); rintro e w' ⟨rfl, ⟨nd, rfl⟩⟩) | (go_at_call 35; (with_reducible refine (stencillaw0_Num.calls 1406 t170 _ A27.out).mono ?_); rintro e w' ⟨rfl, ⟨nd, rfl⟩⟩))
                            go_ret
                            exact ⟨by first | rfl | (simp; done) | (simp [*]; done), by repeat (first | exact Drawn0.refl _ | apply Drawn0.step)⟩
                          · rw [if_neg c26] at H
                            have c26b0 : (t169 == 1405) = false := beq_eq_false_iff_ne.mpr c26
                            have c26b1 : (t169 != 1405) = true := bne_iff_ne.mpr c26
                            obtain rfl := Option.some.inj H
                            go_enter Try.func12, Try.ntmps12
                            go_wp2_with (first | ((with_reducible refine gate_callee (f := 35) rfl ?_); refine goesL_ (some 1) rfl rfl Try.func35 (by kernel_rfl) rfl #[.int .i64 1204] rfl (by (try simp only [List.map_toArray, List.map_cons, List.map_nil]); first | done | rfl | (simp only [List.length_drop, List.length_take]; rfl)) ?_; (with_reducible refine (stencillaw0_Num.calls 1204 t157 _ A1.out).mono ?_); rintro e w' ⟨rfl, ⟨nd, rfl⟩⟩; refine ⟨_, rfl, ?_⟩) | (go_at_call 35; (with_reducible refine (stencillaw0_Num.calls 1205 t158 _ A3.out).mono ?_); rintro e w' ⟨rfl, ⟨nd, rfl⟩⟩) | (go_at_call 35; (with_reducible refine (stencillaw0_Num.calls 1300 t159 _ A5.out).mono ?_); rintro e w' ⟨rfl, ⟨nd, rfl⟩⟩) | (go_at_call 35; (with_reducible refine (stencillaw0_Num.calls 1301 t160 _ A7.out).mono ?_); rintro e w' ⟨rfl, ⟨nd, rfl⟩⟩) | (go_at_call 35; (with_reducible refine (stencillaw0_Num.calls 1302 t161 _ A9.out).mono ?_); rintro e w' ⟨rfl, ⟨nd, rfl⟩⟩) | (go_at_call 35; (with_reducible refine (stencillaw0_Num.calls 1303 t162 _ A11.out).mono ?_); rintro e w' ⟨rfl, ⟨nd, rfl⟩⟩) | (go_at_call 35; (with_reducible refine (stencillaw0_Num.calls 1304 t163 _ A13.out).mono ?_); rintro e w' ⟨rfl, ⟨nd, rfl⟩⟩) | (go_at_call 35; (with_reducible refine (stencillaw0_Num.calls 1400 t164 _ A15.out).mono ?_); rintro e w' ⟨rfl, ⟨nd, rfl⟩⟩) | (go_at_call 35; (with_reducible refine (stencillaw0_Num.calls 1401 t165 _ A17.out).mono ?_); rintro e w' ⟨rfl, ⟨nd, rfl⟩⟩) | (go_at_call 35; (with_reducible refine (stencillaw0_Num.calls 1402 t166 _ A19.out).mono ?_); rintro e w' ⟨rfl, ⟨nd, rfl⟩⟩) | (go_at_call 35; (with_reducible refine (stencillaw0_Num.calls 1403 t167 _ A21.out).mono ?_); rintro e w' ⟨rfl, ⟨nd, rfl⟩⟩) | (go_at_call 35; (with_reducible refine (stencillaw0_Num.calls 1404 t168 _ A23.out).mono ?_); rintro e w' ⟨rfl, ⟨nd, rfl⟩⟩) | (go_at_call 35; (with_reducible refine (stencillaw0_Num.calls 1405 t169 _ A25.out).mono ?_); rintro e w' ⟨rfl, ⟨nd, rfl⟩⟩))
                            go_ret
                            exact ⟨by first | rfl | (simp; done) | (simp [*]; done), by repeat (first | exact Drawn0.refl _ | apply Drawn0.step)⟩
                        · rw [if_neg c24] at H
                          have c24b0 : (t168 == 1404) = false := beq_eq_false_iff_ne.mpr c24
                          have c24b1 : (t168 != 1404) = true := bne_iff_ne.mpr c24
                          obtain rfl := Option.some.inj H
                          go_enter Try.func12, Try.ntmps12
                          go_wp2_with (first | ((with_reducible refine gate_callee (f := 35) rfl ?_); refine goesL_ (some 1) rfl rfl Try.func35 (by kernel_rfl) rfl #[.int .i64 1204] rfl (by (try simp only [List.map_toArray, List.map_cons, List.map_nil]); first | done | rfl | (simp only [List.length_drop, List.length_take]; rfl)) ?_; (with_reducible refine (stencillaw0_Num.calls 1204 t157 _ A1.out).mono ?_); rintro e w' ⟨rfl, ⟨nd, rfl⟩⟩; refine ⟨_, rfl, ?_⟩) | (go_at_call 35; (with_reducible refine (stencillaw0_Num.calls 1205 t158 _ A3.out).mono ?_); rintro e w' ⟨rfl, ⟨nd, rfl⟩⟩) | (go_at_call 35; (with_reducible refine (stencillaw0_Num.calls 1300 t159 _ A5.out).mono ?_); rintro e w' ⟨rfl, ⟨nd, rfl⟩⟩) | (go_at_call 35; (with_reducible refine (stencillaw0_Num.calls 1301 t160 _ A7.out).mono ?_); rintro e w' ⟨rfl, ⟨nd, rfl⟩⟩) | (go_at_call 35; (with_reducible refine (stencillaw0_Num.calls 1302 t161 _ A9.out).mono ?_); rintro e w' ⟨rfl, ⟨nd, rfl⟩⟩) | (go_at_call 35; (with_reducible refine (stencillaw0_Num.calls 1303 t162 _ A11.out).mono ?_); rintro e w' ⟨rfl, ⟨nd, rfl⟩⟩) | (go_at_call 35; (with_reducible refine (stencillaw0_Num.calls 1304 t163 _ A13.out).mono ?_); rintro e w' ⟨rfl, ⟨nd, rfl⟩⟩) | (go_at_call 35; (with_reducible refine (stencillaw0_Num.calls 1400 t164 _ A15.out).mono ?_); rintro e w' ⟨rfl, ⟨nd, rfl⟩⟩) | (go_at_call 35; (with_reducible refine (stencillaw0_Num.calls 1401 t165 _ A17.out).mono ?_); rintro e w' ⟨rfl, ⟨nd, rfl⟩⟩) | (go_at_call 35; (with_reducible refine (stencillaw0_Num.calls 1402 t166 _ A19.out).mono ?_); rintro e w' ⟨rfl, ⟨nd, rfl⟩⟩) | (go_at_call 35; (with_reducible refine (stencillaw0_Num.calls 1403 t167 _ A21.out).mono ?_); rintro e w' ⟨rfl, ⟨nd, rfl⟩⟩) | (go_at_call 35; (with_reducible refine (stencillaw0_Num.calls 1404 t168 _ A23.out).mono ?_); rintro e w' ⟨rfl, ⟨nd, rfl⟩⟩))
                          go_ret
                          exact ⟨by first | rfl | (simp; done) | (simp [*]; done), by repeat (first | exact Drawn0.refl _ | apply Drawn0.step)⟩
                      · rw [if_neg c22] at H
                        have c22b0 : (t167 == 1403) = false := beq_eq_false_iff_ne.mpr c22
                        have c22b1 : (t167 != 1403) = true := bne_iff_ne.mpr c22
                        obtain rfl := Option.some.inj H
                        go_enter Try.func12, Try.ntmps12
                        go_wp2_with (first | ((with_reducible refine gate_callee (f := 35) rfl ?_); refine goesL_ (some 1) rfl rfl Try.func35 (by kernel_rfl) rfl #[.int .i64 1204] rfl (by (try simp only [List.map_toArray, List.map_cons, List.map_nil]); first | done | rfl | (simp only [List.length_drop, List.length_take]; rfl)) ?_; (with_reducible refine (stencillaw0_Num.calls 1204 t157 _ A1.out).mono ?_); rintro e w' ⟨rfl, ⟨nd, rfl⟩⟩; refine ⟨_, rfl, ?_⟩) | (go_at_call 35; (with_reducible refine (stencillaw0_Num.calls 1205 t158 _ A3.out).mono ?_); rintro e w' ⟨rfl, ⟨nd, rfl⟩⟩) | (go_at_call 35; (with_reducible refine (stencillaw0_Num.calls 1300 t159 _ A5.out).mono ?_); rintro e w' ⟨rfl, ⟨nd, rfl⟩⟩) | (go_at_call 35; (with_reducible refine (stencillaw0_Num.calls 1301 t160 _ A7.out).mono ?_); rintro e w' ⟨rfl, ⟨nd, rfl⟩⟩) | (go_at_call 35; (with_reducible refine (stencillaw0_Num.calls 1302 t161 _ A9.out).mono ?_); rintro e w' ⟨rfl, ⟨nd, rfl⟩⟩) | (go_at_call 35; (with_reducible refine (stencillaw0_Num.calls 1303 t162 _ A11.out).mono ?_); rintro e w' ⟨rfl, ⟨nd, rfl⟩⟩) | (go_at_call 35; (with_reducible refine (stencillaw0_Num.calls 1304 t163 _ A13.out).mono ?_); rintro e w' ⟨rfl, ⟨nd, rfl⟩⟩) | (go_at_call 35; (with_reducible refine (stencillaw0_Num.calls 1400 t164 _ A15.out).mono ?_); rintro e w' ⟨rfl, ⟨nd, rfl⟩⟩) | (go_at_call 35; (with_reducible refine (stencillaw0_Num.calls 1401 t165 _ A17.out).mono ?_); rintro e w' ⟨rfl, ⟨nd, rfl⟩⟩) | (go_at_call 35; (with_reducible refine (stencillaw0_Num.calls 1402 t166 _ A19.out).mono ?_); rintro e w' ⟨rfl, ⟨nd, rfl⟩⟩) | (go_at_call 35; (with_reducible refine (stencillaw0_Num.calls 1403 t167 _ A21.out).mono ?_); rintro e w' ⟨rfl, ⟨nd, rfl⟩⟩))
                        go_ret
                        exact ⟨by first | rfl | (simp; done) | (simp [*]; done), by repeat (first | exact Drawn0.refl _ | apply Drawn0.step)⟩
                    · rw [if_neg c20] at H
                      have c20b0 : (t166 == 1402) = false := beq_eq_false_iff_ne.mpr c20
                      have c20b1 : (t166 != 1402) = true := bne_iff_ne.mpr c20
                      obtain rfl := Option.some.inj H
                      go_enter Try.func12, Try.ntmps12
                      go_wp2_with (first | ((with_reducible refine gate_callee (f := 35) rfl ?_); refine goesL_ (some 1) rfl rfl Try.func35 (by kernel_rfl) rfl #[.int .i64 1204] rfl (by (try simp only [List.map_toArray, List.map_cons, List.map_nil]); first | done | rfl | (simp only [List.length_drop, List.length_take]; rfl)) ?_; (with_reducible refine (stencillaw0_Num.calls 1204 t157 _ A1.out).mono ?_); rintro e w' ⟨rfl, ⟨nd, rfl⟩⟩; refine ⟨_, rfl, ?_⟩) | (go_at_call 35; (with_reducible refine (stencillaw0_Num.calls 1205 t158 _ A3.out).mono ?_); rintro e w' ⟨rfl, ⟨nd, rfl⟩⟩) | (go_at_call 35; (with_reducible refine (stencillaw0_Num.calls 1300 t159 _ A5.out).mono ?_); rintro e w' ⟨rfl, ⟨nd, rfl⟩⟩) | (go_at_call 35; (with_reducible refine (stencillaw0_Num.calls 1301 t160 _ A7.out).mono ?_); rintro e w' ⟨rfl, ⟨nd, rfl⟩⟩) | (go_at_call 35; (with_reducible refine (stencillaw0_Num.calls 1302 t161 _ A9.out).mono ?_); rintro e w' ⟨rfl, ⟨nd, rfl⟩⟩) | (go_at_call 35; (with_reducible refine (stencillaw0_Num.calls 1303 t162 _ A11.out).mono ?_); rintro e w' ⟨rfl, ⟨nd, rfl⟩⟩) | (go_at_call 35; (with_reducible refine (stencillaw0_Num.calls 1304 t163 _ A13.out).mono ?_); rintro e w' ⟨rfl, ⟨nd, rfl⟩⟩) | (go_at_call 35; (with_reducible refine (stencillaw0_Num.calls 1400 t164 _ A15.out).mono ?_); rintro e w' ⟨rfl, ⟨nd, rfl⟩⟩) | (go_at_call 35; (with_reducible refine (stencillaw0_Num.calls 1401 t165 _ A17.out).mono ?_); rintro e w' ⟨rfl, ⟨nd, rfl⟩⟩) | (go_at_call 35; (with_reducible refine (stencillaw0_Num.calls 1402 t166 _ A19.out).mono ?_); rintro e w' ⟨rfl, ⟨nd, rfl⟩⟩))
                      go_ret
                      exact ⟨by first | rfl | (simp; done) | (simp [*]; done), by repeat (first | exact Drawn0.refl _ | apply Drawn0.step)⟩
                  · rw [if_neg c18] at H
                    have c18b0 : (t165 == 1401) = false := beq_eq_false_iff_ne.mpr c18
                    have c18b1 : (t165 != 1401) = true := bne_iff_ne.mpr c18
                    obtain rfl := Option.some.inj H
                    go_enter Try.func12, Try.ntmps12
                    go_wp2_with (first | ((with_reducible refine gate_callee (f := 35) rfl ?_); refine goesL_ (some 1) rfl rfl Try.func35 (by kernel_rfl) rfl #[.int .i64 1204] rfl (by (try simp only [List.map_toArray, List.map_cons, List.map_nil]); first | done | rfl | (simp only [List.length_drop, List.length_take]; rfl)) ?_; (with_reducible refine (stencillaw0_Num.calls 1204 t157 _ A1.out).mono ?_); rintro e w' ⟨rfl, ⟨nd, rfl⟩⟩; refine ⟨_, rfl, ?_⟩) | (go_at_call 35; (with_reducible refine (stencillaw0_Num.calls 1205 t158 _ A3.out).mono ?_); rintro e w' ⟨rfl, ⟨nd, rfl⟩⟩) | (go_at_call 35; (with_reducible refine (stencillaw0_Num.calls 1300 t159 _ A5.out).mono ?_); rintro e w' ⟨rfl, ⟨nd, rfl⟩⟩) | (go_at_call 35; (with_reducible refine (stencillaw0_Num.calls 1301 t160 _ A7.out).mono ?_); rintro e w' ⟨rfl, ⟨nd, rfl⟩⟩) | (go_at_call 35; (with_reducible refine (stencillaw0_Num.calls 1302 t161 _ A9.out).mono ?_); rintro e w' ⟨rfl, ⟨nd, rfl⟩⟩) | (go_at_call 35; (with_reducible refine (stencillaw0_Num.calls 1303 t162 _ A11.out).mono ?_); rintro e w' ⟨rfl, ⟨nd, rfl⟩⟩) | (go_at_call 35; (with_reducible refine (stencillaw0_Num.calls 1304 t163 _ A13.out).mono ?_); rintro e w' ⟨rfl, ⟨nd, rfl⟩⟩) | (go_at_call 35; (with_reducible refine (stencillaw0_Num.calls 1400 t164 _ A15.out).mono ?_); rintro e w' ⟨rfl, ⟨nd, rfl⟩⟩) | (go_at_call 35; (with_reducible refine (stencillaw0_Num.calls 1401 t165 _ A17.out).mono ?_); rintro e w' ⟨rfl, ⟨nd, rfl⟩⟩))
                    go_ret
                    exact ⟨by first | rfl | (simp; done) | (simp [*]; done), by repeat (first | exact Drawn0.refl _ | apply Drawn0.step)⟩
                · rw [if_neg c16] at H
                  have c16b0 : (t164 == 1400) = false := beq_eq_false_iff_ne.mpr c16
                  have c16b1 : (t164 != 1400) = true := bne_iff_ne.mpr c16
                  obtain rfl := Option.some.inj H
                  go_enter Try.func12, Try.ntmps12
                  go_wp2_with (first | ((with_reducible refine gate_callee (f := 35) rfl ?_); refine goesL_ (some 1) rfl rfl Try.func35 (by kernel_rfl) rfl #[.int .i64 1204] rfl (by (try simp only [List.map_toArray, List.map_cons, List.map_nil]); first | done | rfl | (simp only [List.length_drop, List.length_take]; rfl)) ?_; (with_reducible refine (stencillaw0_Num.calls 1204 t157 _ A1.out).mono ?_); rintro e w' ⟨rfl, ⟨nd, rfl⟩⟩; refine ⟨_, rfl, ?_⟩) | (go_at_call 35; (with_reducible refine (stencillaw0_Num.calls 1205 t158 _ A3.out).mono ?_); rintro e w' ⟨rfl, ⟨nd, rfl⟩⟩) | (go_at_call 35; (with_reducible refine (stencillaw0_Num.calls 1300 t159 _ A5.out).mono ?_); rintro e w' ⟨rfl, ⟨nd, rfl⟩⟩) | (go_at_call 35; (with_reducible refine (stencillaw0_Num.calls 1301 t160 _ A7.out).mono ?_); rintro e w' ⟨rfl, ⟨nd, rfl⟩⟩) | (go_at_call 35; (with_reducible refine (stencillaw0_Num.calls 1302 t161 _ A9.out).mono ?_); rintro e w' ⟨rfl, ⟨nd, rfl⟩⟩) | (go_at_call 35; (with_reducible refine (stencillaw0_Num.calls 1303 t162 _ A11.out).mono ?_); rintro e w' ⟨rfl, ⟨nd, rfl⟩⟩) | (go_at_call 35; (with_reducible refine (stencillaw0_Num.calls 1304 t163 _ A13.out).mono ?_); rintro e w' ⟨rfl, ⟨nd, rfl⟩⟩) | (go_at_call 35; (with_reducible refine (stencillaw0_Num.calls 1400 t164 _ A15.out).mono ?_); rintro e w' ⟨rfl, ⟨nd, rfl⟩⟩))
                  go_ret
                  exact ⟨by first | rfl | (simp; done) | (simp [*]; done), by repeat (first | exact Drawn0.refl _ | apply Drawn0.step)⟩
              · rw [if_neg c14] at H
                have c14b0 : (t163 == 1304) = false := beq_eq_false_iff_ne.mpr c14
                have c14b1 : (t163 != 1304) = true := bne_iff_ne.mpr c14
                obtain rfl := Option.some.inj H
                go_enter Try.func12, Try.ntmps12
                go_wp2_with (first | ((with_reducible refine gate_callee (f := 35) rfl ?_); refine goesL_ (some 1) rfl rfl Try.func35 (by kernel_rfl) rfl #[.int .i64 1204] rfl (by (try simp only [List.map_toArray, List.map_cons, List.map_nil]); first | done | rfl | (simp only [List.length_drop, List.length_take]; rfl)) ?_; (with_reducible refine (stencillaw0_Num.calls 1204 t157 _ A1.out).mono ?_); rintro e w' ⟨rfl, ⟨nd, rfl⟩⟩; refine ⟨_, rfl, ?_⟩) | (go_at_call 35; (with_reducible refine (stencillaw0_Num.calls 1205 t158 _ A3.out).mono ?_); rintro e w' ⟨rfl, ⟨nd, rfl⟩⟩) | (go_at_call 35; (with_reducible refine (stencillaw0_Num.calls 1300 t159 _ A5.out).mono ?_); rintro e w' ⟨rfl, ⟨nd, rfl⟩⟩) | (go_at_call 35; (with_reducible refine (stencillaw0_Num.calls 1301 t160 _ A7.out).mono ?_); rintro e w' ⟨rfl, ⟨nd, rfl⟩⟩) | (go_at_call 35; (with_reducible refine (stencillaw0_Num.calls 1302 t161 _ A9.out).mono ?_); rintro e w' ⟨rfl, ⟨nd, rfl⟩⟩) | (go_at_call 35; (with_reducible refine (stencillaw0_Num.calls 1303 t162 _ A11.out).mono ?_); rintro e w' ⟨rfl, ⟨nd, rfl⟩⟩) | (go_at_call 35; (with_reducible refine (stencillaw0_Num.calls 1304 t163 _ A13.out).mono ?_); rintro e w' ⟨rfl, ⟨nd, rfl⟩⟩))
                go_ret
                exact ⟨by first | rfl | (simp; done) | (simp [*]; done), by repeat (first | exact Drawn0.refl _ | apply Drawn0.step)⟩
            · rw [if_neg c12] at H
              have c12b0 : (t162 == 1303) = false := beq_eq_false_iff_ne.mpr c12
              have c12b1 : (t162 != 1303) = true := bne_iff_ne.mpr c12
              obtain rfl := Option.some.inj H
              go_enter Try.func12, Try.ntmps12
              go_wp2_with (first | ((with_reducible refine gate_callee (f := 35) rfl ?_); refine goesL_ (some 1) rfl rfl Try.func35 (by kernel_rfl) rfl #[.int .i64 1204] rfl (by (try simp only [List.map_toArray, List.map_cons, List.map_nil]); first | done | rfl | (simp only [List.length_drop, List.length_take]; rfl)) ?_; (with_reducible refine (stencillaw0_Num.calls 1204 t157 _ A1.out).mono ?_); rintro e w' ⟨rfl, ⟨nd, rfl⟩⟩; refine ⟨_, rfl, ?_⟩) | (go_at_call 35; (with_reducible refine (stencillaw0_Num.calls 1205 t158 _ A3.out).mono ?_); rintro e w' ⟨rfl, ⟨nd, rfl⟩⟩) | (go_at_call 35; (with_reducible refine (stencillaw0_Num.calls 1300 t159 _ A5.out).mono ?_); rintro e w' ⟨rfl, ⟨nd, rfl⟩⟩) | (go_at_call 35; (with_reducible refine (stencillaw0_Num.calls 1301 t160 _ A7.out).mono ?_); rintro e w' ⟨rfl, ⟨nd, rfl⟩⟩) | (go_at_call 35; (with_reducible refine (stencillaw0_Num.calls 1302 t161 _ A9.out).mono ?_); rintro e w' ⟨rfl, ⟨nd, rfl⟩⟩) | (go_at_call 35; (with_reducible refine (stencillaw0_Num.calls 1303 t162 _ A11.out).mono ?_); rintro e w' ⟨rfl, ⟨nd, rfl⟩⟩))
              go_ret
              exact ⟨by first | rfl | (simp; done) | (simp [*]; done), by repeat (first | exact Drawn0.refl _ | apply Drawn0.step)⟩
          · rw [if_neg c10] at H
            have c10b0 : (t161 == 1302) = false := beq_eq_false_iff_ne.mpr c10
            have c10b1 : (t161 != 1302) = true := bne_iff_ne.mpr c10
            obtain rfl := Option.some.inj H
            go_enter Try.func12, Try.ntmps12
            go_wp2_with (first | ((with_reducible refine gate_callee (f := 35) rfl ?_); refine goesL_ (some 1) rfl rfl Try.func35 (by kernel_rfl) rfl #[.int .i64 1204] rfl (by (try simp only [List.map_toArray, List.map_cons, List.map_nil]); first | done | rfl | (simp only [List.length_drop, List.length_take]; rfl)) ?_; (with_reducible refine (stencillaw0_Num.calls 1204 t157 _ A1.out).mono ?_); rintro e w' ⟨rfl, ⟨nd, rfl⟩⟩; refine ⟨_, rfl, ?_⟩) | (go_at_call 35; (with_reducible refine (stencillaw0_Num.calls 1205 t158 _ A3.out).mono ?_); rintro e w' ⟨rfl, ⟨nd, rfl⟩⟩) | (go_at_call 35; (with_reducible refine (stencillaw0_Num.calls 1300 t159 _ A5.out).mono ?_); rintro e w' ⟨rfl, ⟨nd, rfl⟩⟩) | (go_at_call 35; (with_reducible refine (stencillaw0_Num.calls 1301 t160 _ A7.out).mono ?_); rintro e w' ⟨rfl, ⟨nd, rfl⟩⟩) | (go_at_call 35; (with_reducible refine (stencillaw0_Num.calls 1302 t161 _ A9.out).mono ?_); rintro e w' ⟨rfl, ⟨nd, rfl⟩⟩))
            go_ret
            exact ⟨by first | rfl | (simp; done) | (simp [*]; done), by repeat (first | exact Drawn0.refl _ | apply Drawn0.step)⟩
        · rw [if_neg c8] at H
          have c8b0 : (t160 == 1301) = false := beq_eq_false_iff_ne.mpr c8
          have c8b1 : (t160 != 1301) = true := bne_iff_ne.mpr c8
          obtain rfl := Option.some.inj H
          go_enter Try.func12, Try.ntmps12
          go_wp2_with (first | ((with_reducible refine gate_callee (f := 35) rfl ?_); refine goesL_ (some 1) rfl rfl Try.func35 (by kernel_rfl) rfl #[.int .i64 1204] rfl (by (try simp only [List.map_toArray, List.map_cons, List.map_nil]); first | done | rfl | (simp only [List.length_drop, List.length_take]; rfl)) ?_; (with_reducible refine (stencillaw0_Num.calls 1204 t157 _ A1.out).mono ?_); rintro e w' ⟨rfl, ⟨nd, rfl⟩⟩; refine ⟨_, rfl, ?_⟩) | (go_at_call 35; (with_reducible refine (stencillaw0_Num.calls 1205 t158 _ A3.out).mono ?_); rintro e w' ⟨rfl, ⟨nd, rfl⟩⟩) | (go_at_call 35; (with_reducible refine (stencillaw0_Num.calls 1300 t159 _ A5.out).mono ?_); rintro e w' ⟨rfl, ⟨nd, rfl⟩⟩) | (go_at_call 35; (with_reducible refine (stencillaw0_Num.calls 1301 t160 _ A7.out).mono ?_); rintro e w' ⟨rfl, ⟨nd, rfl⟩⟩))
          go_ret
          exact ⟨by first | rfl | (simp; done) | (simp [*]; done), by repeat (first | exact Drawn0.refl _ | apply Drawn0.step)⟩
      · rw [if_neg c6] at H
        have c6b0 : (t159 == 1300) = false := beq_eq_false_iff_ne.mpr c6
        have c6b1 : (t159 != 1300) = true := bne_iff_ne.mpr c6
        obtain rfl := Option.some.inj H
        go_enter Try.func12, Try.ntmps12
        go_wp2_with (first | ((with_reducible refine gate_callee (f := 35) rfl ?_); refine goesL_ (some 1) rfl rfl Try.func35 (by kernel_rfl) rfl #[.int .i64 1204] rfl (by (try simp only [List.map_toArray, List.map_cons, List.map_nil]); first | done | rfl | (simp only [List.length_drop, List.length_take]; rfl)) ?_; (with_reducible refine (stencillaw0_Num.calls 1204 t157 _ A1.out).mono ?_); rintro e w' ⟨rfl, ⟨nd, rfl⟩⟩; refine ⟨_, rfl, ?_⟩) | (go_at_call 35; (with_reducible refine (stencillaw0_Num.calls 1205 t158 _ A3.out).mono ?_); rintro e w' ⟨rfl, ⟨nd, rfl⟩⟩) | (go_at_call 35; (with_reducible refine (stencillaw0_Num.calls 1300 t159 _ A5.out).mono ?_); rintro e w' ⟨rfl, ⟨nd, rfl⟩⟩))
        go_ret
        exact ⟨by first | rfl | (simp; done) | (simp [*]; done), by repeat (first | exact Drawn0.refl _ | apply Drawn0.step)⟩
    · rw [if_neg c4] at H
      have c4b0 : (t158 == 1205) = false := beq_eq_false_iff_ne.mpr c4
      have c4b1 : (t158 != 1205) = true := bne_iff_ne.mpr c4
      obtain rfl := Option.some.inj H
      go_enter Try.func12, Try.ntmps12
      go_wp2_with (first | ((with_reducible refine gate_callee (f := 35) rfl ?_); refine goesL_ (some 1) rfl rfl Try.func35 (by kernel_rfl) rfl #[.int .i64 1204] rfl (by (try simp only [List.map_toArray, List.map_cons, List.map_nil]); first | done | rfl | (simp only [List.length_drop, List.length_take]; rfl)) ?_; (with_reducible refine (stencillaw0_Num.calls 1204 t157 _ A1.out).mono ?_); rintro e w' ⟨rfl, ⟨nd, rfl⟩⟩; refine ⟨_, rfl, ?_⟩) | (go_at_call 35; (with_reducible refine (stencillaw0_Num.calls 1205 t158 _ A3.out).mono ?_); rintro e w' ⟨rfl, ⟨nd, rfl⟩⟩))
      go_ret
      exact ⟨by first | rfl | (simp; done) | (simp [*]; done), by repeat (first | exact Drawn0.refl _ | apply Drawn0.step)⟩
  · rw [if_neg c2] at H
    have c2b0 : (t157 == 1204) = false := beq_eq_false_iff_ne.mpr c2
    have c2b1 : (t157 != 1204) = true := bne_iff_ne.mpr c2
    obtain rfl := Option.some.inj H
    go_enter Try.func12, Try.ntmps12
    go_wp2_with (first | ((with_reducible refine gate_callee (f := 35) rfl ?_); refine goesL_ (some 1) rfl rfl Try.func35 (by kernel_rfl) rfl #[.int .i64 1204] rfl (by (try simp only [List.map_toArray, List.map_cons, List.map_nil]); first | done | rfl | (simp only [List.length_drop, List.length_take]; rfl)) ?_; (with_reducible refine (stencillaw0_Num.calls 1204 t157 _ A1.out).mono ?_); rintro e w' ⟨rfl, ⟨nd, rfl⟩⟩; refine ⟨_, rfl, ?_⟩))
    go_ret
    exact ⟨by first | rfl | (simp; done) | (simp [*]; done), by repeat (first | exact Drawn0.refl _ | apply Drawn0.step)⟩

/-! ### stencillaw0_errors6: function 13 -/
def stencillaw0_errors6.f  : Option (Bool) := (stencillaw0_Num.f 1407).bind fun t171 => (if t171 = 1407 then ((stencillaw0_Num.f 1408).bind fun t172 => (if t172 = 1408 then ((stencillaw0_Num.f 1409).bind fun t173 => (if t173 = 1409 then ((stencillaw0_Num.f 1410).bind fun t174 => (if t174 = 1410 then ((stencillaw0_Num.f 1411).bind fun t175 => (if t175 = 1411 then ((stencillaw0_Num.f 1412).bind fun t176 => (if t176 = 1412 then ((stencillaw0_Num.f 1500).bind fun t177 => (if t177 = 1500 then ((stencillaw0_Num.f 1501).bind fun t178 => (if t178 = 1501 then ((stencillaw0_Num.f 1502).bind fun t179 => (if t179 = 1502 then ((stencillaw0_Num.f 1503).bind fun t180 => (if t180 = 1503 then ((stencillaw0_Num.f 1504).bind fun t181 => (if t181 = 1504 then ((stencillaw0_Num.f 1600).bind fun t182 => (if t182 = 1600 then ((stencillaw0_Num.f 1601).bind fun t183 => (if t183 = 1601 then ((stencillaw0_Num.f 1800).bind fun t184 => (some (t184 == 1800))) else (some false))) else (some false))) else (some false))) else (some false))) else (some false))) else (some false))) else (some false))) else (some false))) else (some false))) else (some false))) else (some false))) else (some false))) else (some false))
set_option maxHeartbeats 8000000 in
set_option maxRecDepth 100000 in
theorem stencillaw0_errors6.calls  (r : Bool) (w : World) (h : stencillaw0_errors6.f  = some r) :
    Calls Try.prog 13 #[] w fun e w' => e = .returned (.bool r) ∧ Drawn0 w w' := by
  have H : ((stencillaw0_Num.f 1407).bind fun t171 => (if t171 = 1407 then ((stencillaw0_Num.f 1408).bind fun t172 => (if t172 = 1408 then ((stencillaw0_Num.f 1409).bind fun t173 => (if t173 = 1409 then ((stencillaw0_Num.f 1410).bind fun t174 => (if t174 = 1410 then ((stencillaw0_Num.f 1411).bind fun t175 => (if t175 = 1411 then ((stencillaw0_Num.f 1412).bind fun t176 => (if t176 = 1412 then ((stencillaw0_Num.f 1500).bind fun t177 => (if t177 = 1500 then ((stencillaw0_Num.f 1501).bind fun t178 => (if t178 = 1501 then ((stencillaw0_Num.f 1502).bind fun t179 => (if t179 = 1502 then ((stencillaw0_Num.f 1503).bind fun t180 => (if t180 = 1503 then ((stencillaw0_Num.f 1504).bind fun t181 => (if t181 = 1504 then ((stencillaw0_Num.f 1600).bind fun t182 => (if t182 = 1600 then ((stencillaw0_Num.f 1601).bind fun t183 => (if t183 = 1601 then ((stencillaw0_Num.f 1800).bind fun t184 => (some (t184 == 1800))) else (some false))) else (some false))) else (some false))) else (some false))) else (some false))) else (some false))) else (some false))) else (some false))) else (some false))) else (some false))) else (some false))) else (some false))) else (some false))) = some r := h
  clear h
  replace H := Option.bind_eq_some_iff.mp H
  obtain ⟨t171, A10, H⟩ := H
  replace H : (if t171 = 1407 then ((stencillaw0_Num.f 1408).bind fun t172 => (if t172 = 1408 then ((stencillaw0_Num.f 1409).bind fun t173 => (if t173 = 1409 then ((stencillaw0_Num.f 1410).bind fun t174 => (if t174 = 1410 then ((stencillaw0_Num.f 1411).bind fun t175 => (if t175 = 1411 then ((stencillaw0_Num.f 1412).bind fun t176 => (if t176 = 1412 then ((stencillaw0_Num.f 1500).bind fun t177 => (if t177 = 1500 then ((stencillaw0_Num.f 1501).bind fun t178 => (if t178 = 1501 then ((stencillaw0_Num.f 1502).bind fun t179 => (if t179 = 1502 then ((stencillaw0_Num.f 1503).bind fun t180 => (if t180 = 1503 then ((stencillaw0_Num.f 1504).bind fun t181 => (if t181 = 1504 then ((stencillaw0_Num.f 1600).bind fun t182 => (if t182 = 1600 then ((stencillaw0_Num.f 1601).bind fun t183 => (if t183 = 1601 then ((stencillaw0_Num.f 1800).bind fun t184 => (some (t184 == 1800))) else (some false))) else (some false))) else (some false))) else (some false))) else (some false))) else (some false))) else (some false))) else (some false))) else (some false))) else (some false))) else (some false))) else (some false))) else (some false)) = some r := H
  have A1 := Aside0.mk A10
  clear A10
  by_cases c2 : t171 = 1407
  · rw [if_pos c2] at H
    have c2b0 : (t171 == 1407) = true := beq_iff_eq.mpr c2
    have c2b1 : (t171 != 1407) = false := bne_eq_false_iff_eq.mpr c2
    clear c2
    replace H := Option.bind_eq_some_iff.mp H
    obtain ⟨t172, A30, H⟩ := H
    replace H : (if t172 = 1408 then ((stencillaw0_Num.f 1409).bind fun t173 => (if t173 = 1409 then ((stencillaw0_Num.f 1410).bind fun t174 => (if t174 = 1410 then ((stencillaw0_Num.f 1411).bind fun t175 => (if t175 = 1411 then ((stencillaw0_Num.f 1412).bind fun t176 => (if t176 = 1412 then ((stencillaw0_Num.f 1500).bind fun t177 => (if t177 = 1500 then ((stencillaw0_Num.f 1501).bind fun t178 => (if t178 = 1501 then ((stencillaw0_Num.f 1502).bind fun t179 => (if t179 = 1502 then ((stencillaw0_Num.f 1503).bind fun t180 => (if t180 = 1503 then ((stencillaw0_Num.f 1504).bind fun t181 => (if t181 = 1504 then ((stencillaw0_Num.f 1600).bind fun t182 => (if t182 = 1600 then ((stencillaw0_Num.f 1601).bind fun t183 => (if t183 = 1601 then ((stencillaw0_Num.f 1800).bind fun t184 => (some (t184 == 1800))) else (some false))) else (some false))) else (some false))) else (some false))) else (some false))) else (some false))) else (some false))) else (some false))) else (some false))) else (some false))) else (some false))) else (some false)) = some r := H
    have A3 := Aside0.mk A30
    clear A30
    by_cases c4 : t172 = 1408
    · rw [if_pos c4] at H
      have c4b0 : (t172 == 1408) = true := beq_iff_eq.mpr c4
      have c4b1 : (t172 != 1408) = false := bne_eq_false_iff_eq.mpr c4
      clear c4
      replace H := Option.bind_eq_some_iff.mp H
      obtain ⟨t173, A50, H⟩ := H
      replace H : (if t173 = 1409 then ((stencillaw0_Num.f 1410).bind fun t174 => (if t174 = 1410 then ((stencillaw0_Num.f 1411).bind fun t175 => (if t175 = 1411 then ((stencillaw0_Num.f 1412).bind fun t176 => (if t176 = 1412 then ((stencillaw0_Num.f 1500).bind fun t177 => (if t177 = 1500 then ((stencillaw0_Num.f 1501).bind fun t178 => (if t178 = 1501 then ((stencillaw0_Num.f 1502).bind fun t179 => (if t179 = 1502 then ((stencillaw0_Num.f 1503).bind fun t180 => (if t180 = 1503 then ((stencillaw0_Num.f 1504).bind fun t181 => (if t181 = 1504 then ((stencillaw0_Num.f 1600).bind fun t182 => (if t182 = 1600 then ((stencillaw0_Num.f 1601).bind fun t183 => (if t183 = 1601 then ((stencillaw0_Num.f 1800).bind fun t184 => (some (t184 == 1800))) else (some false))) else (some false))) else (some false))) else (some false))) else (some false))) else (some false))) else (some false))) else (some false))) else (some false))) else (some false))) else (some false)) = some r := H
      have A5 := Aside0.mk A50
      clear A50
      by_cases c6 : t173 = 1409
      · rw [if_pos c6] at H
        have c6b0 : (t173 == 1409) = true := beq_iff_eq.mpr c6
        have c6b1 : (t173 != 1409) = false := bne_eq_false_iff_eq.mpr c6
        clear c6
        replace H := Option.bind_eq_some_iff.mp H
        obtain ⟨t174, A70, H⟩ := H
        replace H : (if t174 = 1410 then ((stencillaw0_Num.f 1411).bind fun t175 => (if t175 = 1411 then ((stencillaw0_Num.f 1412).bind fun t176 => (if t176 = 1412 then ((stencillaw0_Num.f 1500).bind fun t177 => (if t177 = 1500 then ((stencillaw0_Num.f 1501).bind fun t178 => (if t178 = 1501 then ((stencillaw0_Num.f 1502).bind fun t179 => (if t179 = 1502 then ((stencillaw0_Num.f 1503).bind fun t180 => (if t180 = 1503 then ((stencillaw0_Num.f 1504).bind fun t181 => (if t181 = 1504 then ((stencillaw0_Num.f 1600).bind fun t182 => (if t182 = 1600 then ((stencillaw0_Num.f 1601).bind fun t183 => (if t183 = 1601 then ((stencillaw0_Num.f 1800).bind fun t184 => (some (t184 == 1800))) else (some false))) else (some false))) else (some false))) else (some false))) else (some false))) else (some false))) else (some false))) else (some false))) else (some false))) else (some false)) = some r := H
        have A7 := Aside0.mk A70
        clear A70
        by_cases c8 : t174 = 1410
        · rw [if_pos c8] at H
          have c8b0 : (t174 == 1410) = true := beq_iff_eq.mpr c8
          have c8b1 : (t174 != 1410) = false := bne_eq_false_iff_eq.mpr c8
          clear c8
          replace H := Option.bind_eq_some_iff.mp H
          obtain ⟨t175, A90, H⟩ := H
          replace H : (if t175 = 1411 then ((stencillaw0_Num.f 1412).bind fun t176 => (if t176 = 1412 then ((stencillaw0_Num.f 1500).bind fun t177 => (if t177 = 1500 then ((stencillaw0_Num.f 1501).bind fun t178 => (if t178 = 1501 then ((stencillaw0_Num.f 1502).bind fun t179 => (if t179 = 1502 then ((stencillaw0_Num.f 1503).bind fun t180 => (if t180 = 1503 then ((stencillaw0_Num.f 1504).bind fun t181 => (if t181 = 1504 then ((stencillaw0_Num.f 1600).bind fun t182 => (if t182 = 1600 then ((stencillaw0_Num.f 1601).bind fun t183 => (if t183 = 1601 then ((stencillaw0_Num.f 1800).bind fun t184 => (some (t184 == 1800))) else (some false))) else (some false))) else (some false))) else (some false))) else (some false))) else (some false))) else (some false))) else (some false))) else (some false)) = some r := H
          have A9 := Aside0.mk A90
          clear A90
          by_cases c10 : t175 = 1411
          · rw [if_pos c10] at H
            have c10b0 : (t175 == 1411) = true := beq_iff_eq.mpr c10
            have c10b1 : (t175 != 1411) = false := bne_eq_false_iff_eq.mpr c10
            clear c10
            replace H := Option.bind_eq_some_iff.mp H
            obtain ⟨t176, A110, H⟩ := H
            replace H : (if t176 = 1412 then ((stencillaw0_Num.f 1500).bind fun t177 => (if t177 = 1500 then ((stencillaw0_Num.f 1501).bind fun t178 => (if t178 = 1501 then ((stencillaw0_Num.f 1502).bind fun t179 => (if t179 = 1502 then ((stencillaw0_Num.f 1503).bind fun t180 => (if t180 = 1503 then ((stencillaw0_Num.f 1504).bind fun t181 => (if t181 = 1504 then ((stencillaw0_Num.f 1600).bind fun t182 => (if t182 = 1600 then ((stencillaw0_Num.f 1601).bind fun t183 => (if t183 = 1601 then ((stencillaw0_Num.f 1800).bind fun t184 => (some (t184 == 1800))) else (some false))) else (some false))) else (some false))) else (some false))) else (some false))) else (some false))) else (some false))) else (some false)) = some r := H
            have A11 := Aside0.mk A110
            clear A110
            by_cases c12 : t176 = 1412
            · rw [if_pos c12] at H
              have c12b0 : (t176 == 1412) = true := beq_iff_eq.mpr c12
              have c12b1 : (t176 != 1412) = false := bne_eq_false_iff_eq.mpr c12
              clear c12
              replace H := Option.bind_eq_some_iff.mp H
              obtain ⟨t177, A130, H⟩ := H
              replace H : (if t177 = 1500 then ((stencillaw0_Num.f 1501).bind fun t178 => (if t178 = 1501 then ((stencillaw0_Num.f 1502).bind fun t179 => (if t179 = 1502 then ((stencillaw0_Num.f 1503).bind fun t180 => (if t180 = 1503 then ((stencillaw0_Num.f 1504).bind fun t181 => (if t181 = 1504 then ((stencillaw0_Num.f 1600).bind fun t182 => (if t182 = 1600 then ((stencillaw0_Num.f 1601).bind fun t183 => (if t183 = 1601 then ((stencillaw0_Num.f 1800).bind fun t184 => (some (t184 == 1800))) else (some false))) else (some false))) else (some false))) else (some false))) else (some false))) else (some false))) else (some false)) = some r := H
              have A13 := Aside0.mk A130
              clear A130
              by_cases c14 : t177 = 1500
              · rw [if_pos c14] at H
                have c14b0 : (t177 == 1500) = true := beq_iff_eq.mpr c14
                have c14b1 : (t177 != 1500) = false := bne_eq_false_iff_eq.mpr c14
                clear c14
                replace H := Option.bind_eq_some_iff.mp H
                obtain ⟨t178, A150, H⟩ := H
                replace H : (if t178 = 1501 then ((stencillaw0_Num.f 1502).bind fun t179 => (if t179 = 1502 then ((stencillaw0_Num.f 1503).bind fun t180 => (if t180 = 1503 then ((stencillaw0_Num.f 1504).bind fun t181 => (if t181 = 1504 then ((stencillaw0_Num.f 1600).bind fun t182 => (if t182 = 1600 then ((stencillaw0_Num.f 1601).bind fun t183 => (if t183 = 1601 then ((stencillaw0_Num.f 1800).bind fun t184 => (some (t184 == 1800))) else (some false))) else (some false))) else (some false))) else (some false))) else (some false))) else (some false)) = some r := H
                have A15 := Aside0.mk A150
                clear A150
                by_cases c16 : t178 = 1501
                · rw [if_pos c16] at H
                  have c16b0 : (t178 == 1501) = true := beq_iff_eq.mpr c16
                  have c16b1 : (t178 != 1501) = false := bne_eq_false_iff_eq.mpr c16
                  clear c16
                  replace H := Option.bind_eq_some_iff.mp H
                  obtain ⟨t179, A170, H⟩ := H
                  replace H : (if t179 = 1502 then ((stencillaw0_Num.f 1503).bind fun t180 => (if t180 = 1503 then ((stencillaw0_Num.f 1504).bind fun t181 => (if t181 = 1504 then ((stencillaw0_Num.f 1600).bind fun t182 => (if t182 = 1600 then ((stencillaw0_Num.f 1601).bind fun t183 => (if t183 = 1601 then ((stencillaw0_Num.f 1800).bind fun t184 => (some (t184 == 1800))) else (some false))) else (some false))) else (some false))) else (some false))) else (some false)) = some r := H
                  have A17 := Aside0.mk A170
                  clear A170
                  by_cases c18 : t179 = 1502
                  · rw [if_pos c18] at H
                    have c18b0 : (t179 == 1502) = true := beq_iff_eq.mpr c18
                    have c18b1 : (t179 != 1502) = false := bne_eq_false_iff_eq.mpr c18
                    clear c18
                    replace H := Option.bind_eq_some_iff.mp H
                    obtain ⟨t180, A190, H⟩ := H
                    replace H : (if t180 = 1503 then ((stencillaw0_Num.f 1504).bind fun t181 => (if t181 = 1504 then ((stencillaw0_Num.f 1600).bind fun t182 => (if t182 = 1600 then ((stencillaw0_Num.f 1601).bind fun t183 => (if t183 = 1601 then ((stencillaw0_Num.f 1800).bind fun t184 => (some (t184 == 1800))) else (some false))) else (some false))) else (some false))) else (some false)) = some r := H
                    have A19 := Aside0.mk A190
                    clear A190
                    by_cases c20 : t180 = 1503
                    · rw [if_pos c20] at H
                      have c20b0 : (t180 == 1503) = true := beq_iff_eq.mpr c20
                      have c20b1 : (t180 != 1503) = false := bne_eq_false_iff_eq.mpr c20
                      clear c20
                      replace H := Option.bind_eq_some_iff.mp H
                      obtain ⟨t181, A210, H⟩ := H
                      replace H : (if t181 = 1504 then ((stencillaw0_Num.f 1600).bind fun t182 => (if t182 = 1600 then ((stencillaw0_Num.f 1601).bind fun t183 => (if t183 = 1601 then ((stencillaw0_Num.f 1800).bind fun t184 => (some (t184 == 1800))) else (some false))) else (some false))) else (some false)) = some r := H
                      have A21 := Aside0.mk A210
                      clear A210
                      by_cases c22 : t181 = 1504
                      · rw [if_pos c22] at H
                        have c22b0 : (t181 == 1504) = true := beq_iff_eq.mpr c22
                        have c22b1 : (t181 != 1504) = false := bne_eq_false_iff_eq.mpr c22
                        clear c22
                        replace H := Option.bind_eq_some_iff.mp H
                        obtain ⟨t182, A230, H⟩ := H
                        replace H : (if t182 = 1600 then ((stencillaw0_Num.f 1601).bind fun t183 => (if t183 = 1601 then ((stencillaw0_Num.f 1800).bind fun t184 => (some (t184 == 1800))) else (some false))) else (some false)) = some r := H
                        have A23 := Aside0.mk A230
                        clear A230
                        by_cases c24 : t182 = 1600
                        · rw [if_pos c24] at H
                          have c24b0 : (t182 == 1600) = true := beq_iff_eq.mpr c24
                          have c24b1 : (t182 != 1600) = false := bne_eq_false_iff_eq.mpr c24
                          clear c24
                          replace H := Option.bind_eq_some_iff.mp H
                          obtain ⟨t183, A250, H⟩ := H
                          replace H : (if t183 = 1601 then ((stencillaw0_Num.f 1800).bind fun t184 => (some (t184 == 1800))) else (some false)) = some r := H
                          have A25 := Aside0.mk A250
                          clear A250
                          by_cases c26 : t183 = 1601
                          · rw [if_pos c26] at H
                            have c26b0 : (t183 == 1601) = true := beq_iff_eq.mpr c26
                            have c26b1 : (t183 != 1601) = false := bne_eq_false_iff_eq.mpr c26
                            clear c26
                            replace H := Option.bind_eq_some_iff.mp H
                            obtain ⟨t184, A270, H⟩ := H
                            replace H : (some (t184 == 1800)) = some r := H
                            have A27 := Aside0.mk A270
                            clear A270
                            obtain rfl := Option.some.inj H
                            go_enter Try.func13, Try.ntmps13
                            go_wp2_with (first | ((with_reducible refine gate_callee (f := 35) rfl ?_); refine goesL_ (some 1) rfl rfl Try.func35 (by kernel_rfl) rfl #[.int .i64 1407] rfl (by (try simp only [List.map_toArray, List.map_cons, List.map_nil]); first | done | rfl | (simp only [List.length_drop, List.length_take]; rfl)) ?_; (with_reducible refine (stencillaw0_Num.calls 1407 t171 _ A1.out).mono ?_); rintro e w' ⟨rfl, ⟨nd, rfl⟩⟩; refine ⟨_, rfl, ?_⟩) | (go_at_call 35; (with_reducible refine (stencillaw0_Num.calls 1408 t172 _ A3.out).mono ?_); rintro e w' ⟨rfl, ⟨nd, rfl⟩⟩) | (go_at_call 35; (with_reducible refine (stencillaw0_Num.calls 1409 t173 _ A5.out).mono ?_); rintro e w' ⟨rfl, ⟨nd, rfl⟩⟩) | (go_at_call 35; (with_reducible refine (stencillaw0_Num.calls 1410 t174 _ A7.out).mono ?_); rintro e w' ⟨rfl, ⟨nd, rfl⟩⟩) | (go_at_call 35; (with_reducible refine (stencillaw0_Num.calls 1411 t175 _ A9.out).mono ?_); rintro e w' ⟨rfl, ⟨nd, rfl⟩⟩) | (go_at_call 35; (with_reducible refine (stencillaw0_Num.calls 1412 t176 _ A11.out).mono ?_); rintro e w' ⟨rfl, ⟨nd, rfl⟩⟩) | (go_at_call 35; (with_reducible refine (stencillaw0_Num.calls 1500 t177 _ A13.out).mono ?_); rintro e w' ⟨rfl, ⟨nd, rfl⟩⟩) | (go_at_call 35; (with_reducible refine (stencillaw0_Num.calls 1501 t178 _ A15.out).mono ?_); rintro e w' ⟨rfl, ⟨nd, rfl⟩⟩) | (go_at_call 35; (with_reducible refine (stencillaw0_Num.calls 1502 t179 _ A17.out).mono ?_); rintro e w' ⟨rfl, ⟨nd, rfl⟩⟩) | (go_at_call 35; (with_reducible refine (stencillaw0_Num.calls 1503 t180 _ A19.out).mono ?_); rintro e w' ⟨rfl, ⟨nd, rfl⟩⟩) | (go_at_call 35; (with_reducible refine (stencillaw0_Num.calls 1504 t181 _ A21.out).mono ?_); rintro e w' ⟨rfl, ⟨nd, rfl⟩⟩) | (go_at_call 35; (with_reducible refine (stencillaw0_Num.calls 1600 t182 _ A23.out).mono ?_); rintro e w' ⟨rfl, ⟨nd, rfl⟩⟩) | (go_at_call 35; (with_reducible refine (stencillaw0_Num.calls 1601 t183 _ A25.out).mono ?_); rintro e w' ⟨rfl, ⟨nd, rfl⟩⟩) | (go_at_call 35; (with_reducible refine (stencillaw0_Num.calls 1800 t184 _ A27.out).mono ?_); rintro e w' ⟨rfl, ⟨nd, rfl⟩⟩))
                            go_ret
                            exact ⟨by first | rfl | (simp; done) | (simp [*]; done), by repeat (first | exact Drawn0.refl _ | apply Drawn0.step)⟩
                          · rw [if_neg c26] at H
                            have c26b0 : (t183 == 1601) = false := beq_eq_false_iff_ne.mpr c26
                            have c26b1 : (t183 != 1601) = true := bne_iff_ne.mpr c26
                            obtain rfl := Option.some.inj H
                            go_enter Try.func13, Try.ntmps13
                            go_wp2_with (first | ((with_reducible refine gate_callee (f := 35) rfl ?_); refine goesL_ (some 1) rfl rfl Try.func35 (by kernel_rfl) rfl #[.int .i64 1407] rfl (by (try simp only [List.map_toArray, List.map_cons, List.map_nil]); first | done | rfl | (simp only [List.length_drop, List.length_take]; rfl)) ?_; (with_reducible refine (stencillaw0_Num.calls 1407 t171 _ A1.out).mono ?_); rintro e w' ⟨rfl, ⟨nd, rfl⟩⟩; refine ⟨_, rfl, ?_⟩) | (go_at_call 35; (with_reducible refine (stencillaw0_Num.calls 1408 t172 _ A3.out).mono ?_); rintro e w' ⟨rfl, ⟨nd, rfl⟩⟩) | (go_at_call 35; (with_reducible refine (stencillaw0_Num.calls 1409 t173 _ A5.out).mono ?_); rintro e w' ⟨rfl, ⟨nd, rfl⟩⟩) | (go_at_call 35; (with_reducible refine (stencillaw0_Num.calls 1410 t174 _ A7.out).mono ?_); rintro e w' ⟨rfl, ⟨nd, rfl⟩⟩) | (go_at_call 35; (with_reducible refine (stencillaw0_Num.calls 1411 t175 _ A9.out).mono ?_); rintro e w' ⟨rfl, ⟨nd, rfl⟩⟩) | (go_at_call 35; (with_reducible refine (stencillaw0_Num.calls 1412 t176 _ A11.out).mono ?_); rintro e w' ⟨rfl, ⟨nd, rfl⟩⟩) | (go_at_call 35; (with_reducible refine (stencillaw0_Num.calls 1500 t177 _ A13.out).mono ?_); rintro e w' ⟨rfl, ⟨nd, rfl⟩⟩) | (go_at_call 35; (with_reducible refine (stencillaw0_Num.calls 1501 t178 _ A15.out).mono ?_); rintro e w' ⟨rfl, ⟨nd, rfl⟩⟩) | (go_at_call 35; (with_reducible refine (stencillaw0_Num.calls 1502 t179 _ A17.out).mono ?_); rintro e w' ⟨rfl, ⟨nd, rfl⟩⟩) | (go_at_call 35; (with_reducible refine (stencillaw0_Num.calls 1503 t180 _ A19.out).mono ?_); rintro e w' ⟨rfl, ⟨nd, rfl⟩⟩) | (go_at_call 35; (with_reducible refine (stencillaw0_Num.calls 1504 t181 _ A21.out).mono ?_); rintro e w' ⟨rfl, ⟨nd, rfl⟩⟩) | (go_at_call 35; (with_reducible refine (stencillaw0_Num.calls 1600 t182 _ A23.out).mono ?_); rintro e w' ⟨rfl, ⟨nd, rfl⟩⟩) | (go_at_call 35; (with_reducible refine (stencillaw0_Num.calls 1601 t183 _ A25.out).mono ?_); rintro e w' ⟨rfl, ⟨nd, rfl⟩⟩))
                            go_ret
                            exact ⟨by first | rfl | (simp; done) | (simp [*]; done), by repeat (first | exact Drawn0.refl _ | apply Drawn0.step)⟩
                        · rw [if_neg c24] at H
                          have c24b0 : (t182 == 1600) = false := beq_eq_false_iff_ne.mpr c24
                          have c24b1 : (t182 != 1600) = true := bne_iff_ne.mpr c24
                          obtain rfl := Option.some.inj H
                          go_enter Try.func13, Try.ntmps13
                          go_wp2_with (first | ((with_reducible refine gate_callee (f := 35) rfl ?_); refine goesL_ (some 1) rfl rfl Try.func35 (by kernel_rfl) rfl #[.int .i64 1407] rfl (by (try simp only [List.map_toArray, List.map_cons, List.map_nil]); first | done | rfl | (simp only [List.length_drop, List.length_take]; rfl)) ?_; (with_reducible refine (stencillaw0_Num.calls 1407 t171 _ A1.out).mono ?_); rintro e w' ⟨rfl, ⟨nd, rfl⟩⟩; refine ⟨_, rfl, ?_⟩) | (go_at_call 35; (with_reducible refine (stencillaw0_Num.calls 1408 t172 _ A3.out).mono ?_); rintro e w' ⟨rfl, ⟨nd, rfl⟩⟩) | (go_at_call 35; (with_reducible refine (stencillaw0_Num.calls 1409 t173 _ A5.out).mono ?_); rintro e w' ⟨rfl, ⟨nd, rfl⟩⟩) | (go_at_call 35; (with_reducible refine (stencillaw0_Num.calls 1410 t174 _ A7.out).mono ?_); rintro e w' ⟨rfl, ⟨nd, rfl⟩⟩) | (go_at_call 35; (with_reducible refine (stencillaw0_Num.calls 1411 t175 _ A9.out).mono ?_); rintro e w' ⟨rfl, ⟨nd, rfl⟩⟩) | (go_at_call 35; (with_reducible refine (stencillaw0_Num.calls 1412 t176 _ A11.out).mono ?_); rintro e w' ⟨rfl, ⟨nd, rfl⟩⟩) | (go_at_call 35; (with_reducible refine (stencillaw0_Num.calls 1500 t177 _ A13.out).mono ?_); rintro e w' ⟨rfl, ⟨nd, rfl⟩⟩) | (go_at_call 35; (with_reducible refine (stencillaw0_Num.calls 1501 t178 _ A15.out).mono ?_); rintro e w' ⟨rfl, ⟨nd, rfl⟩⟩) | (go_at_call 35; (with_reducible refine (stencillaw0_Num.calls 1502 t179 _ A17.out).mono ?_); rintro e w' ⟨rfl, ⟨nd, rfl⟩⟩) | (go_at_call 35; (with_reducible refine (stencillaw0_Num.calls 1503 t180 _ A19.out).mono ?_); rintro e w' ⟨rfl, ⟨nd, rfl⟩⟩) | (go_at_call 35; (with_reducible refine (stencillaw0_Num.calls 1504 t181 _ A21.out).mono ?_); rintro e w' ⟨rfl, ⟨nd, rfl⟩⟩) | (go_at_call 35; (with_reducible refine (stencillaw0_Num.calls 1600 t182 _ A23.out).mono ?_); rintro e w' ⟨rfl, ⟨nd, rfl⟩⟩))
                          go_ret
                          exact ⟨by first | rfl | (simp; done) | (simp [*]; done), by repeat (first | exact Drawn0.refl _ | apply Drawn0.step)⟩
                      · rw [if_neg c22] at H
                        have c22b0 : (t181 == 1504) = false := beq_eq_false_iff_ne.mpr c22
                        have c22b1 : (t181 != 1504) = true := bne_iff_ne.mpr c22
                        obtain rfl := Option.some.inj H
                        go_enter Try.func13, Try.ntmps13
                        go_wp2_with (first | ((with_reducible refine gate_callee (f := 35) rfl ?_); refine goesL_ (some 1) rfl rfl Try.func35 (by kernel_rfl) rfl #[.int .i64 1407] rfl (by (try simp only [List.map_toArray, List.map_cons, List.map_nil]); first | done | rfl | (simp only [List.length_drop, List.length_take]; rfl)) ?_; (with_reducible refine (stencillaw0_Num.calls 1407 t171 _ A1.out).mono ?_); rintro e w' ⟨rfl, ⟨nd, rfl⟩⟩; refine ⟨_, rfl, ?_⟩) | (go_at_call 35; (with_reducible refine (stencillaw0_Num.calls 1408 t172 _ A3.out).mono ?_); rintro e w' ⟨rfl, ⟨nd, rfl⟩⟩) | (go_at_call 35; (with_reducible refine (stencillaw0_Num.calls 1409 t173 _ A5.out).mono ?_); rintro e w' ⟨rfl, ⟨nd, rfl⟩⟩) | (go_at_call 35; (with_reducible refine (stencillaw0_Num.calls 1410 t174 _ A7.out).mono ?_); rintro e w' ⟨rfl, ⟨nd, rfl⟩⟩) | (go_at_call 35; (with_reducible refine (stencillaw0_Num.calls 1411 t175 _ A9.out).mono ?_); rintro e w' ⟨rfl, ⟨nd, rfl⟩⟩) | (go_at_call 35; (with_reducible refine (stencillaw0_Num.calls 1412 t176 _ A11.out).mono ?_); rintro e w' ⟨rfl, ⟨nd, rfl⟩⟩) | (go_at_call 35; (with_reducible refine (stencillaw0_Num.calls 1500 t177 _ A13.out).mono ?_); rintro e w' ⟨rfl, ⟨nd, rfl⟩⟩) | (go_at_call 35; (with_reducible refine (stencillaw0_Num.calls 1501 t178 _ A15.out).mono ?_); rintro e w' ⟨rfl, ⟨nd, rfl⟩⟩) | (go_at_call 35; (with_reducible refine (stencillaw0_Num.calls 1502 t179 _ A17.out).mono ?_); rintro e w' ⟨rfl, ⟨nd, rfl⟩⟩) | (go_at_call 35; (with_reducible refine (stencillaw0_Num.calls 1503 t180 _ A19.out).mono ?_); rintro e w' ⟨rfl, ⟨nd, rfl⟩⟩) | (go_at_call 35; (with_reducible refine (stencillaw0_Num.calls 1504 t181 _ A21.out).mono ?_); rintro e w' ⟨rfl, ⟨nd, rfl⟩⟩))
                        go_ret
                        exact ⟨by first | rfl | (simp; done) | (simp [*]; done), by repeat (first | exact Drawn0.refl _ | apply Drawn0.step)⟩
                    · rw [if_neg c20] at H
                      have c20b0 : (t180 == 1503) = false := beq_eq_false_iff_ne.mpr c20
                      have c20b1 : (t180 != 1503) = true := bne_iff_ne.mpr c20
                      obtain rfl := Option.some.inj H
                      go_enter Try.func13, Try.ntmps13
                      go_wp2_with (first | ((with_reducible refine gate_callee (f := 35) rfl ?_); refine goesL_ (some 1) rfl rfl Try.func35 (by kernel_rfl) rfl #[.int .i64 1407] rfl (by (try simp only [List.map_toArray, List.map_cons, List.map_nil]); first | done | rfl | (simp only [List.length_drop, List.length_take]; rfl)) ?_; (with_reducible refine (stencillaw0_Num.calls 1407 t171 _ A1.out).mono ?_); rintro e w' ⟨rfl, ⟨nd, rfl⟩⟩; refine ⟨_, rfl, ?_⟩) | (go_at_call 35; (with_reducible refine (stencillaw0_Num.calls 1408 t172 _ A3.out).mono ?_); rintro e w' ⟨rfl, ⟨nd, rfl⟩⟩) | (go_at_call 35; (with_reducible refine (stencillaw0_Num.calls 1409 t173 _ A5.out).mono ?_); rintro e w' ⟨rfl, ⟨nd, rfl⟩⟩) | (go_at_call 35; (with_reducible refine (stencillaw0_Num.calls 1410 t174 _ A7.out).mono ?_); rintro e w' ⟨rfl, ⟨nd, rfl⟩⟩) | (go_at_call 35; (with_reducible refine (stencillaw0_Num.calls 1411 t175 _ A9.out).mono ?_); rintro e w' ⟨rfl, ⟨nd, rfl⟩⟩) | (go_at_call 35; (with_reducible refine (stencillaw0_Num.calls 1412 t176 _ A11.out).mono ?_); rintro e w' ⟨rfl, ⟨nd, rfl⟩⟩) | (go_at_call 35; (with_reducible refine (stencillaw0_Num.calls 1500 t177 _ A13.out).mono ?_); rintro e w' ⟨rfl, ⟨nd, rfl⟩⟩) | (go_at_call 35; (with_reducible refine (stencillaw0_Num.calls 1501 t178 _ A15.out).mono ?_); rintro e w' ⟨rfl, ⟨nd, rfl⟩⟩) | (go_at_call 35; (with_reducible refine (stencillaw0_Num.calls 1502 t179 _ A17.out).mono ?_); rintro e w' ⟨rfl, ⟨nd, rfl⟩⟩) | (go_at_call 35; (with_reducible refine (stencillaw0_Num.calls 1503 t180 _ A19.out).mono ?_); rintro e w' ⟨rfl, ⟨nd, rfl⟩⟩))
                      go_ret
                      exact ⟨by first | rfl | (simp; done) | (simp [*]; done), by repeat (first | exact Drawn0.refl _ | apply Drawn0.step)⟩
                  · rw [if_neg c18] at H
                    have c18b0 : (t179 == 1502) = false := beq_eq_false_iff_ne.mpr c18
                    have c18b1 : (t179 != 1502) = true := bne_iff_ne.mpr c18
                    obtain rfl := Option.some.inj H
                    go_enter Try.func13, Try.ntmps13
                    go_wp2_with (first | ((with_reducible refine gate_callee (f := 35) rfl ?_); refine goesL_ (some 1) rfl rfl Try.func35 (by kernel_rfl) rfl #[.int .i64 1407] rfl (by (try simp only [List.map_toArray, List.map_cons, List.map_nil]); first | done | rfl | (simp only [List.length_drop, List.length_take]; rfl)) ?_; (with_reducible refine (stencillaw0_Num.calls 1407 t171 _ A1.out).mono ?_); rintro e w' ⟨rfl, ⟨nd, rfl⟩⟩; refine ⟨_, rfl, ?_⟩) | (go_at_call 35; (with_reducible refine (stencillaw0_Num.calls 1408 t172 _ A3.out).mono ?_); rintro e w' ⟨rfl, ⟨nd, rfl⟩⟩) | (go_at_call 35; (with_reducible refine (stencillaw0_Num.calls 1409 t173 _ A5.out).mono ?_); rintro e w' ⟨rfl, ⟨nd, rfl⟩⟩) | (go_at_call 35; (with_reducible refine (stencillaw0_Num.calls 1410 t174 _ A7.out).mono ?_); rintro e w' ⟨rfl, ⟨nd, rfl⟩⟩) | (go_at_call 35; (with_reducible refine (stencillaw0_Num.calls 1411 t175 _ A9.out).mono ?_); rintro e w' ⟨rfl, ⟨nd, rfl⟩⟩) | (go_at_call 35; (with_reducible refine (stencillaw0_Num.calls 1412 t176 _ A11.out).mono ?_); rintro e w' ⟨rfl, ⟨nd, rfl⟩⟩) | (go_at_call 35; (with_reducible refine (stencillaw0_Num.calls 1500 t177 _ A13.out).mono ?_); rintro e w' ⟨rfl, ⟨nd, rfl⟩⟩) | (go_at_call 35; (with_reducible refine (stencillaw0_Num.calls 1501 t178 _ A15.out).mono ?_); rintro e w' ⟨rfl, ⟨nd, rfl⟩⟩) | (go_at_call 35; (with_reducible refine (stencillaw0_Num.calls 1502 t179 _ A17.out).mono ?_); rintro e w' ⟨rfl, ⟨nd, rfl⟩⟩))
                    go_ret
                    exact ⟨by first | rfl | (simp; done) | (simp [*]; done), by repeat (first | exact Drawn0.refl _ | apply Drawn0.step)⟩
                · rw [if_neg c16] at H
                  have c16b0 : (t178 == 1501) = false := beq_eq_false_iff_ne.mpr c16
                  have c16b1 : (t178 != 1501) = true := bne_iff_ne.mpr c16
                  obtain rfl := Option.some.inj H
                  go_enter Try.func13, Try.ntmps13
                  go_wp2_with (first | ((with_reducible refine gate_callee (f := 35) rfl ?_); refine goesL_ (some 1) rfl rfl Try.func35 (by kernel_rfl) rfl #[.int .i64 1407] rfl (by (try simp only [List.map_toArray, List.map_cons, List.map_nil]); first | done | rfl | (simp only [List.length_drop, List.length_take]; rfl)) ?_; (with_reducible refine (stencillaw0_Num.calls 1407 t171 _ A1.out).mono ?_); rintro e w' ⟨rfl, ⟨nd, rfl⟩⟩; refine ⟨_, rfl, ?_⟩) | (go_at_call 35; (with_reducible refine (stencillaw0_Num.calls 1408 t172 _ A3.out).mono ?_); rintro e w' ⟨rfl, ⟨nd, rfl⟩⟩) | (go_at_call 35; (with_reducible refine (stencillaw0_Num.calls 1409 t173 _ A5.out).mono ?_); rintro e w' ⟨rfl, ⟨nd, rfl⟩⟩) | (go_at_call 35; (with_reducible refine (stencillaw0_Num.calls 1410 t174 _ A7.out).mono ?_); rintro e w' ⟨rfl, ⟨nd, rfl⟩⟩) | (go_at_call 35; (with_reducible refine (stencillaw0_Num.calls 1411 t175 _ A9.out).mono ?_); rintro e w' ⟨rfl, ⟨nd, rfl⟩⟩) | (go_at_call 35; (with_reducible refine (stencillaw0_Num.calls 1412 t176 _ A11.out).mono ?_); rintro e w' ⟨rfl, ⟨nd, rfl⟩⟩) | (go_at_call 35; (with_reducible refine (stencillaw0_Num.calls 1500 t177 _ A13.out).mono ?_); rintro e w' ⟨rfl, ⟨nd, rfl⟩⟩) | (go_at_call 35; (with_reducible refine (stencillaw0_Num.calls 1501 t178 _ A15.out).mono ?_); rintro e w' ⟨rfl, ⟨nd, rfl⟩⟩))
                  go_ret
                  exact ⟨by first | rfl | (simp; done) | (simp [*]; done), by repeat (first | exact Drawn0.refl _ | apply Drawn0.step)⟩
              · rw [if_neg c14] at H
                have c14b0 : (t177 == 1500) = false := beq_eq_false_iff_ne.mpr c14
                have c14b1 : (t177 != 1500) = true := bne_iff_ne.mpr c14
                obtain rfl := Option.some.inj H
                go_enter Try.func13, Try.ntmps13
                go_wp2_with (first | ((with_reducible refine gate_callee (f := 35) rfl ?_); refine goesL_ (some 1) rfl rfl Try.func35 (by kernel_rfl) rfl #[.int .i64 1407] rfl (by (try simp only [List.map_toArray, List.map_cons, List.map_nil]); first | done | rfl | (simp only [List.length_drop, List.length_take]; rfl)) ?_; (with_reducible refine (stencillaw0_Num.calls 1407 t171 _ A1.out).mono ?_); rintro e w' ⟨rfl, ⟨nd, rfl⟩⟩; refine ⟨_, rfl, ?_⟩) | (go_at_call 35; (with_reducible refine (stencillaw0_Num.calls 1408 t172 _ A3.out).mono ?_); rintro e w' ⟨rfl, ⟨nd, rfl⟩⟩) | (go_at_call 35; (with_reducible refine (stencillaw0_Num.calls 1409 t173 _ A5.out).mono ?_); rintro e w' ⟨rfl, ⟨nd, rfl⟩⟩) | (go_at_call 35; (with_reducible refine (stencillaw0_Num.calls 1410 t174 _ A7.out).mono ?_); rintro e w' ⟨rfl, ⟨nd, rfl⟩⟩) | (go_at_call 35; (with_reducible refine (stencillaw0_Num.calls 1411 t175 _ A9.out).mono ?_); rintro e w' ⟨rfl, ⟨nd, rfl⟩⟩) | (go_at_call 35; (with_reducible refine (stencillaw0_Num.calls 1412 t176 _ A11.out).mono ?_); rintro e w' ⟨rfl, ⟨nd, rfl⟩⟩) | (go_at_call 35; (with_reducible refine (stencillaw0_Num.calls 1500 t177 _ A13.out).mono ?_); rintro e w' ⟨rfl, ⟨nd, rfl⟩⟩))
                go_ret
                exact ⟨by first | rfl | (simp; done) | (simp [*]; done), by repeat (first | exact Drawn0.refl _ | apply Drawn0.step)⟩
            · rw [if_neg c12] at H
              have c12b0 : (t176 == 1412) = false := beq_eq_false_iff_ne.mpr c12
              have c12b1 : (t176 != 1412) = true := bne_iff_ne.mpr c12
              obtain rfl := Option.some.inj H
              go_enter Try.func13, Try.ntmps13
              go_wp2_with (first | ((with_reducible refine gate_callee (f := 35) rfl ?_); refine goesL_ (some 1) rfl rfl Try.func35 (by kernel_rfl) rfl #[.int .i64 1407] rfl (by (try simp only [List.map_toArray, List.map_cons, List.map_nil]); first | done | rfl | (simp only [List.length_drop, List.length_take]; rfl)) ?_; (with_reducible refine (stencillaw0_Num.calls 1407 t171 _ A1.out).mono ?_); rintro e w' ⟨rfl, ⟨nd, rfl⟩⟩; refine ⟨_, rfl, ?_⟩) | (go_at_call 35; (with_reducible refine (stencillaw0_Num.calls 1408 t172 _ A3.out).mono ?_); rintro e w' ⟨rfl, ⟨nd, rfl⟩⟩) | (go_at_call 35; (with_reducible refine (stencillaw0_Num.calls 1409 t173 _ A5.out).mono ?_); rintro e w' ⟨rfl, ⟨nd, rfl⟩⟩) | (go_at_call 35; (with_reducible refine (stencillaw0_Num.calls 1410 t174 _ A7.out).mono ?_); rintro e w' ⟨rfl, ⟨nd, rfl⟩⟩) | (go_at_call 35; (with_reducible refine (stencillaw0_Num.calls 1411 t175 _ A9.out).mono ?_); rintro e w' ⟨rfl, ⟨nd, rfl⟩⟩) | (go_at_call 35; (with_reducible refine (stencillaw0_Num.calls 1412 t176 _ A11.out).mono ?_); rintro e w' ⟨rfl, ⟨nd, rfl⟩⟩))
              go_ret
              exact ⟨by first | rfl | (simp; done) | (simp [*]; done), by repeat (first | exact Drawn0.refl _ | apply Drawn0.step)⟩
          · rw [if_neg c10] at H
            have c10b0 : (t175 == 1411) = false := beq_eq_false_iff_ne.mpr c10
            have c10b1 : (t175 != 1411) = true := bne_iff_ne.mpr c10
            obtain rfl := Option.some.inj H
            go_enter Try.func13, Try.ntmps13
            go_wp2_with (first | ((with_reducible refine gate_callee (f := 35) rfl ?_); refine goesL_ (some 1) rfl rfl Try.func35 (by kernel_rfl) rfl #[.int .i64 1407] rfl (by (try simp only [List.map_toArray, List.map_cons, List.map_nil]); first | done | rfl | (simp only [List.length_drop, List.length_take]; rfl)) ?_; (with_reducible refine (stencillaw0_Num.calls 1407 t171 _ A1.out).mono ?_); rintro e w' ⟨rfl, ⟨nd, rfl⟩⟩; refine ⟨_, rfl, ?_⟩) | (go_at_call 35; (with_reducible refine (stencillaw0_Num.calls 1408 t172 _ A3.out).mono ?_); rintro e w' ⟨rfl, ⟨nd, rfl⟩⟩) | (go_at_call 35; (with_reducible refine (stencillaw0_Num.calls 1409 t173 _ A5.out).mono ?_); rintro e w' ⟨rfl, ⟨nd, rfl⟩⟩) | (go_at_call 35; (with_reducible refine (stencillaw0_Num.calls 1410 t174 _ A7.out).mono ?_); rintro e w' ⟨rfl, ⟨nd, rfl⟩⟩) | (go_at_call 35; (with_reducible refine (stencillaw0_Num.calls 1411 t175 _ A9.out).mono ?_); rintro e w' ⟨rfl, ⟨nd, rfl⟩⟩))
            go_ret
            exact ⟨by first | rfl | (simp; done) | (simp [*]; done), by repeat (first | exact Drawn0.refl _ | apply Drawn0.step)⟩
        · rw [if_neg c8] at H
          have c8b0 : (t174 == 1410) = false := beq_eq_false_iff_ne.mpr c8
          have c8b1 : (t174 != 1410) = true := bne_iff_ne.mpr c8
          obtain rfl := Option.some.inj H
          go_enter Try.func13, Try.ntmps13
          go_wp2_with (first | ((with_reducible refine gate_callee (f := 35) rfl ?_); refine goesL_ (some 1) rfl rfl Try.func35 (by kernel_rfl) rfl #[.int .i64 1407] rfl (by (try simp only [List.map_toArray, List.map_cons, List.map_nil]); first | done | rfl | (simp only [List.length_drop, List.length_take]; rfl)) ?_; (with_reducible refine (stencillaw0_Num.calls 1407 t171 _ A1.out).mono ?_); rintro e w' ⟨rfl, ⟨nd, rfl⟩⟩; refine ⟨_, rfl, ?_⟩) | (go_at_call 35; (with_reducible refine (stencillaw0_Num.calls 1408 t172 _ A3.out).mono ?_); rintro e w' ⟨rfl, ⟨nd, rfl⟩⟩) | (go_at_call 35; (with_reducible refine (stencillaw0_Num.calls 1409 t173 _ A5.out).mono ?_); rintro e w' ⟨rfl, ⟨nd, rfl⟩⟩) | (go_at_call 35; (with_reducible refine (stencillaw0_Num.calls 1410 t174 _ A7.out).mono ?_); rintro e w' ⟨rfl, ⟨nd, rfl⟩⟩))
          go_ret
          exact ⟨by first | rfl | (simp; done) | (simp [*]; done), by repeat (first | exact Drawn0.refl _ | apply Drawn0.step)⟩
      · rw [if_neg c6] at H
        have c6b0 : (t173 == 1409) = false := beq_eq_false_iff_ne.mpr c6
        have c6b1 : (t173 != 1409) = true := bne_iff_ne.mpr c6
        obtain rfl := Option.some.inj H
        go_enter Try.func13, Try.ntmps13
        go_wp2_with (first | ((with_reducible refine gate_callee (f := 35) rfl ?_); refine goesL_ (some 1) rfl rfl Try.func35 (by kernel_rfl) rfl #[.int .i64 1407] rfl (by (try simp only [List.map_toArray, List.map_cons, List.map_nil]); first | done | rfl | (simp only [List.length_drop, List.length_take]; rfl)) ?_; (with_reducible refine (stencillaw0_Num.calls 1407 t171 _ A1.out).mono ?_); rintro e w' ⟨rfl, ⟨nd, rfl⟩⟩; refine ⟨_, rfl, ?_⟩) | (go_at_call 35; (with_reducible refine (stencillaw0_Num.calls 1408 t172 _ A3.out).mono ?_); rintro e w' ⟨rfl, ⟨nd, rfl⟩⟩) | (go_at_call 35; (with_reducible refine (stencillaw0_Num.calls 1409 t173 _ A5.out).mono ?_); rintro e w' ⟨rfl, ⟨nd, rfl⟩⟩))
        go_ret
        exact ⟨by first | rfl | (simp; done) | (simp [*]; done), by repeat (first | exact Drawn0.refl _ | apply Drawn0.step)⟩
    · rw [if_neg c4] at H
      have c4b0 : (t172 == 1408) = false := beq_eq_false_iff_ne.mpr c4
      have c4b1 : (t172 != 1408) = true := bne_iff_ne.mpr c4
      obtain rfl := Option.some.inj H
      go_enter Try.func13, Try.ntmps13
      go_wp2_with (first | ((with_reducible refine gate_callee (f := 35) rfl ?_); refine goesL_ (some 1) rfl rfl Try.func35 (by kernel_rfl) rfl #[.int .i64 1407] rfl (by (try simp only [List.map_toArray, List.map_cons, List.map_nil]); first | done | rfl | (simp only [List.length_drop, List.length_take]; rfl)) ?_; (with_reducible refine (stencillaw0_Num.calls 1407 t171 _ A1.out).mono ?_); rintro e w' ⟨rfl, ⟨nd, rfl⟩⟩; refine ⟨_, rfl, ?_⟩) | (go_at_call 35; (with_reducible refine (stencillaw0_Num.calls 1408 t172 _ A3.out).mono ?_); rintro e w' ⟨rfl, ⟨nd, rfl⟩⟩))
      go_ret
      exact ⟨by first | rfl | (simp; done) | (simp [*]; done), by repeat (first | exact Drawn0.refl _ | apply Drawn0.step)⟩
  · rw [if_neg c2] at H
    have c2b0 : (t171 == 1407) = false := beq_eq_false_iff_ne.mpr c2
    have c2b1 : (t171 != 1407) = true := bne_iff_ne.mpr c2
    obtain rfl := Option.some.inj H
    go_enter Try.func13, Try.ntmps13
    go_wp2_with (first | ((with_reducible refine gate_callee (f := 35) rfl ?_); refine goesL_ (some 1) rfl rfl Try.func35 (by kernel_rfl) rfl #[.int .i64 1407] rfl (by (try simp only [List.map_toArray, List.map_cons, List.map_nil]); first | done | rfl | (simp only [List.length_drop, List.length_take]; rfl)) ?_; (with_reducible refine (stencillaw0_Num.calls 1407 t171 _ A1.out).mono ?_); rintro e w' ⟨rfl, ⟨nd, rfl⟩⟩; refine ⟨_, rfl, ?_⟩))
    go_ret
    exact ⟨by first | rfl | (simp; done) | (simp [*]; done), by repeat (first | exact Drawn0.refl _ | apply Drawn0.step)⟩

end Go.Proofs.Ytcphoefiiejlhaa.PStencilNames
