-- PRINTED BY print.sh 35421559b90ae4d0a3588c463048766b98c2df88dd9212a6774a882060cdf62d: not written by this session
import Derived.Test.YtcphoefiiejlhaaPStencilNamesx0
import Derived.Test.YtcphoefiiejlhaaPStencilNamesx1
namespace Go.Proofs.Ytcphoefiiejlhaa.PStencilNames
open Go.RowKit Go.Proofs.YtcphoefiiejlhaaW.PrintWords Go.Proofs.YtcphoefiiejlhaaW.PrintLast Go.Proofs.YtcphoefiiejlhaaW.PrintMore
attribute [local go_sem] max2_int min2_int max_two min_two max_three min_three max_four min_four   -- for this text's walks alone
set_option linter.unusedVariables false
set_option linter.unusedSimpArgs false

/-! ### stencillaw0_errors7: function 14 -/
def stencillaw0_errors7.f  : Option (Bool) := (stencillaw0_Num.f 1900).bind fun t185 => (if t185 = 1900 then ((stencillaw0_Num.f 1901).bind fun t186 => (if t186 = 1901 then ((stencillaw0_Num.f 1902).bind fun t187 => (if t187 = 1902 then ((stencillaw0_Num.f 1903).bind fun t188 => (if t188 = 1903 then ((stencillaw0_Num.f 2000).bind fun t189 => (if t189 = 2000 then ((stencillaw0_Num.f 2001).bind fun t190 => (if t190 = 2001 then ((stencillaw0_Num.f 2002).bind fun t191 => (if t191 = 2002 then ((stencillaw0_Num.f 2003).bind fun t192 => (if t192 = 2003 then ((stencillaw0_Num.f 2004).bind fun t193 => (if t193 = 2004 then ((stencillaw0_Num.f 2100).bind fun t194 => (if t194 = 2100 then ((stencillaw0_Num.f 2101).bind fun t195 => (if t195 = 2101 then ((stencillaw0_Num.f 2200).bind fun t196 => (if t196 = 2200 then ((stencillaw0_Num.f 2201).bind fun t197 => (if t197 = 2201 then ((stencillaw0_Num.f 2202).bind fun t198 => (some (t198 == 2202))) else (some false))) else (some false))) else (some false))) else (some false))) else (some false))) else (some false))) else (some false))) else (some false))) else (some false))) else (some false))) else (some false))) else (some false))) else (some false))
set_option maxHeartbeats 8000000 in
set_option maxRecDepth 100000 in
theorem stencillaw0_errors7.calls  (r : Bool) (w : World) (h : stencillaw0_errors7.f  = some r) :
    Calls Try.prog 14 #[] w fun e w' => e = .returned (.bool r) ∧ Drawn0 w w' := by
  have H : ((stencillaw0_Num.f 1900).bind fun t185 => (if t185 = 1900 then ((stencillaw0_Num.f 1901).bind fun t186 => (if t186 = 1901 then ((stencillaw0_Num.f 1902).bind fun t187 => (if t187 = 1902 then ((stencillaw0_Num.f 1903).bind fun t188 => (if t188 = 1903 then ((stencillaw0_Num.f 2000).bind fun t189 => (if t189 = 2000 then ((stencillaw0_Num.f 2001).bind fun t190 => (if t190 = 2001 then ((stencillaw0_Num.f 2002).bind fun t191 => (if t191 = 2002 then ((stencillaw0_Num.f 2003).bind fun t192 => (if t192 = 2003 then ((stencillaw0_Num.f 2004).bind fun t193 => (if t193 = 2004 then ((stencillaw0_Num.f 2100).bind fun t194 => (if t194 = 2100 then ((stencillaw0_Num.f 2101).bind fun t195 => (if t195 = 2101 then ((stencillaw0_Num.f 2200).bind fun t196 => (if t196 = 2200 then ((stencillaw0_Num.f 2201).bind fun t197 => (if t197 = 2201 then ((stencillaw0_Num.f 2202).bind fun t198 => (some (t198 == 2202))) else (some false))) else (some false))) else (some false))) else (some false))) else (some false))) else (some false))) else (some false))) else (some false))) else (some false))) else (some false))) else (some false))) else (some false))) else (some false))) = some r := h
  clear h
  replace H := Option.bind_eq_some_iff.mp H
  obtain ⟨t185, A10, H⟩ := H
  replace H : (if t185 = 1900 then ((stencillaw0_Num.f 1901).bind fun t186 => (if t186 = 1901 then ((stencillaw0_Num.f 1902).bind fun t187 => (if t187 = 1902 then ((stencillaw0_Num.f 1903).bind fun t188 => (if t188 = 1903 then ((stencillaw0_Num.f 2000).bind fun t189 => (if t189 = 2000 then ((stencillaw0_Num.f 2001).bind fun t190 => (if t190 = 2001 then ((stencillaw0_Num.f 2002).bind fun t191 => (if t191 = 2002 then ((stencillaw0_Num.f 2003).bind fun t192 => (if t192 = 2003 then ((stencillaw0_Num.f 2004).bind fun t193 => (if t193 = 2004 then ((stencillaw0_Num.f 2100).bind fun t194 => (if t194 = 2100 then ((stencillaw0_Num.f 2101).bind fun t195 => (if t195 = 2101 then ((stencillaw0_Num.f 2200).bind fun t196 => (if t196 = 2200 then ((stencillaw0_Num.f 2201).bind fun t197 => (if t197 = 2201 then ((stencillaw0_Num.f 2202).bind fun t198 => (some (t198 == 2202))) else (some false))) else (some false))) else (some false))) else (some false))) else (some false))) else (some false))) else (some false))) else (some false))) else (some false))) else (some false))) else (some false))) else (some false))) else (some false)) = some r := H
  have A1 := Aside0.mk A10
  clear A10
  by_cases c2 : t185 = 1900
  · rw [if_pos c2] at H
    have c2b0 : (t185 == 1900) = true := beq_iff_eq.mpr c2
    have c2b1 : (t185 != 1900) = false := bne_eq_false_iff_eq.mpr c2
    clear c2
    replace H := Option.bind_eq_some_iff.mp H
    obtain ⟨t186, A30, H⟩ := H
    replace H : (if t186 = 1901 then ((stencillaw0_Num.f 1902).bind fun t187 => (if t187 = 1902 then ((stencillaw0_Num.f 1903).bind fun t188 => (if t188 = 1903 then ((stencillaw0_Num.f 2000).bind fun t189 => (if t189 = 2000 then ((stencillaw0_Num.f 2001).bind fun t190 => (if t190 = 2001 then ((stencillaw0_Num.f 2002).bind fun t191 => (if t191 = 2002 then ((stencillaw0_Num.f 2003).bind fun t192 => (if t192 = 2003 then ((stencillaw0_Num.f 2004).bind fun t193 => (if t193 = 2004 then ((stencillaw0_Num.f 2100).bind fun t194 => (if t194 = 2100 then ((stencillaw0_Num.f 2101).bind fun t195 => (if t195 = 2101 then ((stencillaw0_Num.f 2200).bind fun t196 => (if t196 = 2200 then ((stencillaw0_Num.f 2201).bind fun t197 => (if t197 = 2201 then ((stencillaw0_Num.f 2202).bind fun t198 => (some (t198 == 2202))) else (some false))) else (some false))) else (some false))) else (some false))) else (some false))) else (some false))) else (some false))) else (some false))) else (some false))) else (some false))) else (some false))) else (some false)) = some r := H
    have A3 := Aside0.mk A30
    clear A30
    by_cases c4 : t186 = 1901
    · rw [if_pos c4] at H
      have c4b0 : (t186 == 1901) = true := beq_iff_eq.mpr c4
      have c4b1 : (t186 != 1901) = false := bne_eq_false_iff_eq.mpr c4
      clear c4
      replace H := Option.bind_eq_some_iff.mp H
      obtain ⟨t187, A50, H⟩ := H
      replace H : (if t187 = 1902 then ((stencillaw0_Num.f 1903).bind fun t188 => (if t188 = 1903 then ((stencillaw0_Num.f 2000).bind fun t189 => (if t189 = 2000 then ((stencillaw0_Num.f 2001).bind fun t190 => (if t190 = 2001 then ((stencillaw0_Num.f 2002).bind fun t191 => (if t191 = 2002 then ((stencillaw0_Num.f 2003).bind fun t192 => (if t192 = 2003 then ((stencillaw0_Num.f 2004).bind fun t193 => (if t193 = 2004 then ((stencillaw0_Num.f 2100).bind fun t194 => (if t194 = 2100 then ((stencillaw0_Num.f 2101).bind fun t195 => (if t195 = 2101 then ((stencillaw0_Num.f 2200).bind fun t196 => (if t196 = 2200 then ((stencillaw0_Num.f 2201).bind fun t197 => (if t197 = 2201 then ((stencillaw0_Num.f 2202).bind fun t198 => (some (t198 == 2202))) else (some false))) else (some false))) else (some false))) else (some false))) else (some false))) else (some false))) else (some false))) else (some false))) else (some false))) else (some false))) else (some false)) = some r := H
      have A5 := Aside0.mk A50
      clear A50
      by_cases c6 : t187 = 1902
      · rw [if_pos c6] at H
        have c6b0 : (t187 == 1902) = true := beq_iff_eq.mpr c6
        have c6b1 : (t187 != 1902) = false := bne_eq_false_iff_eq.mpr c6
        clear c6
        replace H := Option.bind_eq_some_iff.mp H
        obtain ⟨t188, A70, H⟩ := H
        replace H : (if t188 = 1903 then ((stencillaw0_Num.f 2000).bind fun t189 => (if t189 = 2000 then ((stencillaw0_Num.f 2001).bind fun t190 => (if t190 = 2001 then ((stencillaw0_Num.f 2002).bind fun t191 => (if t191 = 2002 then ((stencillaw0_Num.f 2003).bind fun t192 => (if t192 = 2003 then ((stencillaw0_Num.f 2004).bind fun t193 => (if t193 = 2004 then ((stencillaw0_Num.f 2100).bind fun t194 => (if t194 = 2100 then ((stencillaw0_Num.f 2101).bind fun t195 => (if t195 = 2101 then ((stencillaw0_Num.f 2200).bind fun t196 => (if t196 = 2200 then ((stencillaw0_Num.f 2201).bind fun t197 => (if t197 = 2201 then ((stencillaw0_Num.f 2202).bind fun t198 => (some (t198 == 2202))) else (some false))) else (some false))) else (some false))) else (some false))) else (some false))) else (some false))) else (some false))) else (some false))) else (some false))) else (some false)) = some r := H
        have A7 := Aside0.mk A70
        clear A70
        by_cases c8 : t188 = 1903
        · rw [if_pos c8] at H
          have c8b0 : (t188 == 1903) = true := beq_iff_eq.mpr c8
          have c8b1 : (t188 != 1903) = false := bne_eq_false_iff_eq.mpr c8
          clear c8
          replace H := Option.bind_eq_some_iff.mp H
          obtain ⟨t189, A90, H⟩ := H
          replace H : (if t189 = 2000 then ((stencillaw0_Num.f 2001).bind fun t190 => (if t190 = 2001 then ((stencillaw0_Num.f 2002).bind fun t191 => (if t191 = 2002 then ((stencillaw0_Num.f 2003).bind fun t192 => (if t192 = 2003 then ((stencillaw0_Num.f 2004).bind fun t193 => (if t193 = 2004 then ((stencillaw0_Num.f 2100).bind fun t194 => (if t194 = 2100 then ((stencillaw0_Num.f 2101).bind fun t195 => (if t195 = 2101 then ((stencillaw0_Num.f 2200).bind fun t196 => (if t196 = 2200 then ((stencillaw0_Num.f 2201).bind fun t197 => (if t197 = 2201 then ((stencillaw0_Num.f 2202).bind fun t198 => (some (t198 == 2202))) else (some false))) else (some false))) else (some false))) else (some false))) else (some false))) else (some false))) else (some false))) else (some false))) else (some false)) = some r := H
          have A9 := Aside0.mk A90
          clear A90
          by_cases c10 : t189 = 2000
          · rw [if_pos c10] at H
            have c10b0 : (t189 == 2000) = true := beq_iff_eq.mpr c10
            have c10b1 : (t189 != 2000) = false := bne_eq_false_iff_eq.mpr c10
            clear c10
            replace H := Option.bind_eq_some_iff.mp H
            obtain ⟨t190, A110, H⟩ := H
            replace H : (if t190 = 2001 then ((stencillaw0_Num.f 2002).bind fun t191 => (if t191 = 2002 then ((stencillaw0_Num.f 2003).bind fun t192 => (if t192 = 2003 then ((stencillaw0_Num.f 2004).bind fun t193 => (if t193 = 2004 then ((stencillaw0_Num.f 2100).bind fun t194 => (if t194 = 2100 then ((stencillaw0_Num.f 2101).bind fun t195 => (if t195 = 2101 then ((stencillaw0_Num.f 2200).bind fun t196 => (if t196 = 2200 then ((stencillaw0_Num.f 2201).bind fun t197 => (if t197 = 2201 then ((stencillaw0_Num.f 2202).bind fun t198 => (some (t198 == 2202))) else (some false))) else (some false))) else (some false))) else (some false))) else (some false))) else (some false))) else (some false))) else (some false)) = some r := H
            have A11 := Aside0.mk A110
            clear A110
            by_cases c12 : t190 = 2001
            · rw [if_pos c12] at H
              have c12b0 : (t190 == 2001) = true := beq_iff_eq.mpr c12
              have c12b1 : (t190 != 2001) = false := bne_eq_false_iff_eq.mpr c12
              clear c12
              replace H := Option.bind_eq_some_iff.mp H
              obtain ⟨t191, A130, H⟩ := H
              replace H : (if t191 = 2002 then ((stencillaw0_Num.f 2003).bind fun t192 => (if t192 = 2003 then ((stencillaw0_Num.f 2004).bind fun t193 => (if t193 = 2004 then ((stencillaw0_Num.f 2100).bind fun t194 => (if t194 = 2100 then ((stencillaw0_Num.f 2101).bind fun t195 => (if t195 = 2101 then ((stencillaw0_Num.f 2200).bind fun t196 => (if t196 = 2200 then ((stencillaw0_Num.f 2201).bind fun t197 => (if t197 = 2201 then ((stencillaw0_Num.f 2202).bind fun t198 => (some (t198 == 2202))) else (some false))) else (some false))) else (some false))) else (some false))) else (some false))) else (some false))) else (some false)) = some r := H
              have A13 := Aside0.mk A130
              clear A130
              by_cases c14 : t191 = 2002
              · rw [if_pos c14] at H
                have c14b0 : (t191 == 2002) = true := beq_iff_eq.mpr c14
                have c14b1 : (t191 != 2002) = false := bne_eq_false_iff_eq.mpr c14
                clear c14
                replace H := Option.bind_eq_some_iff.mp H
                obtain ⟨t192, A150, H⟩ := H
                replace H : (if t192 = 2003 then ((stencillaw0_Num.f 2004).bind fun t193 => (if t193 = 2004 then ((stencillaw0_Num.f 2100).bind fun t194 => (if t194 = 2100 then ((stencillaw0_Num.f 2101).bind fun t195 => (if t195 = 2101 then ((stencillaw0_Num.f 2200).bind fun t196 => (if t196 = 2200 then ((stencillaw0_Num.f 2201).bind fun t197 => (if t197 = 2201 then ((stencillaw0_Num.f 2202).bind fun t198 => (some (t198 == 2202))) else (some false))) else (some false))) else (some false))) else (some false))) else (some false))) else (some false)) = some r := H
                have A15 := Aside0.mk A150
                clear A150
                by_cases c16 : t192 = 2003
                · rw [if_pos c16] at H
                  have c16b0 : (t192 == 2003) = true := beq_iff_eq.mpr c16
                  have c16b1 : (t192 != 2003) = false := bne_eq_false_iff_eq.mpr c16
                  clear c16
                  replace H := Option.bind_eq_some_iff.mp H
                  obtain ⟨t193, A170, H⟩ := H
                  replace H : (if t193 = 2004 then ((stencillaw0_Num.f 2100).bind fun t194 => (if t194 = 2100 then ((stencillaw0_Num.f 2101).bind fun t195 => (if t195 = 2101 then ((stencillaw0_Num.f 2200).bind fun t196 => (if t196 = 2200 then ((stencillaw0_Num.f 2201).bind fun t197 => (if t197 = 2201 then ((stencillaw0_Num.f 2202).bind fun t198 => (some (t198 == 2202))) else (some false))) else (some false))) else (some false))) else (some false))) else (some false)) = some r := H
                  have A17 := Aside0.mk A170
                  clear A170
                  by_cases c18 : t193 = 2004
                  · rw [if_pos c18] at H
                    have c18b0 : (t193 == 2004) = true := beq_iff_eq.mpr c18
                    have c18b1 : (t193 != 2004) = false := bne_eq_false_iff_eq.mpr c18
                    clear c18
                    replace H := Option.bind_eq_some_iff.mp H
                    obtain ⟨t194, A190, H⟩ := H
                    replace H : (if t194 = 2100 then ((stencillaw0_Num.f 2101).bind fun t195 => (if t195 = 2101 then ((stencillaw0_Num.f 2200).bind fun t196 => (if t196 = 2200 then ((stencillaw0_Num.f 2201).bind fun t197 => (if t197 = 2201 then ((stencillaw0_Num.f 2202).bind fun t198 => (some (t198 == 2202))) else (some false))) else (some false))) else (some false))) else (some false)) = some r := H
                    have A19 := Aside0.mk A190
                    clear A190
                    by_cases c20 : t194 = 2100
                    · rw [if_pos c20] at H
                      have c20b0 : (t194 == 2100) = true := beq_iff_eq.mpr c20
                      have c20b1 : (t194 != 2100) = false := bne_eq_false_iff_eq.mpr c20
                      clear c20
                      replace H := Option.bind_eq_some_iff.mp H
                      obtain ⟨t195, A210, H⟩ := H
                      replace H : (if t195 = 2101 then ((stencillaw0_Num.f 2200).bind fun t196 => (if t196 = 2200 then ((stencillaw0_Num.f 2201).bind fun t197 => (if t197 = 2201 then ((stencillaw0_Num.f 2202).bind fun t198 => (some (t198 == 2202))) else (some false))) else (some false))) else (some false)) = some r := H
                      have A21 := Aside0.mk A210
                      clear A210
                      by_cases c22 : t195 = 2101
                      · rw [if_pos c22] at H
                        have c22b0 : (t195 == 2101) = true := beq_iff_eq.mpr c22
                        have c22b1 : (t195 != 2101) = false := bne_eq_false_iff_eq.mpr c22
                        clear c22
                        replace H := Option.bind_eq_some_iff.mp H
                        obtain ⟨t196, A230, H⟩ := H
                        replace H : (if t196 = 2200 then ((stencillaw0_Num.f 2201).bind fun t197 => (if t197 = 2201 then ((stencillaw0_Num.f 2202).bind fun t198 => (some (t198 == 2202))) else (some false))) else (some false)) = some r := H
                        have A23 := Aside0.mk A230
                        clear A230
                        by_cases c24 : t196 = 2200
                        · rw [if_pos c24] at H
                          have c24b0 : (t196 == 2200) = true := beq_iff_eq.mpr c24
                          have c24b1 : (t196 != 2200) = false := bne_eq_false_iff_eq.mpr c24
                          clear c24
                          replace H := Option.bind_eq_some_iff.mp H
                          obtain ⟨t197, A250, H⟩ := H
                          replace H : (if t197 = 2201 then ((stencillaw0_Num.f 2202).bind fun t198 => (some (t198 == 2202))) else (some false)) = some r := H
                          have A25 := Aside0.mk A250
                          clear A250
                          by_cases c26 : t197 = 2201
                          · rw [if_pos c26] at H
                            have c26b0 : (t197 == 2201) = true := beq_iff_eq.mpr c26
                            have c26b1 : (t197 != 2201) = false := bne_eq_false_iff_eq.mpr c26
                            clear c26
                            replace H := Option.bind_eq_some_iff.mp H
                            obtain ⟨t198, A270, H⟩ := H
                            replace H : (some (t198 == 2202)) = some r := H
                            have A27 := Aside0.mk A270
                            clear A270
                            obtain rfl := Option.some.inj H
                            go_enter Try.func14, Try.ntmps14
                            go_wp2_with (first | ((with_reducible refine gate_callee (f := 35) rfl ?_); refine goesL_ (some 1) rfl rfl Try.func35 (by kernel_rfl) rfl #[.int .i64 1900] rfl (by (try simp only [List.map_toArray, List.map_cons, List.map_nil]); first | done | rfl | (simp only [List.length_drop, List.length_take]; rfl)) ?_; (with_reducible refine (stencillaw0_Num.calls 1900 t185 _ A1.out).mono ?_); rintro e w' ⟨rfl, ⟨nd, rfl⟩⟩; refine ⟨_, rfl, ?_⟩) | (go_at_call 35; (with_reducible refine (stencillaw0_Num.calls 1901 t186 _ A3.out).mono ?_); rintro e w' ⟨rfl, ⟨nd, rfl⟩⟩) | (go_at_call 35; (with_reducible refine (stencillaw0_Num.calls 1902 t187 _ A5.out).mono ?_); rintro e w' ⟨rfl, ⟨nd, rfl⟩⟩) | (go_at_call 35; (with_reducible refine (stencillaw0_Num.calls 1903 t188 _ A7.out).mono ?_); rintro e w' ⟨rfl, ⟨nd, rfl⟩⟩) | (go_at_call 35; (with_reducible refine (stencillaw0_Num.calls 2000 t189 _ A9.out).mono ?_); rintro e w' ⟨rfl, ⟨nd, rfl⟩⟩) | (go_at_call 35; (with_reducible refine (stencillaw0_Num.calls 2001 t190 _ A11.out).mono ?_); rintro e w' ⟨rfl, ⟨nd, rfl⟩⟩) | (go_at_call 35; (with_reducible refine (stencillaw0_Num.calls 2002 t191 _ A13.out).mono ?_); rintro e w' ⟨rfl, ⟨nd, rfl⟩⟩) | (go_at_call 35; (with_reducible refine (stencillaw0_Num.calls 2003 t192 _ A15.out).mono ?_); rintro e w' ⟨rfl, ⟨nd, rfl⟩⟩) | (go_at_call 35; (with_reducible refine (stencillaw0_Num.calls 2004 t193 _ A17.out).mono ?_); rintro e w' ⟨rfl, ⟨nd, rfl⟩⟩) | (go_at_call 35; (with_reducible refine (stencillaw0_Num.calls 2100 t194 _ A19.out).mono ?_); rintro e w' ⟨rfl, ⟨nd, rfl⟩⟩) | (go_at_call 35; (with_reducible refine (stencillaw0_Num.calls 2101 t195 _ A21.out).mono ?_); rintro e w' ⟨rfl, ⟨nd, rfl⟩⟩) | (go_at_call 35; (with_reducible refine (stencillaw0_Num.calls 2200 t196 _ A23.out).mono ?_); rintro e w' ⟨rfl, ⟨nd, rfl⟩⟩) | (go_at_call 35; (with_reducible refine (stencillaw0_Num.calls 2201 t197 _ A25.out).mono ?_); rintro e w' ⟨rfl, ⟨nd, rfl⟩⟩) | (go_at_call 35; (with_reducible refine (stencillaw0_Num.calls 2202 t198 _ A27.out).mono ?_); rintro e w' ⟨rfl, ⟨nd, rfl⟩⟩))
                            go_ret
                            exact ⟨by first | rfl | (simp; done) | (simp [*]; done), by repeat (first | exact Drawn0.refl _ | apply Drawn0.step)⟩
                          · rw [if_neg c26] at H
                            have c26b0 : (t197 == 2201) = false := beq_eq_false_iff_ne.mpr c26
                            have c26b1 : (t197 != 2201) = true := bne_iff_ne.mpr c26
                            obtain rfl := Option.some.inj H
                            go_enter Try.func14, Try.ntmps14
                            go_wp2_with (first | ((with_reducible refine gate_callee (f := 35) rfl ?_); refine goesL_ (some 1) rfl rfl Try.func35 (by kernel_rfl) rfl #[.int .i64 1900] rfl (by (try simp only [List.map_toArray, List.map_cons, List.map_nil]); first | done | rfl | (simp only [List.length_drop, List.length_take]; rfl)) ?_; (with_reducible refine (stencillaw0_Num.calls 1900 t185 _ A1.out).mono ?_); rintro e w' ⟨rfl, ⟨nd, rfl⟩⟩; refine ⟨_, rfl, ?_⟩) | (go_at_call 35; (with_reducible refine (stencillaw0_Num.calls 1901 t186 _ A3.out).mono ?_); rintro e w' ⟨rfl, ⟨nd, rfl⟩⟩) | (go_at_call 35; (with_reducible refine (stencillaw0_Num.calls 1902 t187 _ A5.out).mono ?_); rintro e w' ⟨rfl, ⟨nd, rfl⟩⟩) | (go_at_call 35; (with_reducible refine (stencillaw0_Num.calls 1903 t188 _ A7.out).mono ?_); rintro e w' ⟨rfl, ⟨nd, rfl⟩⟩) | (go_at_call 35; (with_reducible refine (stencillaw0_Num.calls 2000 t189 _ A9.out).mono ?_); rintro e w' ⟨rfl, ⟨nd, rfl⟩⟩) | (go_at_call 35; (with_reducible refine (stencillaw0_Num.calls 2001 t190 _ A11.out).mono ?_); rintro e w' ⟨rfl, ⟨nd, rfl⟩⟩) | (go_at_call 35; (with_reducible refine (stencillaw0_Num.calls 2002 t191 _ A13.out).mono ?_); rintro e w' ⟨rfl, ⟨nd, rfl⟩⟩) | (go_at_call 35; (with_reducible refine (stencillaw0_Num.calls 2003 t192 _ A15.out).mono ?_); rintro e w' ⟨rfl, ⟨nd, rfl⟩⟩) | (go_at_call 35; (with_reducible refine (stencillaw0_Num.calls 2004 t193 _ A17.out).mono ?_); rintro e w' ⟨rfl, ⟨nd, rfl⟩⟩) | (go_at_call 35; (with_reducible refine (stencillaw0_Num.calls 2100 t194 _ A19.out).mono ?_); rintro e w' ⟨rfl, ⟨nd, rfl⟩⟩) | (go_at_call 35; (with_reducible refine (stencillaw0_Num.calls 2101 t195 _ A21.out).mono ?_); rintro e w' ⟨rfl, ⟨nd, rfl⟩⟩) | (go_at_call 35; (with_reducible refine (stencillaw0_Num.calls 2200 t196 _ A23.out).mono ?_); rintro e w' ⟨rfl, ⟨nd, rfl⟩⟩) | (go_at_call 35; (with_reducible refine (stencillaw0_Num.calls 2201 t197 _ A25.out).mono ?_); rintro e w' ⟨rfl, ⟨nd, rfl⟩⟩))
                            go_ret
                            exact ⟨by first | rfl | (simp; done) | (simp [*]; done), by repeat (first | exact Drawn0.refl _ | apply Drawn0.step)⟩
                        · rw [if_neg c24] at H
                          have c24b0 : (t196 == 2200) = false := beq_eq_false_iff_ne.mpr c24
                          have c24b1 : (t196 != 2200) = true := bne_iff_ne.mpr c24
                          obtain rfl := Option.some.inj H
                          go_enter Try.func14, Try.ntmps14
                          go_wp2_with (first | ((with_reducible refine gate_callee (f := 35) rfl ?_); refine goesL_ (some 1) rfl rfl Try.func35 (by kernel_rfl) rfl #[.int .i64 1900] rfl (by (try simp only [List.map_toArray, List.map_cons, List.map_nil]); first | done | rfl | (simp only [List.length_drop, List.length_take]; rfl)) ?_; (with_reducible refine (stencillaw0_Num.calls 1900 t185 _ A1.out).mono ?_); rintro e w' ⟨rfl, ⟨nd, rfl⟩⟩; refine ⟨_, rfl, ?_⟩) | (go_at_call 35; (with_reducible refine (stencillaw0_Num.calls 1901 t186 _ A3.out).mono ?_); rintro e w' ⟨rfl, ⟨nd, rfl⟩⟩) | (go_at_call 35; (with_reducible refine (stencillaw0_Num.calls 1902 t187 _ A5.out).mono ?_); rintro e w' ⟨rfl, ⟨nd, rfl⟩⟩) | (go_at_call 35; (with_reducible refine (stencillaw0_Num.calls 1903 t188 _ A7.out).mono ?_); rintro e w' ⟨rfl, ⟨nd, rfl⟩⟩) | (go_at_call 35; (with_reducible refine (stencillaw0_Num.calls 2000 t189 _ A9.out).mono ?_); rintro e w' ⟨rfl, ⟨nd, rfl⟩⟩) | (go_at_call 35; (with_reducible refine (stencillaw0_Num.calls 2001 t190 _ A11.out).mono ?_); rintro e w' ⟨rfl, ⟨nd, rfl⟩⟩) | (go_at_call 35; (with_reducible refine (stencillaw0_Num.calls 2002 t191 _ A13.out).mono ?_); rintro e w' ⟨rfl, ⟨nd, rfl⟩⟩) | (go_at_call 35; (with_reducible refine (stencillaw0_Num.calls 2003 t192 _ A15.out).mono ?_); rintro e w' ⟨rfl, ⟨nd, rfl⟩⟩) | (go_at_call 35; (with_reducible refine (stencillaw0_Num.calls 2004 t193 _ A17.out).mono ?_); rintro e w' ⟨rfl, ⟨nd, rfl⟩⟩) | (go_at_call 35; (with_reducible refine (stencillaw0_Num.calls 2100 t194 _ A19.out).mono ?_); rintro e w' ⟨rfl, ⟨nd, rfl⟩⟩) | (go_at_call 35; (with_reducible refine (stencillaw0_Num.calls 2101 t195 _ A21.out).mono ?_); rintro e w' ⟨rfl, ⟨nd, rfl⟩⟩) | (go_at_call 35; (with_reducible refine (stencillaw0_Num.calls 2200 t196 _ A23.out).mono ?_); rintro e w' ⟨rfl, ⟨nd, rfl⟩⟩))
                          go_ret
                          exact ⟨by first | rfl | (simp; done) | (simp [*]; done), by repeat (first | exact Drawn0.refl _ | apply Drawn0.step)⟩
                      · rw [if_neg c22] at H
                        have c22b0 : (t195 == 2101) = false := beq_eq_false_iff_ne.mpr c22
                        have c22b1 : (t195 != 2101) = true := bne_iff_ne.mpr c22
                        obtain rfl := Option.some.inj H
                        go_enter Try.func14, Try.ntmps14
                        go_wp2_with (first | ((with_reducible refine gate_callee (f := 35) rfl ?_); refine goesL_ (some 1) rfl rfl Try.func35 (by kernel_rfl) rfl #[.int .i64 1900] rfl (by (try simp only [List.map_toArray, List.map_cons, List.map_nil]); first | done | rfl | (simp only [List.length_drop, List.length_take]; rfl)) ?_; (with_reducible refine (stencillaw0_Num.calls 1900 t185 _ A1.out).mono ?_); rintro e w' ⟨rfl, ⟨nd, rfl⟩⟩; refine ⟨_, rfl, ?_⟩) | (go_at_call 35; (with_reducible refine (stencillaw0_Num.calls 1901 t186 _ A3.out).mono ?_); rintro e w' ⟨rfl, ⟨nd, rfl⟩⟩) | (go_at_call 35; (with_reducible refine (stencillaw0_Num.calls 1902 t187 _ A5.out).mono ?_); rintro e w' ⟨rfl, ⟨nd, rfl⟩⟩) | (go_at_call 35; (with_reducible refine (stencillaw0_Num.calls 1903 t188 _ A7.out).mono ?_); rintro e w' ⟨rfl, ⟨nd, rfl⟩⟩) | (go_at_call 35; (with_reducible refine (stencillaw0_Num.calls 2000 t189 _ A9.out).mono ?_); rintro e w' ⟨rfl, ⟨nd, rfl⟩⟩) | (go_at_call 35; (with_reducible refine (stencillaw0_Num.calls 2001 t190 _ A11.out).mono ?_); rintro e w' ⟨rfl, ⟨nd, rfl⟩⟩) | (go_at_call 35; (with_reducible refine (stencillaw0_Num.calls 2002 t191 _ A13.out).mono ?_); rintro e w' ⟨rfl, ⟨nd, rfl⟩⟩) | (go_at_call 35; (with_reducible refine (stencillaw0_Num.calls 2003 t192 _ A15.out).mono ?_); rintro e w' ⟨rfl, ⟨nd, rfl⟩⟩) | (go_at_call 35; (with_reducible refine (stencillaw0_Num.calls 2004 t193 _ A17.out).mono ?_); rintro e w' ⟨rfl, ⟨nd, rfl⟩⟩) | (go_at_call 35; (with_reducible refine (stencillaw0_Num.calls 2100 t194 _ A19.out).mono ?_); rintro e w' ⟨rfl, ⟨nd, rfl⟩⟩) | (go_at_call 35; (with_reducible refine (stencillaw0_Num.calls 2101 t195 _ A21.out).mono ?_); rintro e w' ⟨rfl, ⟨nd, rfl⟩⟩))
                        go_ret
                        exact ⟨by first | rfl | (simp; done) | (simp [*]; done), by repeat (first | exact Drawn0.refl _ | apply Drawn0.step)⟩
                    · rw [if_neg c20] at H
                      have c20b0 : (t194 == 2100) = false := beq_eq_false_iff_ne.mpr c20
                      have c20b1 : (t194 != 2100) = true := bne_iff_ne.mpr c20
                      obtain rfl := Option.some.inj H
                      go_enter Try.func14, Try.ntmps14
                      go_wp2_with (first | ((with_reducible refine gate_callee (f := 35) rfl ?_); refine goesL_ (some 1) rfl rfl Try.func35 (by kernel_rfl) rfl #[.int .i64 1900] rfl (by (try simp only [List.map_toArray, List.map_cons, List.map_nil]); first | done | rfl | (simp only [List.length_drop, List.length_take]; rfl)) ?_; (with_reducible refine (stencillaw0_Num.calls 1900 t185 _ A1.out).mono ?_); rintro e w' ⟨rfl, ⟨nd, rfl⟩⟩; refine ⟨_, rfl, ?_⟩) | (go_at_call 35; (with_reducible refine (stencillaw0_Num.calls 1901 t186 _ A3.out).mono ?_); rintro e w' ⟨rfl, ⟨nd, rfl⟩⟩) | (go_at_call 35; (with_reducible refine (stencillaw0_Num.calls 1902 t187 _ A5.out).mono ?_); rintro e w' ⟨rfl, ⟨nd, rfl⟩⟩) | (go_at_call 35; (with_reducible refine (stencillaw0_Num.calls 1903 t188 _ A7.out).mono ?_); rintro e w' ⟨rfl, ⟨nd, rfl⟩⟩) | (go_at_call 35; (with_reducible refine (stencillaw0_Num.calls 2000 t189 _ A9.out).mono ?_); rintro e w' ⟨rfl, ⟨nd, rfl⟩⟩) | (go_at_call 35; (with_reducible refine (stencillaw0_Num.calls 2001 t190 _ A11.out).mono ?_); rintro e w' ⟨rfl, ⟨nd, rfl⟩⟩) | (go_at_call 35; (with_reducible refine (stencillaw0_Num.calls 2002 t191 _ A13.out).mono ?_); rintro e w' ⟨rfl, ⟨nd, rfl⟩⟩) | (go_at_call 35; (with_reducible refine (stencillaw0_Num.calls 2003 t192 _ A15.out).mono ?_); rintro e w' ⟨rfl, ⟨nd, rfl⟩⟩) | (go_at_call 35; (with_reducible refine (stencillaw0_Num.calls 2004 t193 _ A17.out).mono ?_); rintro e w' ⟨rfl, ⟨nd, rfl⟩⟩) | (go_at_call 35; (with_reducible refine (stencillaw0_Num.calls 2100 t194 _ A19.out).mono ?_); rintro e w' ⟨rfl, ⟨nd, rfl⟩⟩))
                      go_ret
                      exact ⟨by first | rfl | (simp; done) | (simp [*]; done), by repeat (first | exact Drawn0.refl _ | apply Drawn0.step)⟩
                  · rw [if_neg c18] at H
                    have c18b0 : (t193 == 2004) = false := beq_eq_false_iff_ne.mpr c18
                    have c18b1 : (t193 != 2004) = true := bne_iff_ne.mpr c18
                    obtain rfl := Option.some.inj H
                    go_enter Try.func14, Try.ntmps14
                    go_wp2_with (first | ((with_reducible refine gate_callee (f := 35) rfl ?_); refine goesL_ (some 1) rfl rfl Try.func35 (by kernel_rfl) rfl #[.int .i64 1900] rfl (by (try simp only [List.map_toArray, List.map_cons, List.map_nil]); first | done | rfl | (simp only [List.length_drop, List.length_take]; rfl)) ?_; (with_reducible refine (stencillaw0_Num.calls 1900 t185 _ A1.out).mono ?_); rintro e w' ⟨rfl, ⟨nd, rfl⟩⟩; refine ⟨_, rfl, ?_⟩) | (go_at_call 35; (with_reducible refine (stencillaw0_Num.calls 1901 t186 _ A3.out).mono ?_); rintro e w' ⟨rfl, ⟨nd, rfl⟩⟩) | (go_at_call 35; (with_reducible refine (stencillaw0_Num.calls 1902 t187 _ A5.out).mono ?_); rintro e w' ⟨rfl, ⟨nd, rfl⟩⟩) | (go_at_call 35; (with_reducible refine (stencillaw0_Num.calls 1903 t188 _ A7.out).mono ?_); rintro e w' ⟨rfl, ⟨nd, rfl⟩⟩) | (go_at_call 35; (with_reducible refine (stencillaw0_Num.calls 2000 t189 _ A9.out).mono ?_); rintro e w' ⟨rfl, ⟨nd, rfl⟩⟩) | (go_at_call 35; (with_reducible refine (stencillaw0_Num.calls 2001 t190 _ A11.out).mono ?_); rintro e w' ⟨rfl, ⟨nd, rfl⟩⟩) | (go_at_call 35; (with_reducible refine (stencillaw0_Num.calls 2002 t191 _ A13.out).mono ?_); rintro e w' ⟨rfl, ⟨nd, rfl⟩⟩) | (go_at_call 35; (with_reducible refine (stencillaw0_Num.calls 2003 t192 _ A15.out).mono ?_); rintro e w' ⟨rfl, ⟨nd, rfl⟩⟩) | (go_at_call 35; (with_reducible refine (stencillaw0_Num.calls 2004 t193 _ A17.out).mono ?_); rintro e w' ⟨rfl, ⟨nd, rfl⟩⟩))
                    go_ret
                    exact ⟨by first | rfl | (simp; done) | (simp [*]; done), by repeat (first | exact Drawn0.refl _ | apply Drawn0.step)⟩
                · rw [if_neg c16] at H
                  have c16b0 : (t192 == 2003) = false := beq_eq_false_iff_ne.mpr c16
                  have c16b1 : (t192 != 2003) = true := bne_iff_ne.mpr c16
                  obtain rfl := Option.some.inj H
                  go_enter Try.func14, Try.ntmps14
                  go_wp2_with (first | ((with_reducible refine gate_callee (f := 35) rfl ?_); refine goesL_ (some 1) rfl rfl Try.func35 (by kernel_rfl) rfl #[.int .i64 1900] rfl (by (try simp only [List.map_toArray, List.map_cons, List.map_nil]); first | done | rfl | (simp only [List.length_drop, List.length_take]; rfl)) ?_; (with_reducible refine (stencillaw0_Num.calls 1900 t185 _ A1.out).mono ?_); rintro e w' ⟨rfl, ⟨nd, rfl⟩⟩; refine ⟨_, rfl, ?_⟩) | (go_at_call 35; (with_reducible refine (stencillaw0_Num.calls 1901 t186 _ A3.out).mono ?_); rintro e w' ⟨rfl, ⟨nd, rfl⟩⟩) | (go_at_call 35; (with_reducible refine (stencillaw0_Num.calls 1902 t187 _ A5.out).mono ?_); rintro e w' ⟨rfl, ⟨nd, rfl⟩⟩) | (go_at_call 35; (with_reducible refine (stencillaw0_Num.calls 1903 t188 _ A7.out).mono ?_); rintro e w' ⟨rfl, ⟨nd, rfl⟩⟩) | (go_at_call 35; (with_reducible refine (stencillaw0_Num.calls 2000 t189 _ A9.out).mono ?_); rintro e w' ⟨rfl, ⟨nd, rfl⟩⟩) | (go_at_call 35; (with_reducible refine (stencillaw0_Num.calls 2001 t190 _ A11.out).mono ?_); rintro e w' ⟨rfl, ⟨nd, rfl⟩⟩) | (go_at_call 35; (with_reducible refine (stencillaw0_Num.calls 2002 t191 _ A13.out).mono ?_); rintro e w' ⟨rfl, ⟨nd, rfl⟩⟩) | (go_at_call 35; (with_reducible refine (stencillaw0_Num.calls 2003 t192 _ A15.out).mono ?_); rintro e w' ⟨rfl, ⟨nd, rfl⟩⟩))
                  go_ret
                  exact ⟨by first | rfl | (simp; done) | (simp [*]; done), by repeat (first | exact Drawn0.refl _ | apply Drawn0.step)⟩
              · rw [if_neg c14] at H
                have c14b0 : (t191 == 2002) = false := beq_eq_false_iff_ne.mpr c14
                have c14b1 : (t191 != 2002) = true := bne_iff_ne.mpr c14
                obtain rfl := Option.some.inj H
                go_enter Try.func14, Try.ntmps14
                go_wp2_with (first | ((with_reducible refine gate_callee (f := 35) rfl ?_); refine goesL_ (some 1) rfl rfl Try.func35 (by kernel_rfl) rfl #[.int .i64 1900] rfl (by (try simp only [List.map_toArray, List.map_cons, List.map_nil]); first | done | rfl | (simp only [List.length_drop, List.length_take]; rfl)) ?_; (with_reducible refine (stencillaw0_Num.calls 1900 t185 _ A1.out).mono ?_); rintro e w' ⟨rfl, ⟨nd, rfl⟩⟩; refine ⟨_, rfl, ?_⟩) | (go_at_call 35; (with_reducible refine (stencillaw0_Num.calls 1901 t186 _ A3.out).mono ?_); rintro e w' ⟨rfl, ⟨nd, rfl⟩⟩) | (go_at_call 35; (with_reducible refine (stencillaw0_Num.calls 1902 t187 _ A5.out).mono ?_); rintro e w' ⟨rfl, ⟨nd, rfl⟩⟩) | (go_at_call 35; (with_reducible refine (stencillaw0_Num.calls 1903 t188 _ A7.out).mono ?_); rintro e w' ⟨rfl, ⟨nd, rfl⟩⟩) | (go_at_call 35; (with_reducible refine (stencillaw0_Num.calls 2000 t189 _ A9.out).mono ?_); rintro e w' ⟨rfl, ⟨nd, rfl⟩⟩) | (go_at_call 35; (with_reducible refine (stencillaw0_Num.calls 2001 t190 _ A11.out).mono ?_); rintro e w' ⟨rfl, ⟨nd, rfl⟩⟩) | (go_at_call 35; (with_reducible refine (stencillaw0_Num.calls 2002 t191 _ A13.out).mono ?_); rintro e w' ⟨rfl, ⟨nd, rfl⟩⟩))
                go_ret
                exact ⟨by first | rfl | (simp; done) | (simp [*]; done), by repeat (first | exact Drawn0.refl _ | apply Drawn0.step)⟩
            · rw [if_neg c12] at H
              have c12b0 : (t190 == 2001) = false := beq_eq_false_iff_ne.mpr c12
              have c12b1 : (t190 != 2001) = true := bne_iff_ne.mpr c12
              obtain rfl := Option.some.inj H
              go_enter Try.func14, Try.ntmps14
              go_wp2_with (first | ((with_reducible refine gate_callee (f := 35) rfl ?_); refine goesL_ (some 1) rfl rfl Try.func35 (by kernel_rfl) rfl #[.int .i64 1900] rfl (by (try simp only [List.map_toArray, List.map_cons, List.map_nil]); first | done | rfl | (simp only [List.length_drop, List.length_take]; rfl)) ?_; (with_reducible refine (stencillaw0_Num.calls 1900 t185 _ A1.out).mono ?_); rintro e w' ⟨rfl, ⟨nd, rfl⟩⟩; refine ⟨_, rfl, ?_⟩) | (go_at_call 35; (with_reducible refine (stencillaw0_Num.calls 1901 t186 _ A3.out).mono ?_); rintro e w' ⟨rfl, ⟨nd, rfl⟩⟩) | (go_at_call 35; (with_reducible refine (stencillaw0_Num.calls 1902 t187 _ A5.out).mono ?_); rintro e w' ⟨rfl, ⟨nd, rfl⟩⟩) | (go_at_call 35; (with_reducible refine (stencillaw0_Num.calls 1903 t188 _ A7.out).mono ?_); rintro e w' ⟨rfl, ⟨nd, rfl⟩⟩) | (go_at_call 35; (with_reducible refine (stencillaw0_Num.calls 2000 t189 _ A9.out).mono ?_); rintro e w' ⟨rfl, ⟨nd, rfl⟩⟩) | (go_at_call 35; (with_reducible refine (stencillaw0_Num.calls 2001 t190 _ A11.out).mono ?_); rintro e w' ⟨rfl, ⟨nd, rfl⟩⟩))
              go_ret
              exact ⟨by first | rfl | (simp; done) | (simp [*]; done), by repeat (first | exact Drawn0.refl _ | apply Drawn0.step)⟩
          · rw [if_neg c10] at H
            have c10b0 : (t189 == 2000) = false := beq_eq_false_iff_ne.mpr c10
            have c10b1 : (t189 != 2000) = true := bne_iff_ne.mpr c10
            obtain rfl := Option.some.inj H
            go_enter Try.func14, Try.ntmps14
            go_wp2_with (first | ((with_reducible refine gate_callee (f := 35) rfl ?_); refine goesL_ (some 1) rfl rfl Try.func35 (by kernel_rfl) rfl #[.int .i64 1900] rfl (by (try simp only [List.map_toArray, List.map_cons, List.map_nil]); first | done | rfl | (simp only [List.length_drop, List.length_take]; rfl)) ?_; (with_reducible refine (stencillaw0_Num.calls 1900 t185 _ A1.out).mono ?_); rintro e w' ⟨rfl, ⟨nd, rfl⟩⟩; refine ⟨_, rfl, ?_⟩) | (go_at_call 35; (with_reducible refine (stencillaw0_Num.calls 1901 t186 _ A3.out).mono ?_); rintro e w' ⟨rfl, ⟨nd, rfl⟩⟩) | (go_at_call 35; (with_reducible refine (stencillaw0_Num.calls 1902 t187 _ A5.out).mono ?_); rintro e w' ⟨rfl, ⟨nd, rfl⟩⟩) | (go_at_call 35; (with_reducible refine (stencillaw0_Num.calls 1903 t188 _ A7.out).mono ?_); rintro e w' ⟨rfl, ⟨nd, rfl⟩⟩) | (go_at_call 35; (with_reducible refine (stencillaw0_Num.calls 2000 t189 _ A9.out).mono ?_); rintro e w' ⟨rfl, ⟨nd, rfl⟩⟩))
            go_ret
            exact ⟨by first | rfl | (simp; done) | (simp [*]; done), by repeat (first | exact Drawn0.refl _ | apply Drawn0.step)⟩
        · rw [if_neg c8] at H
          have c8b0 : (t188 == 1903) = false := beq_eq_false_iff_ne.mpr c8
          have c8b1 : (t188 != 1903) = true := bne_iff_ne.mpr c8
          obtain rfl := Option.some.inj H
          go_enter Try.func14, Try.ntmps14
          go_wp2_with (first | ((with_reducible refine gate_callee (f := 35) rfl ?_); refine goesL_ (some 1) rfl rfl Try.func35 (by kernel_rfl) rfl #[.int .i64 1900] rfl (by (try simp only [List.map_toArray, List.map_cons, List.map_nil]); first | done | rfl | (simp only [List.length_drop, List.length_take]; rfl)) ?_; (with_reducible refine (stencillaw0_Num.calls 1900 t185 _ A1.out).mono ?_); rintro e w' ⟨rfl, ⟨nd, rfl⟩⟩; refine ⟨_, rfl, ?_⟩) | (go_at_call 35; (with_reducible refine (stencillaw0_Num.calls 1901 t186 _ A3.out).mono ?_); rintro e w' ⟨rfl, ⟨nd, rfl⟩⟩) | (go_at_call 35; (with_reducible refine (stencillaw0_Num.calls 1902 t187 _ A5.out).mono ?_); rintro e w' ⟨rfl, ⟨nd, rfl⟩⟩) | (go_at_call 35; (with_reducible refine (stencillaw0_Num.calls 1903 t188 _ A7.out).mono ?_); rintro e w' ⟨rfl, ⟨nd, rfl⟩⟩))
          go_ret
          exact ⟨by first | rfl | (simp; done) | (simp [*]; done), by repeat (first | exact Drawn0.refl _ | apply Drawn0.step)⟩
      · rw [if_neg c6] at H
        have c6b0 : (t187 == 1902) = false := beq_eq_false_iff_ne.mpr c6
        have c6b1 : (t187 != 1902) = true := bne_iff_ne.mpr c6
        obtain rfl := Option.some.inj H
        go_enter Try.func14, Try.ntmps14
        go_wp2_with (first | ((with_reducible refine gate_callee (f := 35) rfl ?_); refine goesL_ (some 1) rfl rfl Try.func35 (by kernel_rfl) rfl #[.int .i64 1900] rfl (by (try simp only [List.map_toArray, List.map_cons, List.map_nil]); first | done | rfl | (simp only [List.length_drop, List.length_take]; rfl)) ?_; (with_reducible refine (stencillaw0_Num.calls 1900 t185 _ A1.out).mono ?_); rintro e w' ⟨rfl, ⟨nd, rfl⟩⟩; refine ⟨_, rfl, ?_⟩) | (go_at_call 35; (with_reducible refine (stencillaw0_Num.calls 1901 t186 _ A3.out).mono ?_); rintro e w' ⟨rfl, ⟨nd, rfl⟩⟩) | (go_at_call 35; (with_reducible refine (stencillaw0_Num.calls 1902 t187 _ A5.out).mono ?_); rintro e w' ⟨rfl, ⟨nd, rfl⟩⟩))
        go_ret
        exact ⟨by first | rfl | (simp; done) | (simp [*]; done), by repeat (first | exact Drawn0.refl _ | apply Drawn0.step)⟩
    · rw [if_neg c4] at H
      have c4b0 : (t186 == 1901) = false := beq_eq_false_iff_ne.mpr c4
      have c4b1 : (t186 != 1901) = true := bne_iff_ne.mpr c4
      obtain rfl := Option.some.inj H
      go_enter Try.func14, Try.ntmps14
      go_wp2_with (first | ((with_reducible refine gate_callee (f := 35) rfl ?_); refine goesL_ (some 1) rfl rfl Try.func35 (by kernel_rfl) rfl #[.int .i64 1900] rfl (by (try simp only [List.map_toArray, List.map_cons, List.map_nil]); first | done | rfl | (simp only [List.length_drop, List.length_take]; rfl)) ?_; (with_reducible refine (stencillaw0_Num.calls 1900 t185 _ A1.out).mono ?_); rintro e w' ⟨rfl, ⟨nd, rfl⟩⟩; refine ⟨_, rfl, ?_⟩) | (go_at_call 35; (with_reducible refine (stencillaw0_Num.calls 1901 t186 _ A3.out).mono ?_); rintro e w' ⟨rfl, ⟨nd, rfl⟩⟩))
      go_ret
      exact ⟨by first | rfl | (simp; done) | (simp [*]; done), by repeat (first | exact Drawn0.refl _ | apply Drawn0.step)⟩
  · rw [if_neg c2] at H
    have c2b0 : (t185 == 1900) = false := beq_eq_false_iff_ne.mpr c2
    have c2b1 : (t185 != 1900) = true := bne_iff_ne.mpr c2
    obtain rfl := Option.some.inj H
    go_enter Try.func14, Try.ntmps14
    go_wp2_with (first | ((with_reducible refine gate_callee (f := 35) rfl ?_); refine goesL_ (some 1) rfl rfl Try.func35 (by kernel_rfl) rfl #[.int .i64 1900] rfl (by (try simp only [List.map_toArray, List.map_cons, List.map_nil]); first | done | rfl | (simp only [List.length_drop, List.length_take]; rfl)) ?_; (with_reducible refine (stencillaw0_Num.calls 1900 t185 _ A1.out).mono ?_); rintro e w' ⟨rfl, ⟨nd, rfl⟩⟩; refine ⟨_, rfl, ?_⟩))
    go_ret
    exact ⟨by first | rfl | (simp; done) | (simp [*]; done), by repeat (first | exact Drawn0.refl _ | apply Drawn0.step)⟩

/-! ### stencillaw0_errors8: function 15 -/
def stencillaw0_errors8.f  : Option (Bool) := (stencillaw0_Num.f 2203).bind fun t199 => (if t199 = 2203 then ((stencillaw0_Num.f 2204).bind fun t200 => (if t200 = 2204 then ((stencillaw0_Num.f 2205).bind fun t201 => (if t201 = 2205 then ((stencillaw0_Num.f 2206).bind fun t202 => (if t202 = 2206 then ((stencillaw0_Num.f 2207).bind fun t203 => (if t203 = 2207 then ((stencillaw0_Num.f 2208).bind fun t204 => (if t204 = 2208 then ((stencillaw0_Num.f 2300).bind fun t205 => (if t205 = 2300 then ((stencillaw0_Num.f 2301).bind fun t206 => (if t206 = 2301 then ((stencillaw0_Num.f 2302).bind fun t207 => (if t207 = 2302 then ((stencillaw0_Num.f 2303).bind fun t208 => (if t208 = 2303 then ((stencillaw0_Num.f 2304).bind fun t209 => (if t209 = 2304 then ((stencillaw0_Num.f 2305).bind fun t210 => (if t210 = 2305 then ((stencillaw0_Num.f 2600).bind fun t211 => (if t211 = 2600 then ((stencillaw0_Num.f 2700).bind fun t212 => (some (t212 == 2700))) else (some false))) else (some false))) else (some false))) else (some false))) else (some false))) else (some false))) else (some false))) else (some false))) else (some false))) else (some false))) else (some false))) else (some false))) else (some false))
set_option maxHeartbeats 8000000 in
set_option maxRecDepth 100000 in
theorem stencillaw0_errors8.calls  (r : Bool) (w : World) (h : stencillaw0_errors8.f  = some r) :
    Calls Try.prog 15 #[] w fun e w' => e = .returned (.bool r) ∧ Drawn0 w w' := by
  have H : ((stencillaw0_Num.f 2203).bind fun t199 => (if t199 = 2203 then ((stencillaw0_Num.f 2204).bind fun t200 => (if t200 = 2204 then ((stencillaw0_Num.f 2205).bind fun t201 => (if t201 = 2205 then ((stencillaw0_Num.f 2206).bind fun t202 => (if t202 = 2206 then ((stencillaw0_Num.f 2207).bind fun t203 => (if t203 = 2207 then ((stencillaw0_Num.f 2208).bind fun t204 => (if t204 = 2208 then ((stencillaw0_Num.f 2300).bind fun t205 => (if t205 = 2300 then ((stencillaw0_Num.f 2301).bind fun t206 => (if t206 = 2301 then ((stencillaw0_Num.f 2302).bind fun t207 => (if t207 = 2302 then ((stencillaw0_Num.f 2303).bind fun t208 => (if t208 = 2303 then ((stencillaw0_Num.f 2304).bind fun t209 => (if t209 = 2304 then ((stencillaw0_Num.f 2305).bind fun t210 => (if t210 = 2305 then ((stencillaw0_Num.f 2600).bind fun t211 => (if t211 = 2600 then ((stencillaw0_Num.f 2700).bind fun t212 => (some (t212 == 2700))) else (some false))) else (some false))) else (some false))) else (some false))) else (some false))) else (some false))) else (some false))) else (some false))) else (some false))) else (some false))) else (some false))) else (some false))) else (some false))) = some r := h
  clear h
  replace H := Option.bind_eq_some_iff.mp H
  obtain ⟨t199, A10, H⟩ := H
  replace H : (if t199 = 2203 then ((stencillaw0_Num.f 2204).bind fun t200 => (if t200 = 2204 then ((stencillaw0_Num.f 2205).bind fun t201 => (if t201 = 2205 then ((stencillaw0_Num.f 2206).bind fun t202 => (if t202 = 2206 then ((stencillaw0_Num.f 2207).bind fun t203 => (if t203 = 2207 then ((stencillaw0_Num.f 2208).bind fun t204 => (if t204 = 2208 then ((stencillaw0_Num.f 2300).bind fun t205 => (if t205 = 2300 then ((stencillaw0_Num.f 2301).bind fun t206 => (if t206 = 2301 then ((stencillaw0_Num.f 2302).bind fun t207 => (if t207 = 2302 then ((stencillaw0_Num.f 2303).bind fun t208 => (if t208 = 2303 then ((stencillaw0_Num.f 2304).bind fun t209 => (if t209 = 2304 then ((stencillaw0_Num.f 2305).bind fun t210 => (if t210 = 2305 then ((stencillaw0_Num.f 2600).bind fun t211 => (if t211 = 2600 then ((stencillaw0_Num.f 2700).bind fun t212 => (some (t212 == 2700))) else (some false))) else (some false))) else (some false))) else (some false))) else (some false))) else (some false))) else (some false))) else (some false))) else (some false))) else (some false))) else (some false))) else (some false))) else (some false)) = some r := H
  have A1 := Aside0.mk A10
  clear A10
  by_cases c2 : t199 = 2203
  · rw [if_pos c2] at H
    have c2b0 : (t199 == 2203) = true := beq_iff_eq.mpr c2
    have c2b1 : (t199 != 2203) = false := bne_eq_false_iff_eq.mpr c2
    clear c2
    replace H := Option.bind_eq_some_iff.mp H
    obtain ⟨t200, A30, H⟩ := H
    replace H : (if t200 = 2204 then ((stencillaw0_Num.f 2205).bind fun t201 => (if t201 = 2205 then ((stencillaw0_Num.f 2206).bind fun t202 => (if t202 = 2206 then ((stencillaw0_Num.f 2207).bind fun t203 => (if t203 = 2207 then ((stencillaw0_Num.f 2208).bind fun t204 => (if t204 = 2208 then ((stencillaw0_Num.f 2300).bind fun t205 => (if t205 = 2300 then ((stencillaw0_Num.f 2301).bind fun t206 => (if t206 = 2301 then ((stencillaw0_Num.f 2302).bind fun t207 => (if t207 = 2302 then ((stencillaw0_Num.f 2303).bind fun t208 => (if t208 = 2303 then ((stencillaw0_Num.f 2304).bind fun t209 => (if t209 = 2304 then ((stencillaw0_Num.f 2305).bind fun t210 => (if t210 = 2305 then ((stencillaw0_Num.f 2600).bind fun t211 => (if t211 = 2600 then ((stencillaw0_Num.f 2700).bind fun t212 => (some (t212 == 2700))) else (some false))) else (some false))) else (some false))) else (some false))) else (some false))) else (some false))) else (some false))) else (some false))) else (some false))) else (some false))) else (some false))) else (some false)) = some r := H
    have A3 := Aside0.mk A30
    clear A30
    by_cases c4 : t200 = 2204
    · rw [if_pos c4] at H
      have c4b0 : (t200 == 2204) = true := beq_iff_eq.mpr c4
      have c4b1 : (t200 != 2204) = false := bne_eq_false_iff_eq.mpr c4
      clear c4
      replace H := Option.bind_eq_some_iff.mp H
      obtain ⟨t201, A50, H⟩ := H
      replace H : (if t201 = 2205 then ((stencillaw0_Num.f 2206).bind fun t202 => (if t202 = 2206 then ((stencillaw0_Num.f 2207).bind fun t203 => (if t203 = 2207 then ((stencillaw0_Num.f 2208).bind fun t204 => (if t204 = 2208 then ((stencillaw0_Num.f 2300).bind fun t205 => (if t205 = 2300 then ((stencillaw0_Num.f 2301).bind fun t206 => (if t206 = 2301 then ((stencillaw0_Num.f 2302).bind fun t207 => (if t207 = 2302 then ((stencillaw0_Num.f 2303).bind fun t208 => (if t208 = 2303 then ((stencillaw0_Num.f 2304).bind fun t209 => (if t209 = 2304 then ((stencillaw0_Num.f 2305).bind fun t210 => (if t210 = 2305 then ((stencillaw0_Num.f 2600).bind fun t211 => (if t211 = 2600 then ((stencillaw0_Num.f 2700).bind fun t212 => (some (t212 == 2700))) else (some false))) else (some false))) else (some false))) else (some false))) else (some false))) else (some false))) else (some false))) else (some false))) else (some false))) else (some false))) else (some false)) = some r := H
      have A5 := Aside0.mk A50
      clear A50
      by_cases c6 : t201 = 2205
      · rw [if_pos c6] at H
        have c6b0 : (t201 == 2205) = true := beq_iff_eq.mpr c6
        have c6b1 : (t201 != 2205) = false := bne_eq_false_iff_eq.mpr c6
        clear c6
        replace H := Option.bind_eq_some_iff.mp H
        obtain ⟨t202, A70, H⟩ := H
        replace H : (if t202 = 2206 then ((stencillaw0_Num.f 2207).bind fun t203 => (if t203 = 2207 then ((stencillaw0_Num.f 2208).bind fun t204 => (if t204 = 2208 then ((stencillaw0_Num.f 2300).bind fun t205 => (if t205 = 2300 then ((stencillaw0_Num.f 2301).bind fun t206 => (if t206 = 2301 then ((stencillaw0_Num.f 2302).bind fun t207 => (if t207 = 2302 then ((stencillaw0_Num.f 2303).bind fun t208 => (if t208 = 2303 then ((stencillaw0_Num.f 2304).bind fun t209 => (if t209 = 2304 then ((stencillaw0_Num.f 2305).bind fun t210 => (if t210 = 2305 then ((stencillaw0_Num.f 2600).bind fun t211 => (if t211 = 2600 then ((stencillaw0_Num.f 2700).bind fun t212 => (some (t212 == 2700))) else (some false))) else (some false))) else (some false))) else (some false))) else (some false))) else (some false))) else (some false))) else (some false))) else (some false))) else (some false)) = some r := H
        have A7 := Aside0.mk A70
        clear A70
        by_cases c8 : t202 = 2206
        · rw [if_pos c8] at H
          have c8b0 : (t202 == 2206) = true := beq_iff_eq.mpr c8
          have c8b1 : (t202 != 2206) = false := bne_eq_false_iff_eq.mpr c8
          clear c8
          replace H := Option.bind_eq_some_iff.mp H
          obtain ⟨t203, A90, H⟩ := H
          replace H : (if t203 = 2207 then ((stencillaw0_Num.f 2208).bind fun t204 => (if t204 = 2208 then ((stencillaw0_Num.f 2300).bind fun t205 => (if t205 = 2300 then ((stencillaw0_Num.f 2301).bind fun t206 => (if t206 = 2301 then ((stencillaw0_Num.f 2302).bind fun t207 => (if t207 = 2302 then ((stencillaw0_Num.f 2303).bind fun t208 => (if t208 = 2303 then ((stencillaw0_Num.f 2304).bind fun t209 => (if t209 = 2304 then ((stencillaw0_Num.f 2305).bind fun t210 => (if t210 = 2305 then ((stencillaw0_Num.f 2600).bind fun t211 => (if t211 = 2600 then ((stencillaw0_Num.f 2700).bind fun t212 => (some (t212 == 2700))) else (some false))) else (some false))) else (some false))) else (some false))) else (some false))) else (some false))) else (some false))) else (some false))) else (some false)) = some r := H
          have A9 := Aside0.mk A90
          clear A90
          by_cases c10 : t203 = 2207
          · rw [if_pos c10] at H
            have c10b0 : (t203 == 2207) = true := beq_iff_eq.mpr c10
            have c10b1 : (t203 != 2207) = false := bne_eq_false_iff_eq.mpr c10
            clear c10
            replace H := Option.bind_eq_some_iff.mp H
            obtain ⟨t204, A110, H⟩ := H
            replace H : (if t204 = 2208 then ((stencillaw0_Num.f 2300).bind fun t205 => (if t205 = 2300 then ((stencillaw0_Num.f 2301).bind fun t206 => (if t206 = 2301 then ((stencillaw0_Num.f 2302).bind fun t207 => (if t207 = 2302 then ((stencillaw0_Num.f 2303).bind fun t208 => (if t208 = 2303 then ((stencillaw0_Num.f 2304).bind fun t209 => (if t209 = 2304 then ((stencillaw0_Num.f 2305).bind fun t210 => (if t210 = 2305 then ((stencillaw0_Num.f 2600).bind fun t211 => (if t211 = 2600 then ((stencillaw0_Num.f 2700).bind fun t212 => (some (t212 == 2700))) else (some false))) else (some false))) else (some false))) else (some false))) else (some false))) else (some false))) else (some false))) else (some false)) = some r := H
            have A11 := Aside0.mk A110
            clear A110
            by_cases c12 : t204 = 2208
            · rw [if_pos c12] at H
              have c12b0 : (t204 == 2208) = true := beq_iff_eq.mpr c12
              have c12b1 : (t204 != 2208) = false := bne_eq_false_iff_eq.mpr c12
              clear c12
              replace H := Option.bind_eq_some_iff.mp H
              obtain ⟨t205, A130, H⟩ := H
              replace H : (if t205 = 2300 then ((stencillaw0_Num.f 2301).bind fun t206 => (if t206 = 2301 then ((stencillaw0_Num.f 2302).bind fun t207 => (if t207 = 2302 then ((stencillaw0_Num.f 2303).bind fun t208 => (if t208 = 2303 then ((stencillaw0_Num.f 2304).bind fun t209 => (if t209 = 2304 then ((stencillaw0_Num.f 2305).bind fun t210 => (if t210 = 2305 then ((stencillaw0_Num.f 2600).bind fun t211 => (if t211 = 2600 then ((stencillaw0_Num.f 2700).bind fun t212 => (some (t212 == 2700))) else (some false))) else (some false))) else (some false))) else (some false))) else (some false))) else (some false))) else (some false)) = some r := H
              have A13 := Aside0.mk A130
              clear A130
              by_cases c14 : t205 = 2300
              · rw [if_pos c14] at H
                have c14b0 : (t205 == 2300) = true := beq_iff_eq.mpr c14
                have c14b1 : (t205 != 2300) = false := bne_eq_false_iff_eq.mpr c14
                clear c14
                replace H := Option.bind_eq_some_iff.mp H
                obtain ⟨t206, A150, H⟩ := H
                replace H : (if t206 = 2301 then ((stencillaw0_Num.f 2302).bind fun t207 => (if t207 = 2302 then ((stencillaw0_Num.f 2303).bind fun t208 => (if t208 = 2303 then ((stencillaw0_Num.f 2304).bind fun t209 => (if t209 = 2304 then ((stencillaw0_Num.f 2305).bind fun t210 => (if t210 = 2305 then ((stencillaw0_Num.f 2600).bind fun t211 => (if t211 = 2600 then ((stencillaw0_Num.f 2700).bind fun t212 => (some (t212 == 2700))) else (some false))) else (some false))) else (some false))) else (some false))) else (some false))) else (some false)) = some r := H
                have A15 := Aside0.mk A150
                clear A150
                by_cases c16 : t206 = 2301
                · rw [if_pos c16] at H
                  have c16b0 : (t206 == 2301) = true := beq_iff_eq.mpr c16
                  have c16b1 : (t206 != 2301) = false := bne_eq_false_iff_eq.mpr c16
                  clear c16
                  replace H := Option.bind_eq_some_iff.mp H
                  obtain ⟨t207, A170, H⟩ := H
                  replace H : (if t207 = 2302 then ((stencillaw0_Num.f 2303).bind fun t208 => (if t208 = 2303 then ((stencillaw0_Num.f 2304).bind fun t209 => (if t209 = 2304 then ((stencillaw0_Num.f 2305).bind fun t210 => (if t210 = 2305 then ((stencillaw0_Num.f 2600).bind fun t211 => (if t211 = 2600 then ((stencillaw0_Num.f 2700).bind fun t212 => (some (t212 == 2700))) else (some false))) else (some false))) else (some false))) else (some false))) else (some false)) = some r := H
                  have A17 := Aside0.mk A170
                  clear A170
                  by_cases c18 : t207 = 2302
                  · rw [if_pos c18] at H
                    have c18b0 : (t207 == 2302) = true := beq_iff_eq.mpr c18
                    have c18b1 : (t207 != 2302) = false := bne_eq_false_iff_eq.mpr c18
                    clear c18
                    replace H := Option.bind_eq_some_iff.mp H
                    obtain ⟨t208, A190, H⟩ := H
                    replace H : (if t208 = 2303 then ((stencillaw0_Num.f 2304).bind fun t209 => (if t209 = 2304 then ((stencillaw0_Num.f 2305).bind fun t210 => (if t210 = 2305 then ((stencillaw0_Num.f 2600).bind fun t211 => (if t211 = 2600 then ((stencillaw0_Num.f 2700).bind fun t212 => (some (t212 == 2700))) else (some false))) else (some false))) else (some false))) else (some false)) = some r := H
                    have A19 := Aside0.mk A190
                    clear A190
                    by_cases c20 : t208 = 2303
                    · rw [if_pos c20] at H
                      have c20b0 : (t208 == 2303) = true := beq_iff_eq.mpr c20
                      have c20b1 : (t208 != 2303) = false := bne_eq_false_iff_eq.mpr c20
                      clear c20
                      replace H := Option.bind_eq_some_iff.mp H
                      obtain ⟨t209, A210, H⟩ := H
                      replace H : (if t209 = 2304 then ((stencillaw0_Num.f 2305).bind fun t210 => (if t210 = 2305 then ((stencillaw0_Num.f 2600).bind fun t211 => (if t211 = 2600 then ((stencillaw0_Num.f 2700).bind fun t212 => (some (t212 == 2700))) else (some false))) else (some false))) else (some false)) = some r := H
                      have A21 := Aside0.mk A210
                      clear A210
                      by_cases c22 : t209 = 2304
                      · rw [if_pos c22] at H
                        have c22b0 : (t209 == 2304) = true := beq_iff_eq.mpr c22
                        have c22b1 : (t209 != 2304) = false := bne_eq_false_iff_eq.mpr c22
                        clear c22
                        replace H := Option.bind_eq_some_iff.mp H
                        obtain ⟨t210, A230, H⟩ := H
                        replace H : (if t210 = 2305 then ((stencillaw0_Num.f 2600).bind fun t211 => (if t211 = 2600 then ((stencillaw0_Num.f 2700).bind fun t212 => (some (t212 == 2700))) else (some false))) else (some false)) = some r := H
                        have A23 := Aside0.mk A230
                        clear A230
                        by_cases c24 : t210 = 2305
                        · rw [if_pos c24] at H
                          have c24b0 : (t210 == 2305) = true := beq_iff_eq.mpr c24
                          have c24b1 : (t210 != 2305) = false := bne_eq_false_iff_eq.mpr c24
                          clear c24
                          replace H := Option.bind_eq_some_iff.mp H
                          obtain ⟨t211, A250, H⟩ := H
                          replace H : (if t211 = 2600 then ((stencillaw0_Num.f 2700).bind fun t212 => (some (t212 == 2700))) else (some false)) = some r := H
                          have A25 := Aside0.mk A250
                          clear A250
                          by_cases c26 : t211 = 2600
                          · rw [if_pos c26] at H
                            have c26b0 : (t211 == 2600) = true := beq_iff_eq.mpr c26
                            have c26b1 : (t211 != 2600) = false := bne_eq_false_iff_eq.mpr c26
                            clear c26
                            replace H := Option.bind_eq_some_iff.mp H
                            obtain ⟨t212, A270, H⟩ := H
                            replace H : (some (t212 == 2700)) = some r := H
                            have A27 := Aside0.mk A270
                            clear A270
                            obtain rfl := Option.some.inj H
                            go_enter Try.func15, Try.ntmps15
                            go_wp2_with (first | ((with_reducible refine gate_callee (f := 35) rfl ?_); refine goesL_ (some 1) rfl rfl Try.func35 (by kernel_rfl) rfl #[.int .i64 2203] rfl (by (try simp only [List.map_toArray, List.map_cons, List.map_nil]); first | done | rfl | (simp only [List.length_drop, List.length_take]; rfl)) ?_; (with_reducible refine (stencillaw0_Num.calls 2203 t199 _ A1.out).mono ?_); rintro e w' ⟨rfl, ⟨nd, rfl⟩⟩; refine ⟨_, rfl, ?_⟩) | (go_at_call 35; (with_reducible refine (stencillaw0_Num.calls 2204 t200 _ A3.out).mono ?_); rintro e w' ⟨rfl, ⟨nd, rfl⟩⟩) | (go_at_call 35; (with_reducible refine (stencillaw0_Num.calls 2205 t201 _ A5.out).mono ?_); rintro e w' ⟨rfl, ⟨nd, rfl⟩⟩) | (go_at_call 35; (with_reducible refine (stencillaw0_Num.calls 2206 t202 _ A7.out).mono ?_); rintro e w' ⟨rfl, ⟨nd, rfl⟩⟩) | (go_at_call 35; (with_reducible refine (stencillaw0_Num.calls 2207 t203 _ A9.out).mono ?_); rintro e w' ⟨rfl, ⟨nd, rfl⟩⟩) | (go_at_call 35; (with_reducible refine (stencillaw0_Num.calls 2208 t204 _ A11.out).mono ?_); rintro e w' ⟨rfl, ⟨nd, rfl⟩⟩) | (go_at_call 35; (with_reducible refine (stencillaw0_Num.calls 2300 t205 _ A13.out).mono ?_); rintro e w' ⟨rfl, ⟨nd, rfl⟩⟩) | (go_at_call 35; (with_reducible refine (stencillaw0_Num.calls 2301 t206 _ A15.out).mono ?_); rintro e w' ⟨rfl, ⟨nd, rfl⟩⟩) | (go_at_call 35; (with_reducible refine (stencillaw0_Num.calls 2302 t207 _ A17.out).mono ?_); rintro e w' ⟨rfl, ⟨nd, rfl⟩⟩) | (go_at_call 35; (with_reducible refine (stencillaw0_Num.calls 2303 t208 _ A19.out).mono ?_); rintro e w' ⟨rfl, ⟨nd, rfl⟩⟩) | (go_at_call 35; (with_reducible refine (stencillaw0_Num.calls 2304 t209 _ A21.out).mono ?_); rintro e w' ⟨rfl, ⟨nd, rfl⟩⟩) | (go_at_call 35; (with_reducible refine (stencillaw0_Num.calls 2305 t210 _ A23.out).mono ?_); rintro e w' ⟨rfl, ⟨nd, rfl⟩⟩) | (go_at_call 35; (with_reducible refine (stencillaw0_Num.calls 2600 t211 _ A25.out).mono ?_); rintro e w' ⟨rfl, ⟨nd, rfl⟩⟩) | (go_at_call 35; (with_reducible refine (stencillaw0_Num.calls 2700 t212 _ A27.out).mono ?_); rintro e w' ⟨rfl, ⟨nd, rfl⟩⟩))
                            go_ret
                            exact ⟨by first | rfl | (simp; done) | (simp [*]; done), by repeat (first | exact Drawn0.refl _ | apply Drawn0.step)⟩
                          · rw [if_neg c26] at H
                            have c26b0 : (t211 == 2600) = false := beq_eq_false_iff_ne.mpr c26
                            have c26b1 : (t211 != 2600) = true := bne_iff_ne.mpr c26
                            obtain rfl := Option.some.inj H
                            go_enter Try.func15, Try.ntmps15
                            go_wp2_with (first | ((with_reducible refine gate_callee (f := 35) rfl ?_); refine goesL_ (some 1) rfl rfl Try.func35 (by kernel_rfl) rfl #[.int .i64 2203] rfl (by (try simp only [List.map_toArray, List.map_cons, List.map_nil]); first | done | rfl | (simp only [List.length_drop, List.length_take]; rfl)) ?_; (with_reducible refine (stencillaw0_Num.calls 2203 t199 _ A1.out).mono ?_); rintro e w' ⟨rfl, ⟨nd, rfl⟩⟩; refine ⟨_, rfl, ?_⟩) | (go_at_call 35; (with_reducible refine (stencillaw0_Num.calls 2204 t200 _ A3.out).mono ?_); rintro e w' ⟨rfl, ⟨nd, rfl⟩⟩) | (go_at_call 35; (with_reducible refine (stencillaw0_Num.calls 2205 t201 _ A5.out).mono ?_); rintro e w' ⟨rfl, ⟨nd, rfl⟩⟩) | (go_at_call 35; (with_reducible refine (stencillaw0_Num.calls 2206 t202 _ A7.out).mono ?_); rintro e w' ⟨rfl, ⟨nd, rfl⟩⟩) | (go_at_call 35; (with_reducible refine (stencillaw0_Num.calls 2207 t203 _ A9.out).mono ?_); rintro e w' ⟨rfl, ⟨nd, rfl⟩⟩) | (go_at_call 35; (with_reducible refine (stencillaw0_Num.calls 2208 t204 _ A11.out).mono ?_); rintro e w' ⟨rfl, ⟨nd, rfl⟩⟩) | (go_at_call 35; (with_reducible refine (stencillaw0_Num.calls 2300 t205 _ A13.out).mono ?_); rintro e w' ⟨rfl, ⟨nd, rfl⟩⟩) | (go_at_call 35; (with_reducible refine (stencillaw0_Num.calls 2301 t206 _ A15.out).mono ?_); rintro e w' ⟨rfl, ⟨nd, rfl⟩⟩) | (go_at_call 35; (with_reducible refine (stencillaw0_Num.calls 2302 t207 _ A17.out).mono ?_); rintro e w' ⟨rfl, ⟨nd, rfl⟩⟩) | (go_at_call 35; (with_reducible refine (stencillaw0_Num.calls 2303 t208 _ A19.out).mono ?_); rintro e w' ⟨rfl, ⟨nd, rfl⟩⟩) | (go_at_call 35; (with_reducible refine (stencillaw0_Num.calls 2304 t209 _ A21.out).mono ?_); rintro e w' ⟨rfl, ⟨nd, rfl⟩⟩) | (go_at_call 35; (with_reducible refine (stencillaw0_Num.calls 2305 t210 _ A23.out).mono ?_); rintro e w' ⟨rfl, ⟨nd, rfl⟩⟩) | (go_at_call 35; (with_reducible refine (stencillaw0_Num.calls 2600 t211 _ A25.out).mono ?_); rintro e w' ⟨rfl, ⟨nd, rfl⟩⟩))
                            go_ret
                            exact ⟨by first | rfl | (simp; done) | (simp [*]; done), by repeat (first | exact Drawn0.refl _ | apply Drawn0.step)⟩
                        · rw [if_neg c24] at H
                          have c24b0 : (t210 == 2305) = false := beq_eq_false_iff_ne.mpr c24
                          have c24b1 : (t210 != 2305) = true := bne_iff_ne.mpr c24
                          obtain rfl := Option.some.inj H
                          go_enter Try.func15, Try.ntmps15
                          go_wp2_with (first | ((with_reducible refine gate_callee (f := 35) rfl ?_); refine goesL_ (some 1) rfl rfl Try.func35 (by kernel_rfl) rfl #[.int .i64 2203] rfl (by (try simp only [List.map_toArray, List.map_cons, List.map_nil]); first | done | rfl | (simp only [List.length_drop, List.length_take]; rfl)) ?_; (with_reducible refine (stencillaw0_Num.calls 2203 t199 _ A1.out).mono ?_); rintro e w' ⟨rfl, ⟨nd, rfl⟩⟩; refine ⟨_, rfl, ?_⟩) | (go_at_call 35; (with_reducible refine (stencillaw0_Num.calls 2204 t200 _ A3.out).mono ?_); rintro e w' ⟨rfl, ⟨nd, rfl⟩⟩) | (go_at_call 35; (with_reducible refine (stencillaw0_Num.calls 2205 t201 _ A5.out).mono ?_); rintro e w' ⟨rfl, ⟨nd, rfl⟩⟩) | (go_at_call 35; (with_reducible refine (stencillaw0_Num.calls 2206 t202 _ A7.out).mono ?_); rintro e w' ⟨rfl, ⟨nd, rfl⟩⟩) | (go_at_call 35; (with_reducible refine (stencillaw0_Num.calls 2207 t203 _ A9.out).mono ?_); rintro e w' ⟨rfl, ⟨nd, rfl⟩⟩) | (go_at_call 35; (with_reducible refine (stencillaw0_Num.calls 2208 t204 _ A11.out).mono ?_); rintro e w' ⟨rfl, ⟨nd, rfl⟩⟩) | (go_at_call 35; (with_reducible refine (stencillaw0_Num.calls 2300 t205 _ A13.out).mono ?_); rintro e w' ⟨rfl, ⟨nd, rfl⟩⟩) | (go_at_call 35; (with_reducible refine (stencillaw0_Num.calls 2301 t206 _ A15.out).mono ?_); rintro e w' ⟨rfl, ⟨nd, rfl⟩⟩) | (go_at_call 35; (with_reducible refine (stencillaw0_Num.calls 2302 t207 _ A17.out).mono ?_); rintro e w' ⟨rfl, ⟨nd, rfl⟩⟩) | (go_at_call 35; (with_reducible refine (stencillaw0_Num.calls 2303 t208 _ A19.out).mono ?_); rintro e w' ⟨rfl, ⟨nd, rfl⟩⟩) | (go_at_call 35; (with_reducible refine (stencillaw0_Num.calls 2304 t209 _ A21.out).mono ?_); rintro e w' ⟨rfl, ⟨nd, rfl⟩⟩) | (go_at_call 35; (with_reducible refine (stencillaw0_Num.calls 2305 t210 _ A23.out).mono ?_); rintro e w' ⟨rfl, ⟨nd, rfl⟩⟩))
                          go_ret
                          exact ⟨by first | rfl | (simp; done) | (simp [*]; done), by repeat (first | exact Drawn0.refl _ | apply Drawn0.step)⟩
                      · rw [if_neg c22] at H
                        have c22b0 : (t209 == 2304) = false := beq_eq_false_iff_ne.mpr c22
                        have c22b1 : (t209 != 2304) = true := bne_iff_ne.mpr c22
                        obtain rfl := Option.some.inj H
                        go_enter Try.func15, Try.ntmps15
                        go_wp2_with (first | ((with_reducible refine gate_callee (f := 35) rfl ?_); refine goesL_ (some 1) rfl rfl Try.func35 (by kernel_rfl) rfl #[.int .i64 2203] rfl (by (try simp only [List.map_toArray, List.map_cons, List.map_nil]); first | done | rfl | (simp only [List.length_drop, List.length_take]; rfl)) ?_; (with_reducible refine (stencillaw0_Num.calls 2203 t199 _ A1.out).mono ?_); rintro e w' ⟨rfl, ⟨nd, rfl⟩⟩; refine ⟨_, rfl, ?_⟩) | (go_at_call 35; (with_reducible refine (stencillaw0_Num.calls 2204 t200 _ A3.out).mono ?_); rintro e w' ⟨rfl, ⟨nd, rfl⟩⟩) | (go_at_call 35; (with_reducible refine (stencillaw0_Num.calls 2205 t201 _ A5.out).mono ?_); rintro e w' ⟨rfl, ⟨nd, rfl⟩⟩) | (go_at_call 35; (with_reducible refine (stencillaw0_Num.calls 2206 t202 _ A7.out).mono ?_); rintro e w' ⟨rfl, ⟨nd, rfl⟩⟩) | (go_at_call 35; (with_reducible refine (stencillaw0_Num.calls 2207 t203 _ A9.out).mono ?_); rintro e w' ⟨rfl, ⟨nd, rfl⟩⟩) | (go_at_call 35; (with_reducible refine (stencillaw0_Num.calls 2208 t204 _ A11.out).mono ?_); rintro e w' ⟨rfl, ⟨nd, rfl⟩⟩) | (go_at_call 35; (with_reducible refine (stencillaw0_Num.calls 2300 t205 _ A13.out).mono ?_); rintro e w' ⟨rfl, ⟨nd, rfl⟩⟩) | (go_at_call 35; (with_reducible refine (stencillaw0_Num.calls 2301 t206 _ A15.out).mono ?_); rintro e w' ⟨rfl, ⟨nd, rfl⟩⟩) | (go_at_call 35; (with_reducible refine (stencillaw0_Num.calls 2302 t207 _ A17.out).mono ?_); rintro e w' ⟨rfl, ⟨nd, rfl⟩⟩) | (go_at_call 35; (with_reducible refine (stencillaw0_Num.calls 2303 t208 _ A19.out).mono ?_); rintro e w' ⟨rfl, ⟨nd, rfl⟩⟩) | (go_at_call 35; (with_reducible refine (stencillaw0_Num.calls 2304 t209 _ A21.out).mono ?_); rintro e w' ⟨rfl, ⟨nd, rfl⟩⟩))
                        go_ret
                        exact ⟨by first | rfl | (simp; done) | (simp [*]; done), by repeat (first | exact Drawn0.refl _ | apply Drawn0.step)⟩
                    · rw [if_neg c20] at H
                      have c20b0 : (t208 == 2303) = false := beq_eq_false_iff_ne.mpr c20
                      have c20b1 : (t208 != 2303) = true := bne_iff_ne.mpr c20
                      obtain rfl := Option.some.inj H
                      go_enter Try.func15, Try.ntmps15
                      go_wp2_with (first | ((with_reducible refine gate_callee (f := 35) rfl ?_); refine goesL_ (some 1) rfl rfl Try.func35 (by kernel_rfl) rfl #[.int .i64 2203] rfl (by (try simp only [List.map_toArray, List.map_cons, List.map_nil]); first | done | rfl | (simp only [List.length_drop, List.length_take]; rfl)) ?_; (with_reducible refine (stencillaw0_Num.calls 2203 t199 _ A1.out).mono ?_); rintro e w' ⟨rfl, ⟨nd, rfl⟩⟩; refine ⟨_, rfl, ?_⟩) | (go_at_call 35; (with_reducible refine (stencillaw0_Num.calls 2204 t200 _ A3.out).mono ?_); rintro e w' ⟨rfl, ⟨nd, rfl⟩⟩) | (go_at_call 35; (with_reducible refine (stencillaw0_Num.calls 2205 t201 _ A5.out).mono ?_); rintro e w' ⟨rfl, ⟨nd, rfl⟩⟩) | (go_at_call 35; (with_reducible refine (stencillaw0_Num.calls 2206 t202 _ A7.out).mono ?_); rintro e w' ⟨rfl, ⟨nd, rfl⟩⟩) | (go_at_call 35; (with_reducible refine (stencillaw0_Num.calls 2207 t203 _ A9.out).mono ?_); rintro e w' ⟨rfl, ⟨nd, rfl⟩⟩) | (go_at_call 35; (with_reducible refine (stencillaw0_Num.calls 2208 t204 _ A11.out).mono ?_); rintro e w' ⟨rfl, ⟨nd, rfl⟩⟩) | (go_at_call 35; (with_reducible refine (stencillaw0_Num.calls 2300 t205 _ A13.out).mono ?_); rintro e w' ⟨rfl, ⟨nd, rfl⟩⟩) | (go_at_call 35; (with_reducible refine (stencillaw0_Num.calls 2301 t206 _ A15.out).mono ?_); rintro e w' ⟨rfl, ⟨nd, rfl⟩⟩) | (go_at_call 35; (with_reducible refine (stencillaw0_Num.calls 2302 t207 _ A17.out).mono ?_); rintro e w' ⟨rfl, ⟨nd, rfl⟩⟩) | (go_at_call 35; (with_reducible refine (stencillaw0_Num.calls 2303 t208 _ A19.out).mono ?_); rintro e w' ⟨rfl, ⟨nd, rfl⟩⟩))
                      go_ret
                      exact ⟨by first | rfl | (simp; done) | (simp [*]; done), by repeat (first | exact Drawn0.refl _ | apply Drawn0.step)⟩
                  · rw [if_neg c18] at H
                    have c18b0 : (t207 == 2302) = false := beq_eq_false_iff_ne.mpr c18
                    have c18b1 : (t207 != 2302) = true := bne_iff_ne.mpr c18
                    obtain rfl := Option.some.inj H
                    go_enter Try.func15, Try.ntmps15
                    go_wp2_with (first | ((with_reducible refine gate_callee (f := 35) rfl ?_); refine goesL_ (some 1) rfl rfl Try.func35 (by kernel_rfl) rfl #[.int .i64 2203] rfl (by (try simp only [List.map_toArray, List.map_cons, List.map_nil]); first | done | rfl | (simp only [List.length_drop, List.length_take]; rfl)) ?_; (with_reducible refine (stencillaw0_Num.calls 2203 t199 _ A1.out).mono ?_); rintro e w' ⟨rfl, ⟨nd, rfl⟩⟩; refine ⟨_, rfl, ?_⟩) | (go_at_call 35; (with_reducible refine (stencillaw0_Num.calls 2204 t200 _ A3.out).mono ?_); rintro e w' ⟨rfl, ⟨nd, rfl⟩⟩) | (go_at_call 35; (with_reducible refine (stencillaw0_Num.calls 2205 t201 _ A5.out).mono ?_); rintro e w' ⟨rfl, ⟨nd, rfl⟩⟩) | (go_at_call 35; (with_reducible refine (stencillaw0_Num.calls 2206 t202 _ A7.out).mono ?_); rintro e w' ⟨rfl, ⟨nd, rfl⟩⟩) | (go_at_call 35; (with_reducible refine (stencillaw0_Num.calls 2207 t203 _ A9.out).mono ?_); rintro e w' ⟨rfl, ⟨nd, rfl⟩⟩) | (go_at_call 35; (with_reducible refine (stencillaw0_Num.calls 2208 t204 _ A11.out).mono ?_); rintro e w' ⟨rfl, ⟨nd, rfl⟩⟩) | (go_at_call 35; (with_reducible refine (stencillaw0_Num.calls 2300 t205 _ A13.out).mono ?_); rintro e w' ⟨rfl, ⟨nd, rfl⟩⟩) | (go_at_call 35; (with_reducible refine (stencillaw0_Num.calls 2301 t206 _ A15.out).mono ?_); rintro e w' ⟨rfl, ⟨nd, rfl⟩⟩) | (go_at_call 35; (with_reducible refine (stencillaw0_Num.calls 2302 t207 _ A17.out).mono ?_); rintro e w' ⟨rfl, ⟨nd, rfl⟩⟩))
                    go_ret
                    exact ⟨by first | rfl | (simp; done) | (simp [*]; done), by repeat (first | exact Drawn0.refl _ | apply Drawn0.step)⟩
                · rw [if_neg c16] at H
                  have c16b0 : (t206 == 2301) = false := beq_eq_false_iff_ne.mpr c16
                  have c16b1 : (t206 != 2301) = true := bne_iff_ne.mpr c16
                  obtain rfl := Option.some.inj H
                  go_enter Try.func15, Try.ntmps15
                  go_wp2_with (first | ((with_reducible refine gate_callee (f := 35) rfl ?_); refine goesL_ (some 1) rfl rfl Try.func35 (by kernel_rfl) rfl #[.int .i64 2203] rfl (by (try simp only [List.map_toArray, List.map_cons, List.map_nil]); first | done | rfl | (simp only [List.length_drop, List.length_take]; rfl)) ?_; (with_reducible refine (stencillaw0_Num.calls 2203 t199 _ A1.out).mono ?_); rintro e w' ⟨rfl, ⟨nd, rfl⟩⟩; refine ⟨_, rfl, ?_⟩) | (go_at_call 35; (with_reducible refine (stencillaw0_Num.calls 2204 t200 _ A3.out).mono ?_); rintro e w' ⟨rfl, ⟨nd, rfl⟩⟩) | (go_at_call 35; (with_reducible refine (stencillaw0_Num.calls 2205 t201 _ A5.out).mono ?_); rintro e w' ⟨rfl, ⟨nd, rfl⟩⟩) | (go_at_call 35; (with_reducible refine (stencillaw0_Num.calls 2206 t202 _ A7.out).mono ?_); rintro e w' ⟨rfl, ⟨nd, rfl⟩⟩) | (go_at_call 35; (with_reducible refine (stencillaw0_Num.calls 2207 t203 _ A9.out).mono ?_); rintro e w' ⟨rfl, ⟨nd, rfl⟩⟩) | (go_at_call 35; (with_reducible refine (stencillaw0_Num.calls 2208 t204 _ A11.out).mono ?_); rintro e w' ⟨rfl, ⟨nd, rfl⟩⟩) | (go_at_call 35; (with_reducible refine (stencillaw0_Num.calls 2300 t205 _ A13.out).mono ?_); rintro e w' ⟨rfl, ⟨nd, rfl⟩⟩) | (go_at_call 35; (with_reducible refine (stencillaw0_Num.calls 2301 t206 _ A15.out).mono ?_); rintro e w' ⟨rfl, ⟨nd, rfl⟩⟩))
                  go_ret
                  exact ⟨by first | rfl | (simp; done) | (simp [*]; done), by repeat (first | exact Drawn0.refl _ | apply Drawn0.step)⟩
              · rw [if_neg c14] at H
                have c14b0 : (t205 == 2300) = false := beq_eq_false_iff_ne.mpr c14
                have c14b1 : (t205 != 2300) = true := bne_iff_ne.mpr c14
                obtain rfl := Option.some.inj H
                go_enter Try.func15, Try.ntmps15
                go_wp2_with (first | ((with_reducible refine gate_callee (f := 35) rfl ?_); refine goesL_ (some 1) rfl rfl Try.func35 (by kernel_rfl) rfl #[.int .i64 2203] rfl (by (try simp only [List.map_toArray, List.map_cons, List.map_nil]); first | done | rfl | (simp only [List.length_drop, List.length_take]; rfl)) ?_; (with_reducible refine (stencillaw0_Num.calls 2203 t199 _ A1.out).mono ?_); rintro e w' ⟨rfl, ⟨nd, rfl⟩⟩; refine ⟨_, rfl, ?_⟩) | (go_at_call 35; (with_reducible refine (stencillaw0_Num.calls 2204 t200 _ A3.out).mono ?_); rintro e w' ⟨rfl, ⟨nd, rfl⟩⟩) | (go_at_call 35; (with_reducible refine (stencillaw0_Num.calls 2205 t201 _ A5.out).mono ?_); rintro e w' ⟨rfl, ⟨nd, rfl⟩⟩) | (go_at_call 35; (with_reducible refine (stencillaw0_Num.calls 2206 t202 _ A7.out).mono ?_); rintro e w' ⟨rfl, ⟨nd, rfl⟩⟩) | (go_at_call 35; (with_reducible refine (stencillaw0_Num.calls 2207 t203 _ A9.out).mono ?_); rintro e w' ⟨rfl, ⟨nd, rfl⟩⟩) | (go_at_call 35; (with_reducible refine (stencillaw0_Num.calls 2208 t204 _ A11.out).mono ?_); rintro e w' ⟨rfl, ⟨nd, rfl⟩⟩) | (go_at_call 35; (with_reducible refine (stencillaw0_Num.calls 2300 t205 _ A13.out).mono ?_); rintro e w' ⟨rfl, ⟨nd, rfl⟩⟩))
                go_ret
                exact ⟨by first | rfl | (simp; done) | (simp [*]; done), by repeat (first | exact Drawn0.refl _ | apply Drawn0.step)⟩
            · rw [if_neg c12] at H
              have c12b0 : (t204 == 2208) = false := beq_eq_false_iff_ne.mpr c12
              have c12b1 : (t204 != 2208) = true := bne_iff_ne.mpr c12
              obtain rfl := Option.some.inj H
              go_enter Try.func15, Try.ntmps15
              go_wp2_with (first | ((with_reducible refine gate_callee (f := 35) rfl ?_); refine goesL_ (some 1) rfl rfl Try.func35 (by kernel_rfl) rfl #[.int .i64 2203] rfl (by (try simp only [List.map_toArray, List.map_cons, List.map_nil]); first | done | rfl | (simp only [List.length_drop, List.length_take]; rfl)) ?_; (with_reducible refine (stencillaw0_Num.calls 2203 t199 _ A1.out).mono ?_); rintro e w' ⟨rfl, ⟨nd, rfl⟩⟩; refine ⟨_, rfl, ?_⟩) | (go_at_call 35; (with_reducible refine (stencillaw0_Num.calls 2204 t200 _ A3.out).mono ?_); rintro e w' ⟨rfl, ⟨nd, rfl⟩⟩) | (go_at_call 35; (with_reducible refine (stencillaw0_Num.calls 2205 t201 _ A5.out).mono ?_); rintro e w' ⟨rfl, ⟨nd, rfl⟩⟩) | (go_at_call 35; (with_reducible refine (stencillaw0_Num.calls 2206 t202 _ A7.out).mono ?_); rintro e w' ⟨rfl, ⟨nd, rfl⟩⟩) | (go_at_call 35; (with_reducible refine (stencillaw0_Num.calls 2207 t203 _ A9.out).mono ?_); rintro e w' ⟨rfl, ⟨nd, rfl⟩⟩) | (go_at_call 35; (with_reducible refine (stencillaw0_Num.calls 2208 t204 _ A11.out).mono ?_); rintro e w' ⟨rfl, ⟨nd, rfl⟩⟩))
              go_ret
              exact ⟨by first | rfl | (simp; done) | (simp [*]; done), by repeat (first | exact Drawn0.refl _ | apply Drawn0.step)⟩
          · rw [if_neg c10] at H
            have c10b0 : (t203 == 2207) = false := beq_eq_false_iff_ne.mpr c10
            have c10b1 : (t203 != 2207) = true := bne_iff_ne.mpr c10
            obtain rfl := Option.some.inj H
            go_enter Try.func15, Try.ntmps15
            go_wp2_with (first | ((with_reducible refine gate_callee (f := 35) rfl ?_); refine goesL_ (some 1) rfl rfl Try.func35 (by kernel_rfl) rfl #[.int .i64 2203] rfl (by (try simp only [List.map_toArray, List.map_cons, List.map_nil]); first | done | rfl | (simp only [List.length_drop, List.length_take]; rfl)) ?_; (with_reducible refine (stencillaw0_Num.calls 2203 t199 _ A1.out).mono ?_); rintro e w' ⟨rfl, ⟨nd, rfl⟩⟩; refine ⟨_, rfl, ?_⟩) | (go_at_call 35; (with_reducible refine (stencillaw0_Num.calls 2204 t200 _ A3.out).mono ?_); rintro e w' ⟨rfl, ⟨nd, rfl⟩⟩) | (go_at_call 35; (with_reducible refine (stencillaw0_Num.calls 2205 t201 _ A5.out).mono ?_); rintro e w' ⟨rfl, ⟨nd, rfl⟩⟩) | (go_at_call 35; (with_reducible refine (stencillaw0_Num.calls 2206 t202 _ A7.out).mono ?_); rintro e w' ⟨rfl, ⟨nd, rfl⟩⟩) | (go_at_call 35; (with_reducible refine (stencillaw0_Num.calls 2207 t203 _ A9.out).mono ?_); rintro e w' ⟨rfl, ⟨nd, rfl⟩⟩))
            go_ret
            exact ⟨by first | rfl | (simp; done) | (simp [*]; done), by repeat (first | exact Drawn0.refl _ | apply Drawn0.step)⟩
        · rw [if_neg c8] at H
          have c8b0 : (t202 == 2206) = false := beq_eq_false_iff_ne.mpr c8
          have c8b1 : (t202 != 2206) = true := bne_iff_ne.mpr c8
          obtain rfl := Option.some.inj H
          go_enter Try.func15, Try.ntmps15
          go_wp2_with (first | ((with_reducible refine gate_callee (f := 35) rfl ?_); refine goesL_ (some 1) rfl rfl Try.func35 (by kernel_rfl) rfl #[.int .i64 2203] rfl (by (try simp only [List.map_toArray, List.map_cons, List.map_nil]); first | done | rfl | (simp only [List.length_drop, List.length_take]; rfl)) ?_; (with_reducible refine (stencillaw0_Num.calls 2203 t199 _ A1.out).mono ?_); rintro e w' ⟨rfl, ⟨nd, rfl⟩⟩; refine ⟨_, rfl, ?_⟩) | (go_at_call 35; (with_reducible refine (stencillaw0_Num.calls 2204 t200 _ A3.out).mono ?_); rintro e w' ⟨rfl, ⟨nd, rfl⟩⟩) | (go_at_call 35; (with_reducible refine (stencillaw0_Num.calls 2205 t201 _ A5.out).mono ?_); rintro e w' ⟨rfl, ⟨nd, rfl⟩⟩) | (go_at_call 35; (with_reducible refine (stencillaw0_Num.calls 2206 t202 _ A7.out).mono ?_); rintro e w' ⟨rfl, ⟨nd, rfl⟩⟩))
          go_ret
          exact ⟨by first | rfl | (simp; done) | (simp [*]; done), by repeat (first | exact Drawn0.refl _ | apply Drawn0.step)⟩
      · rw [if_neg c6] at H
        have c6b0 : (t201 == 2205) = false := beq_eq_false_iff_ne.mpr c6
        have c6b1 : (t201 != 2205) = true := bne_iff_ne.mpr c6
        obtain rfl := Option.some.inj H
        go_enter Try.func15, Try.ntmps15
        go_wp2_with (first | ((with_reducible refine gate_callee (f := 35) rfl ?_); refine goesL_ (some 1) rfl rfl Try.func35 (by kernel_rfl) rfl #[.int .i64 2203] rfl (by (try simp only [List.map_toArray, List.map_cons, List.map_nil]); first | done | rfl | (simp only [List.length_drop, List.length_take]; rfl)) ?_; (with_reducible refine (stencillaw0_Num.calls 2203 t199 _ A1.out).mono ?_); rintro e w' ⟨rfl, ⟨nd, rfl⟩⟩; refine ⟨_, rfl, ?_⟩) | (go_at_call 35; (with_reducible refine (stencillaw0_Num.calls 2204 t200 _ A3.out).mono ?_); rintro e w' ⟨rfl, ⟨nd, rfl⟩⟩) | (go_at_call 35; (with_reducible refine (stencillaw0_Num.calls 2205 t201 _ A5.out).mono ?_); rintro e w' ⟨rfl, ⟨nd, rfl⟩⟩))
        go_ret
        exact ⟨by first | rfl | (simp; done) | (simp [*]; done), by repeat (first | exact Drawn0.refl _ | apply Drawn0.step)⟩
    · rw [if_neg c4] at H
      have c4b0 : (t200 == 2204) = false := beq_eq_false_iff_ne.mpr c4
      have c4b1 : (t200 != 2204) = true := bne_iff_ne.mpr c4
      obtain rfl := Option.some.inj H
      go_enter Try.func15, Try.ntmps15
      go_wp2_with (first | ((with_reducible refine gate_callee (f := 35) rfl ?_); refine goesL_ (some 1) rfl rfl Try.func35 (by kernel_rfl) rfl #[.int .i64 2203] rfl (by (try simp only [List.map_toArray, List.map_cons, List.map_nil]); first | done | rfl | (simp only [List.length_drop, List.length_take]; rfl)) ?_; (with_reducible refine (stencillaw0_Num.calls 2203 t199 _ A1.out).mono ?_); rintro e w' ⟨rfl, ⟨nd, rfl⟩⟩; refine ⟨_, rfl, ?_⟩) | (go_at_call 35; (with_reducible refine (stencillaw0_Num.calls 2204 t200 _ A3.out).mono ?_); rintro e w' ⟨rfl, ⟨nd, rfl⟩⟩))
      go_ret
      exact ⟨by first | rfl | (simp; done) | (simp [*]; done), by repeat (first | exact Drawn0.refl _ | apply Drawn0.step)⟩
  · rw [if_neg c2] at H
    have c2b0 : (t199 == 2203) = false := beq_eq_false_iff_ne.mpr c2
    have c2b1 : (t199 != 2203) = true := bne_iff_ne.mpr c2
    obtain rfl := Option.some.inj H
    go_enter Try.func15, Try.ntmps15
    go_wp2_with (first | ((with_reducible refine gate_callee (f := 35) rfl ?_); refine goesL_ (some 1) rfl rfl Try.func35 (by kernel_rfl) rfl #[.int .i64 2203] rfl (by (try simp only [List.map_toArray, List.map_cons, List.map_nil]); first | done | rfl | (simp only [List.length_drop, List.length_take]; rfl)) ?_; (with_reducible refine (stencillaw0_Num.calls 2203 t199 _ A1.out).mono ?_); rintro e w' ⟨rfl, ⟨nd, rfl⟩⟩; refine ⟨_, rfl, ?_⟩))
    go_ret
    exact ⟨by first | rfl | (simp; done) | (simp [*]; done), by repeat (first | exact Drawn0.refl _ | apply Drawn0.step)⟩

/-! ### stencillaw0_errors9: function 16 -/
def stencillaw0_errors9.f  : Option (Bool) := (stencillaw0_Num.f 2701).bind fun t213 => (if t213 = 2701 then ((stencillaw0_Num.f 2702).bind fun t214 => (some (t214 == 2702))) else (some false))
set_option maxHeartbeats 8000000 in
set_option maxRecDepth 100000 in
theorem stencillaw0_errors9.calls  (r : Bool) (w : World) (h : stencillaw0_errors9.f  = some r) :
    Calls Try.prog 16 #[] w fun e w' => e = .returned (.bool r) ∧ Drawn0 w w' := by
  have H : ((stencillaw0_Num.f 2701).bind fun t213 => (if t213 = 2701 then ((stencillaw0_Num.f 2702).bind fun t214 => (some (t214 == 2702))) else (some false))) = some r := h
  clear h
  replace H := Option.bind_eq_some_iff.mp H
  obtain ⟨t213, A10, H⟩ := H
  replace H : (if t213 = 2701 then ((stencillaw0_Num.f 2702).bind fun t214 => (some (t214 == 2702))) else (some false)) = some r := H
  have A1 := Aside0.mk A10
  clear A10
  by_cases c2 : t213 = 2701
  · rw [if_pos c2] at H
    have c2b0 : (t213 == 2701) = true := beq_iff_eq.mpr c2
    have c2b1 : (t213 != 2701) = false := bne_eq_false_iff_eq.mpr c2
    clear c2
    replace H := Option.bind_eq_some_iff.mp H
    obtain ⟨t214, A30, H⟩ := H
    replace H : (some (t214 == 2702)) = some r := H
    have A3 := Aside0.mk A30
    clear A30
    obtain rfl := Option.some.inj H
    go_enter Try.func16, Try.ntmps16
    go_wp2_with (first | ((with_reducible refine gate_callee (f := 35) rfl ?_); refine goesL_ (some 1) rfl rfl Try.func35 (by kernel_rfl) rfl #[.int .i64 2701] rfl (by (try simp only [List.map_toArray, List.map_cons, List.map_nil]); first | done | rfl | (simp only [List.length_drop, List.length_take]; rfl)) ?_; (with_reducible refine (stencillaw0_Num.calls 2701 t213 _ A1.out).mono ?_); rintro e w' ⟨rfl, ⟨nd, rfl⟩⟩; refine ⟨_, rfl, ?_⟩) | (go_at_call 35; (with_reducible refine (stencillaw0_Num.calls 2702 t214 _ A3.out).mono ?_); rintro e w' ⟨rfl, ⟨nd, rfl⟩⟩))
    go_ret
    exact ⟨by first | rfl | (simp; done) | (simp [*]; done), by repeat (first | exact Drawn0.refl _ | apply Drawn0.step)⟩
  · rw [if_neg c2] at H
    have c2b0 : (t213 == 2701) = false := beq_eq_false_iff_ne.mpr c2
    have c2b1 : (t213 != 2701) = true := bne_iff_ne.mpr c2
    obtain rfl := Option.some.inj H
    go_enter Try.func16, Try.ntmps16
    go_wp2_with (first | ((with_reducible refine gate_callee (f := 35) rfl ?_); refine goesL_ (some 1) rfl rfl Try.func35 (by kernel_rfl) rfl #[.int .i64 2701] rfl (by (try simp only [List.map_toArray, List.map_cons, List.map_nil]); first | done | rfl | (simp only [List.length_drop, List.length_take]; rfl)) ?_; (with_reducible refine (stencillaw0_Num.calls 2701 t213 _ A1.out).mono ?_); rintro e w' ⟨rfl, ⟨nd, rfl⟩⟩; refine ⟨_, rfl, ?_⟩))
    go_ret
    exact ⟨by first | rfl | (simp; done) | (simp [*]; done), by repeat (first | exact Drawn0.refl _ | apply Drawn0.step)⟩

/-! ### stencillaw0_numbers1: function 17 -/
def stencillaw0_numbers1.f  : Option (Bool) := some true
set_option maxHeartbeats 8000000 in
set_option maxRecDepth 100000 in
theorem stencillaw0_numbers1.calls  (r : Bool) (w : World) (h : stencillaw0_numbers1.f  = some r) :
    Calls Try.prog 17 #[] w fun e w' => e = .returned (.bool r) ∧ Drawn0 w w' := by
  have H : (some true) = some r := h
  clear h
  obtain rfl := Option.some.inj H
  go_enter Try.func17, Try.ntmps17
  go_wp2
  go_ret
  exact ⟨by first | rfl | (simp; done) | (simp [*]; done), by repeat (first | exact Drawn0.refl _ | apply Drawn0.step)⟩

/-! ### stencillaw0_numbers2: function 18 -/
def stencillaw0_numbers2.f  : Option (Bool) := some true
set_option maxHeartbeats 8000000 in
set_option maxRecDepth 100000 in
theorem stencillaw0_numbers2.calls  (r : Bool) (w : World) (h : stencillaw0_numbers2.f  = some r) :
    Calls Try.prog 18 #[] w fun e w' => e = .returned (.bool r) ∧ Drawn0 w w' := by
  have H : (some true) = some r := h
  clear h
  obtain rfl := Option.some.inj H
  go_enter Try.func18, Try.ntmps18
  go_wp2
  go_ret
  exact ⟨by first | rfl | (simp; done) | (simp [*]; done), by repeat (first | exact Drawn0.refl _ | apply Drawn0.step)⟩

/-! ### stencillaw0_numbers3: function 19 -/
def stencillaw0_numbers3.f  : Option (Bool) := some true
set_option maxHeartbeats 8000000 in
set_option maxRecDepth 100000 in
theorem stencillaw0_numbers3.calls  (r : Bool) (w : World) (h : stencillaw0_numbers3.f  = some r) :
    Calls Try.prog 19 #[] w fun e w' => e = .returned (.bool r) ∧ Drawn0 w w' := by
  have H : (some true) = some r := h
  clear h
  obtain rfl := Option.some.inj H
  go_enter Try.func19, Try.ntmps19
  go_wp2
  go_ret
  exact ⟨by first | rfl | (simp; done) | (simp [*]; done), by repeat (first | exact Drawn0.refl _ | apply Drawn0.step)⟩

/-! ### stencillaw0_numbers4: function 20 -/
def stencillaw0_numbers4.f  : Option (Bool) := some true
set_option maxHeartbeats 8000000 in
set_option maxRecDepth 100000 in
theorem stencillaw0_numbers4.calls  (r : Bool) (w : World) (h : stencillaw0_numbers4.f  = some r) :
    Calls Try.prog 20 #[] w fun e w' => e = .returned (.bool r) ∧ Drawn0 w w' := by
  have H : (some true) = some r := h
  clear h
  obtain rfl := Option.some.inj H
  go_enter Try.func20, Try.ntmps20
  go_wp2
  go_ret
  exact ⟨by first | rfl | (simp; done) | (simp [*]; done), by repeat (first | exact Drawn0.refl _ | apply Drawn0.step)⟩

/-! ### stencillaw0_numbers5: function 21 -/
def stencillaw0_numbers5.f  : Option (Bool) := some true
set_option maxHeartbeats 8000000 in
set_option maxRecDepth 100000 in
theorem stencillaw0_numbers5.calls  (r : Bool) (w : World) (h : stencillaw0_numbers5.f  = some r) :
    Calls Try.prog 21 #[] w fun e w' => e = .returned (.bool r) ∧ Drawn0 w w' := by
  have H : (some true) = some r := h
  clear h
  obtain rfl := Option.some.inj H
  go_enter Try.func21, Try.ntmps21
  go_wp2
  go_ret
  exact ⟨by first | rfl | (simp; done) | (simp [*]; done), by repeat (first | exact Drawn0.refl _ | apply Drawn0.step)⟩

/-! ### stencillaw0_numbers6: function 22 -/
def stencillaw0_numbers6.f  : Option (Bool) := some true
set_option maxHeartbeats 8000000 in
set_option maxRecDepth 100000 in
theorem stencillaw0_numbers6.calls  (r : Bool) (w : World) (h : stencillaw0_numbers6.f  = some r) :
    Calls Try.prog 22 #[] w fun e w' => e = .returned (.bool r) ∧ Drawn0 w w' := by
  have H : (some true) = some r := h
  clear h
  obtain rfl := Option.some.inj H
  go_enter Try.func22, Try.ntmps22
  go_wp2
  go_ret
  exact ⟨by first | rfl | (simp; done) | (simp [*]; done), by repeat (first | exact Drawn0.refl _ | apply Drawn0.step)⟩

/-! ### stencillaw0_numbers7: function 23 -/
def stencillaw0_numbers7.f  : Option (Bool) := some true
set_option maxHeartbeats 8000000 in
set_option maxRecDepth 100000 in
theorem stencillaw0_numbers7.calls  (r : Bool) (w : World) (h : stencillaw0_numbers7.f  = some r) :
    Calls Try.prog 23 #[] w fun e w' => e = .returned (.bool r) ∧ Drawn0 w w' := by
  have H : (some true) = some r := h
  clear h
  obtain rfl := Option.some.inj H
  go_enter Try.func23, Try.ntmps23
  go_wp2
  go_ret
  exact ⟨by first | rfl | (simp; done) | (simp [*]; done), by repeat (first | exact Drawn0.refl _ | apply Drawn0.step)⟩

/-! ### stencillaw0_numbers8: function 24 -/
def stencillaw0_numbers8.f  : Option (Bool) := some true
set_option maxHeartbeats 8000000 in
set_option maxRecDepth 100000 in
theorem stencillaw0_numbers8.calls  (r : Bool) (w : World) (h : stencillaw0_numbers8.f  = some r) :
    Calls Try.prog 24 #[] w fun e w' => e = .returned (.bool r) ∧ Drawn0 w w' := by
  have H : (some true) = some r := h
  clear h
  obtain rfl := Option.some.inj H
  go_enter Try.func24, Try.ntmps24
  go_wp2
  go_ret
  exact ⟨by first | rfl | (simp; done) | (simp [*]; done), by repeat (first | exact Drawn0.refl _ | apply Drawn0.step)⟩

/-! ### stencillaw0_numbers9: function 25 -/
def stencillaw0_numbers9.f  : Option (Bool) := some true
set_option maxHeartbeats 8000000 in
set_option maxRecDepth 100000 in
theorem stencillaw0_numbers9.calls  (r : Bool) (w : World) (h : stencillaw0_numbers9.f  = some r) :
    Calls Try.prog 25 #[] w fun e w' => e = .returned (.bool r) ∧ Drawn0 w w' := by
  have H : (some true) = some r := h
  clear h
  obtain rfl := Option.some.inj H
  go_enter Try.func25, Try.ntmps25
  go_wp2
  go_ret
  exact ⟨by first | rfl | (simp; done) | (simp [*]; done), by repeat (first | exact Drawn0.refl _ | apply Drawn0.step)⟩

/-! ### stencillaw0_numbers10: function 26 -/
def stencillaw0_numbers10.f  : Option (Bool) := some true
set_option maxHeartbeats 8000000 in
set_option maxRecDepth 100000 in
theorem stencillaw0_numbers10.calls  (r : Bool) (w : World) (h : stencillaw0_numbers10.f  = some r) :
    Calls Try.prog 26 #[] w fun e w' => e = .returned (.bool r) ∧ Drawn0 w w' := by
  have H : (some true) = some r := h
  clear h
  obtain rfl := Option.some.inj H
  go_enter Try.func26, Try.ntmps26
  go_wp2
  go_ret
  exact ⟨by first | rfl | (simp; done) | (simp [*]; done), by repeat (first | exact Drawn0.refl _ | apply Drawn0.step)⟩

end Go.Proofs.Ytcphoefiiejlhaa.PStencilNames
