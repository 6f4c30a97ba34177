/- What each function comes to, by value. Printed by a tool of this claim's author; each equation is checked by the kernel. -/
import Derived.Test.YtahpohhadcflfaaZHints
import Derived.Test.YtahpohhadcflfaaZC
import Derived.KernelRfl
import Derived.Test.YtahpohhadcflfaaZEqA
namespace Go.Abs
open Go Go.Proofs
set_option linter.unusedVariables false
/-! (*stencil/patch.rendering).spot -/
abbrev p58_0 : List Dir := [.sr, .sr, .sr, .sr, .sl, .sr, .bk]
theorem F58 (r0 : AV) (i1 : Int) (st : St) {r : AOut × St} (h : ((nilCheckA r0).bind fun v =>
  (ptrAdd 0 v).bind fun v =>
    (readA st v 1 false).bind fun v =>
      (natA (AV.int IntKind.i64 i1)).bind fun j =>
        (idxSl st 30 v j).bind fun v =>
          (nilCheckA v).bind fun v_1 =>
            (ptrAdd 26 v_1).bind fun v_2 =>
              (readA st v_2 1 false).bind fun v_3 =>
                (intV IntKind.i64 v_3).bind fun n =>
                  if decide (n < -1) = true then outL false (st.length) (AOut.ret (AV.bool false)) st
                  else
                    (nilCheckA v).bind fun v_4 =>
                      (ptrAdd 26 v_4).bind fun v_5 =>
                        (readA st v_5 1 false).bind fun v_6 =>
                          (intV IntKind.i64 v_6).bind fun n =>
                            if decide (n ≥ i1) = true then outL false (st.length) (AOut.ret (AV.bool false)) st
                            else
                              (nilCheckA v).bind fun v_7 =>
                                (ptrAdd 26 v_7).bind fun v_8 =>
                                  (readA st v_8 1 false).bind fun v_9 =>
                                    (intV IntKind.i64 v_9).bind fun n =>
                                      if decide (n ≥ 0) = true then
                                        (nilCheckA r0).bind fun v_10 =>
                                          (ptrAdd 0 v_10).bind fun v_11 =>
                                            (readA st v_11 1 false).bind fun v_12 =>
                                              (nilCheckA v).bind fun v_13 =>
                                                (ptrAdd 26 v_13).bind fun v_14 =>
                                                  (readA st v_14 1 false).bind fun v_15 =>
                                                    (intV IntKind.i64 v_15).bind fun n =>
                                                      (natA (AV.int IntKind.i64 n)).bind fun j =>
                                                        (idxSl st 30 v_12 j).bind fun v_16 =>
                                                          (ptrAdd 27 v_16).bind fun v_17 =>
                                                            (readA st v_17 1 false).bind fun v_18 =>
                                                              (strV v_18).bind fun s =>
                                                                (strA BinOp.eql s []).bind fun v_19 =>
                                                                  (boolV v_19).bind fun b =>
                                                                    if b = true then outL false (st.length) (AOut.ret (AV.bool false)) st
                                                                    else
                                                                      (nilCheckA v).bind fun v_20 =>
                                                                        (ptrAdd 0 v_20).bind fun v_21 =>
                                                                          callB (cw 66 [v_21] st)
                                                                            (fun v_22 st_1 =>
                                                                              (boolV v_22).bind fun b =>
                                                                                if (!b) = true then outL false (st.length) (AOut.ret (AV.bool false)) st_1
                                                                                else
                                                                                  (nilCheckA v).bind fun v_23 =>
                                                                                    (ptrAdd 27 v_23).bind fun v_24 =>
                                                                                      (readA st_1 v_24 1 false).bind fun v_25 =>
                                                                                        (strV v_25).bind fun s =>
                                                                                          (strA BinOp.neq s []).bind fun v_26 =>
                                                                                            (boolV v_26).bind fun b =>
                                                                                              if b = true then
                                                                                                (nilCheckA v).bind fun v_27 =>
                                                                                                  (ptrAdd 28 v_27).bind fun v_28 =>
                                                                                                    (readA st_1 v_28 1 false).bind fun v_29 =>
                                                                                                      (strV v_29).bind fun s =>
                                                                                                        (strA BinOp.neq s []).bind fun v_30 =>
                                                                                                          (boolV v_30).bind fun b =>
                                                                                                            if b = true then outL false (st.length) (AOut.ret (AV.bool false)) st_1
                                                                                                            else
                                                                                                              (nilCheckA v).bind fun v_31 =>
                                                                                                                (ptrAdd 27 v_31).bind fun v_32 =>
                                                                                                                  (readA st_1 v_32 1 false).bind fun v_33 =>
                                                                                                                    (strV v_33).bind fun s =>
                                                                                                                      (strA BinOp.eql s []).bind fun v_34 =>
                                                                                                                        (boolV v_34).bind fun b =>
                                                                                                                          if b = true then
                                                                                                                            (nilCheckA v).bind fun v_35 =>
                                                                                                                              (ptrAdd 29 v_35).bind fun v_36 =>
                                                                                                                                (readA st_1 v_36 1 false).bind fun v_37 =>
                                                                                                                                  (lenSl v_37).bind fun v_38 =>
                                                                                                                                    (intV IntKind.i64 v_38).bind fun n =>
                                                                                                                                      if decide (n > 0) = true then outL false (st.length) (AOut.ret (AV.bool false)) st_1
                                                                                                                                      else
                                                                                                                                        aw 58 (st.length) p58_0
                                                                                                                                          { env := [(0, r0), (1, AV.int IntKind.i64 i1), (5, v), (6, AV.int IntKind.i64 1)], defers := [] } st_1
                                                                                                                          else
                                                                                                                            aw 58 (st.length) p58_0
                                                                                                                              { env := [(0, r0), (1, AV.int IntKind.i64 i1), (5, v), (6, AV.int IntKind.i64 1)], defers := [] } st_1
                                                                                              else
                                                                                                (nilCheckA v).bind fun v_27 =>
                                                                                                  (ptrAdd 27 v_27).bind fun v_28 =>
                                                                                                    (readA st_1 v_28 1 false).bind fun v_29 =>
                                                                                                      (strV v_29).bind fun s =>
                                                                                                        (strA BinOp.eql s []).bind fun v_30 =>
                                                                                                          (boolV v_30).bind fun b =>
                                                                                                            if b = true then
                                                                                                              (nilCheckA v).bind fun v_31 =>
                                                                                                                (ptrAdd 29 v_31).bind fun v_32 =>
                                                                                                                  (readA st_1 v_32 1 false).bind fun v_33 =>
                                                                                                                    (lenSl v_33).bind fun v_34 =>
                                                                                                                      (intV IntKind.i64 v_34).bind fun n =>
                                                                                                                        if decide (n > 0) = true then outL false (st.length) (AOut.ret (AV.bool false)) st_1
                                                                                                                        else
                                                                                                                          aw 58 (st.length) p58_0
                                                                                                                            { env := [(0, r0), (1, AV.int IntKind.i64 i1), (5, v), (6, AV.int IntKind.i64 1)], defers := [] } st_1
                                                                                                            else
                                                                                                              aw 58 (st.length) p58_0
                                                                                                                { env := [(0, r0), (1, AV.int IntKind.i64 i1), (5, v), (6, AV.int IntKind.i64 1)], defers := [] } st_1)
                                                                            fun v st_1 => outL false (st.length) (AOut.pan v) st_1
                                      else
                                        (nilCheckA v).bind fun v_10 =>
                                          (ptrAdd 0 v_10).bind fun v_11 =>
                                            callB (cw 66 [v_11] st)
                                              (fun v_12 st_1 =>
                                                (boolV v_12).bind fun b =>
                                                  if (!b) = true then outL false (st.length) (AOut.ret (AV.bool false)) st_1
                                                  else
                                                    (nilCheckA v).bind fun v_13 =>
                                                      (ptrAdd 27 v_13).bind fun v_14 =>
                                                        (readA st_1 v_14 1 false).bind fun v_15 =>
                                                          (strV v_15).bind fun s =>
                                                            (strA BinOp.neq s []).bind fun v_16 =>
                                                              (boolV v_16).bind fun b =>
                                                                if b = true then
                                                                  (nilCheckA v).bind fun v_17 =>
                                                                    (ptrAdd 28 v_17).bind fun v_18 =>
                                                                      (readA st_1 v_18 1 false).bind fun v_19 =>
                                                                        (strV v_19).bind fun s =>
                                                                          (strA BinOp.neq s []).bind fun v_20 =>
                                                                            (boolV v_20).bind fun b =>
                                                                              if b = true then outL false (st.length) (AOut.ret (AV.bool false)) st_1
                                                                              else
                                                                                (nilCheckA v).bind fun v_21 =>
                                                                                  (ptrAdd 27 v_21).bind fun v_22 =>
                                                                                    (readA st_1 v_22 1 false).bind fun v_23 =>
                                                                                      (strV v_23).bind fun s =>
                                                                                        (strA BinOp.eql s []).bind fun v_24 =>
                                                                                          (boolV v_24).bind fun b =>
                                                                                            if b = true then
                                                                                              (nilCheckA v).bind fun v_25 =>
                                                                                                (ptrAdd 29 v_25).bind fun v_26 =>
                                                                                                  (readA st_1 v_26 1 false).bind fun v_27 =>
                                                                                                    (lenSl v_27).bind fun v_28 =>
                                                                                                      (intV IntKind.i64 v_28).bind fun n =>
                                                                                                        if decide (n > 0) = true then outL false (st.length) (AOut.ret (AV.bool false)) st_1
                                                                                                        else
                                                                                                          aw 58 (st.length) p58_0
                                                                                                            { env := [(0, r0), (1, AV.int IntKind.i64 i1), (5, v), (6, AV.int IntKind.i64 1)], defers := [] } st_1
                                                                                            else
                                                                                              aw 58 (st.length) p58_0 { env := [(0, r0), (1, AV.int IntKind.i64 i1), (5, v), (6, AV.int IntKind.i64 1)], defers := [] }
                                                                                                st_1
                                                                else
                                                                  (nilCheckA v).bind fun v_17 =>
                                                                    (ptrAdd 27 v_17).bind fun v_18 =>
                                                                      (readA st_1 v_18 1 false).bind fun v_19 =>
                                                                        (strV v_19).bind fun s =>
                                                                          (strA BinOp.eql s []).bind fun v_20 =>
                                                                            (boolV v_20).bind fun b =>
                                                                              if b = true then
                                                                                (nilCheckA v).bind fun v_21 =>
                                                                                  (ptrAdd 29 v_21).bind fun v_22 =>
                                                                                    (readA st_1 v_22 1 false).bind fun v_23 =>
                                                                                      (lenSl v_23).bind fun v_24 =>
                                                                                        (intV IntKind.i64 v_24).bind fun n =>
                                                                                          if decide (n > 0) = true then outL false (st.length) (AOut.ret (AV.bool false)) st_1
                                                                                          else
                                                                                            aw 58 (st.length) p58_0 { env := [(0, r0), (1, AV.int IntKind.i64 i1), (5, v), (6, AV.int IntKind.i64 1)], defers := [] }
                                                                                              st_1
                                                                              else aw 58 (st.length) p58_0 { env := [(0, r0), (1, AV.int IntKind.i64 i1), (5, v), (6, AV.int IntKind.i64 1)], defers := [] } st_1)
                                              fun v st_1 => outL false (st.length) (AOut.pan v) st_1) = some r) :
    cw 58 [r0, AV.int IntKind.i64 i1] st = some r := callW_of (Eq.trans (by kernel_rfl) h)
theorem F58_0 (r0 : AV) (i1 : Int) (s5 : AV) (k6 : Int) (base : Nat) (st : St) {r : AOut × St} (h : ((nilCheckA s5).bind fun v =>
  (ptrAdd 29 v).bind fun v =>
    (readA st v 1 false).bind fun v =>
      (lenSl v).bind fun v =>
        (intV IntKind.i64 v).bind fun n =>
          if decide (k6 < n) = true then
            (nilCheckA s5).bind fun v =>
              (ptrAdd 29 v).bind fun v =>
                (readA st v 1 false).bind fun v =>
                  (natA (AV.int IntKind.i64 (IntKind.i64.wrap (k6 - 1)))).bind fun j =>
                    (idxSl st 2 v j).bind fun v =>
                      (ptrAdd 0 v).bind fun v =>
                        (readA st v 1 false).bind fun v =>
                          (strV v).bind fun s =>
                            (nilCheckA s5).bind fun v =>
                              (ptrAdd 29 v).bind fun v =>
                                (readA st v 1 false).bind fun v =>
                                  (natA (AV.int IntKind.i64 k6)).bind fun j =>
                                    (idxSl st 2 v j).bind fun v =>
                                      (ptrAdd 0 v).bind fun v =>
                                        (readA st v 1 false).bind fun v =>
                                          (strV v).bind fun s_1 =>
                                            (strA BinOp.geq s s_1).bind fun v =>
                                              (boolV v).bind fun b =>
                                                if b = true then outL false base (AOut.ret (AV.bool false)) st
                                                else aw 58 base p58_0 { env := [(0, r0), (1, AV.int IntKind.i64 i1), (5, s5), (6, AV.int IntKind.i64 (IntKind.i64.wrap (k6 + 1)))], defers := [] } st
          else
            (nilCheckA r0).bind fun v =>
              (ptrAdd 2 v).bind fun v =>
                (readA st v 1 false).bind fun v =>
                  (nilCheckA s5).bind fun v_1 =>
                    (ptrAdd 0 v_1).bind fun v_2 =>
                      (readA st v_2 26 true).bind fun v_3 =>
                        (lookupA Try.prog st 77 v v_3 true).bind fun v =>
                          (extractA 0 v).bind fun v_4 =>
                            (intV IntKind.i64 v_4).bind fun n =>
                              (extractA 1 v).bind fun v =>
                                (boolV v).bind fun b =>
                                  (nilCheckA r0).bind fun v =>
                                    (ptrAdd 2 v).bind fun v =>
                                      (readA st v 1 false).bind fun v =>
                                        (nilCheckA s5).bind fun v_5 =>
                                          (ptrAdd 0 v_5).bind fun v_6 => (readA st v_6 26 true).bind fun v_7 => (mapUpdateA Try.prog st 77 v v_7 (AV.int IntKind.i64 i1)).bind fun st => outL false base (AOut.ret (AV.bool !b)) st) = some r) :
    aw 58 base p58_0 { env := [(0, r0), (1, AV.int IntKind.i64 i1), (5, s5), (6, AV.int IntKind.i64 k6)], defers := [] } st = some r := atW_of (Eq.trans (by kernel_rfl) h)
end Go.Abs
