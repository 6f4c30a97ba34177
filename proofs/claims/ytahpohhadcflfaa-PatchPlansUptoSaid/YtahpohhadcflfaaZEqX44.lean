/- What each function comes to, by value. Printed by a tool of this claim's author; each equation is checked by the kernel. -/
import Derived.Test.YtahpohhadcflfaaZHints
import Derived.Test.YtahpohhadcflfaaZC
import Derived.KernelRfl
import Derived.Test.YtahpohhadcflfaaZEqA
namespace Go.Abs
open Go Go.Proofs
set_option linter.unusedVariables false
/-! stencil/stencilref18.spots -/
abbrev p44_0 : List Dir := [.sr, .sl, .sr, .bk]
abbrev p44_1 (n2 : Nat) : List Dir := [.sr, .sl, .sr, .bk, .lp n2, .sr, .sl, .bk, .sr, .sr, .sr, .sr, .bk]
theorem F44 (ss0 : AV) (st : St) {r : AOut × St} (h : (aw 44 (st.length) p44_0 { env := [(0, ss0), (3, AV.int IntKind.i64 0)], defers := [] } st) = some r) :
    cw 44 [ss0] st = some r := callW_of (Eq.trans (by kernel_rfl) h)
theorem F44_0 (ss0 : AV) (i3 : Int) (base : Nat) (st : St) {r : AOut × St} (h : ((lenSl ss0).bind fun v =>
  (intV IntKind.i64 v).bind fun n =>
    if decide (i3 < n) = true then
      (natA (AV.int IntKind.i64 i3)).bind fun j =>
        (idxSl st 30 ss0 j).bind fun v =>
          (readA st v 30 true).bind fun v =>
            (cellsV 30 v).bind fun cs =>
              (writeA
                    (AObj.free 0 ::
                      AObj.box 70
                          [AV.int IntKind.i64 0, AV.int IntKind.i64 0, AV.int IntKind.i64 0, AV.int IntKind.i64 0, AV.str [], AV.int IntKind.i64 0, AV.int IntKind.i64 0, AV.str [], AV.int IntKind.i64 0, AV.int IntKind.i64 0, AV.str [],
                            AV.int IntKind.i64 0, AV.int IntKind.i64 0, AV.str [], AV.int IntKind.i64 0, AV.int IntKind.i64 0, AV.str [], AV.int IntKind.i64 0, AV.int IntKind.i64 0, AV.str [], AV.int IntKind.i64 0, AV.int IntKind.i64 0,
                            AV.str [], AV.int IntKind.i64 0, AV.int IntKind.i64 0, AV.str [], AV.int IntKind.i64 0, AV.str [], AV.str [], AV.nils] ::
                        st)
                    (AV.bp (st.length) 0) cs).bind
                fun st_1 =>
                (readA st_1 (AV.bp (st.length) 0) 26 true).bind fun v =>
                  callB (cw 61 [v] st_1)
                    (fun v st_2 =>
                      (boolV v).bind fun b =>
                        if (!b) = true then outL false base (AOut.ret (AV.bool false)) st_2
                        else
                          (sliceSl st_2 30 ss0 none (some (AV.int IntKind.i64 i3)) none).bind fun v =>
                            (readA st_2 (AV.bp (st.length) 0) 26 true).bind fun v_1 =>
                              callB (cw 46 [v, v_1] st_2)
                                (fun v st_3 =>
                                  (intV IntKind.i64 v).bind fun n =>
                                    if decide (n ≥ 0) = true then outL false base (AOut.ret (AV.bool false)) st_3
                                    else
                                      (readA st_3 (AV.bp (st.length) 26) 1 false).bind fun v =>
                                        (intV IntKind.i64 v).bind fun n =>
                                          if decide (n < -1) = true then outL false base (AOut.ret (AV.bool false)) st_3
                                          else
                                            (readA st_3 (AV.bp (st.length) 26) 1 false).bind fun v =>
                                              (intV IntKind.i64 v).bind fun n =>
                                                if decide (n ≥ i3) = true then outL false base (AOut.ret (AV.bool false)) st_3
                                                else
                                                  (readA st_3 (AV.bp (st.length) 26) 1 false).bind fun v =>
                                                    (intV IntKind.i64 v).bind fun n =>
                                                      if decide (n ≥ 0) = true then
                                                        (readA st_3 (AV.bp (st.length) 26) 1 false).bind fun v =>
                                                          (intV IntKind.i64 v).bind fun n =>
                                                            (natA (AV.int IntKind.i64 n)).bind fun j =>
                                                              (idxSl st_3 30 ss0 j).bind fun v =>
                                                                (ptrAdd 27 v).bind fun v =>
                                                                  (readA st_3 v 1 false).bind fun v =>
                                                                    (strV v).bind fun s =>
                                                                      (strA BinOp.eql s []).bind fun v =>
                                                                        (boolV v).bind fun b =>
                                                                          if b = true then outL false base (AOut.ret (AV.bool false)) st_3
                                                                          else
                                                                            (readA st_3 (AV.bp (st.length) 27) 1 false).bind fun v =>
                                                                              (strV v).bind fun s =>
                                                                                (strA BinOp.neq s []).bind fun v =>
                                                                                  (boolV v).bind fun b =>
                                                                                    if b = true then
                                                                                      (readA st_3 (AV.bp (st.length) 28) 1 false).bind fun v =>
                                                                                        (strV v).bind fun s =>
                                                                                          (strA BinOp.neq s []).bind fun v =>
                                                                                            (boolV v).bind fun b =>
                                                                                              if b = true then outL false base (AOut.ret (AV.bool false)) st_3
                                                                                              else
                                                                                                (readA st_3 (AV.bp (st.length) 27) 1 false).bind fun v =>
                                                                                                  (strV v).bind fun s =>
                                                                                                    (strA BinOp.eql s []).bind fun v =>
                                                                                                      (boolV v).bind fun b =>
                                                                                                        if b = true then
                                                                                                          (readA st_3 (AV.bp (st.length) 29) 1 false).bind fun v =>
                                                                                                            (lenSl v).bind fun v =>
                                                                                                              (intV IntKind.i64 v).bind fun n =>
                                                                                                                if decide (n > 0) = true then outL false base (AOut.ret (AV.bool false)) st_3
                                                                                                                else
                                                                                                                  aw 44 base (p44_1 (st.length))
                                                                                                                    { env := [(0, ss0), (3, AV.int IntKind.i64 i3), (4, AV.bp (st.length) 0), (5, AV.int IntKind.i64 1)], defers := [] }
                                                                                                                    st_3
                                                                                                        else
                                                                                                          aw 44 base (p44_1 (st.length))
                                                                                                            { env := [(0, ss0), (3, AV.int IntKind.i64 i3), (4, AV.bp (st.length) 0), (5, AV.int IntKind.i64 1)], defers := [] } st_3
                                                                                    else
                                                                                      (readA st_3 (AV.bp (st.length) 27) 1 false).bind fun v =>
                                                                                        (strV v).bind fun s =>
                                                                                          (strA BinOp.eql s []).bind fun v =>
                                                                                            (boolV v).bind fun b =>
                                                                                              if b = true then
                                                                                                (readA st_3 (AV.bp (st.length) 29) 1 false).bind fun v =>
                                                                                                  (lenSl v).bind fun v =>
                                                                                                    (intV IntKind.i64 v).bind fun n =>
                                                                                                      if decide (n > 0) = true then outL false base (AOut.ret (AV.bool false)) st_3
                                                                                                      else
                                                                                                        aw 44 base (p44_1 (st.length))
                                                                                                          { env := [(0, ss0), (3, AV.int IntKind.i64 i3), (4, AV.bp (st.length) 0), (5, AV.int IntKind.i64 1)], defers := [] } st_3
                                                                                              else
                                                                                                aw 44 base (p44_1 (st.length))
                                                                                                  { env := [(0, ss0), (3, AV.int IntKind.i64 i3), (4, AV.bp (st.length) 0), (5, AV.int IntKind.i64 1)], defers := [] } st_3
                                                      else
                                                        (readA st_3 (AV.bp (st.length) 27) 1 false).bind fun v =>
                                                          (strV v).bind fun s =>
                                                            (strA BinOp.neq s []).bind fun v =>
                                                              (boolV v).bind fun b =>
                                                                if b = true then
                                                                  (readA st_3 (AV.bp (st.length) 28) 1 false).bind fun v =>
                                                                    (strV v).bind fun s =>
                                                                      (strA BinOp.neq s []).bind fun v =>
                                                                        (boolV v).bind fun b =>
                                                                          if b = true then outL false base (AOut.ret (AV.bool false)) st_3
                                                                          else
                                                                            (readA st_3 (AV.bp (st.length) 27) 1 false).bind fun v =>
                                                                              (strV v).bind fun s =>
                                                                                (strA BinOp.eql s []).bind fun v =>
                                                                                  (boolV v).bind fun b =>
                                                                                    if b = true then
                                                                                      (readA st_3 (AV.bp (st.length) 29) 1 false).bind fun v =>
                                                                                        (lenSl v).bind fun v =>
                                                                                          (intV IntKind.i64 v).bind fun n =>
                                                                                            if decide (n > 0) = true then outL false base (AOut.ret (AV.bool false)) st_3
                                                                                            else
                                                                                              aw 44 base (p44_1 (st.length))
                                                                                                { env := [(0, ss0), (3, AV.int IntKind.i64 i3), (4, AV.bp (st.length) 0), (5, AV.int IntKind.i64 1)], defers := [] } st_3
                                                                                    else
                                                                                      aw 44 base (p44_1 (st.length))
                                                                                        { env := [(0, ss0), (3, AV.int IntKind.i64 i3), (4, AV.bp (st.length) 0), (5, AV.int IntKind.i64 1)], defers := [] } st_3
                                                                else
                                                                  (readA st_3 (AV.bp (st.length) 27) 1 false).bind fun v =>
                                                                    (strV v).bind fun s =>
                                                                      (strA BinOp.eql s []).bind fun v =>
                                                                        (boolV v).bind fun b =>
                                                                          if b = true then
                                                                            (readA st_3 (AV.bp (st.length) 29) 1 false).bind fun v =>
                                                                              (lenSl v).bind fun v =>
                                                                                (intV IntKind.i64 v).bind fun n =>
                                                                                  if decide (n > 0) = true then outL false base (AOut.ret (AV.bool false)) st_3
                                                                                  else
                                                                                    aw 44 base (p44_1 (st.length))
                                                                                      { env := [(0, ss0), (3, AV.int IntKind.i64 i3), (4, AV.bp (st.length) 0), (5, AV.int IntKind.i64 1)], defers := [] } st_3
                                                                          else
                                                                            aw 44 base (p44_1 (st.length))
                                                                              { env := [(0, ss0), (3, AV.int IntKind.i64 i3), (4, AV.bp (st.length) 0), (5, AV.int IntKind.i64 1)], defers := [] } st_3)
                                fun v st => outL false base (AOut.pan v) st)
                    fun v st => outL false base (AOut.pan v) st
    else outL false base (AOut.ret (AV.bool true)) st) = some r) :
    aw 44 base (p44_0) { env := [(0, ss0), (3, AV.int IntKind.i64 i3)], defers := [] } st = some r := atW_of (Eq.trans (by kernel_rfl) h)
theorem F44_1 (ss0 : AV) (i3 : Int) (s4 : AV) (k5 : Int) (base : Nat) (n2 : Nat) (st : St) {r : AOut × St} (h : ((ptrAdd 29 s4).bind fun v =>
  (readA st v 1 false).bind fun v =>
    (lenSl v).bind fun v =>
      (intV IntKind.i64 v).bind fun n =>
        if decide (k5 < n) = true then
          (ptrAdd 29 s4).bind fun v =>
            (readA st v 1 false).bind fun v =>
              (natA (AV.int IntKind.i64 (IntKind.i64.wrap (k5 - 1)))).bind fun j =>
                (idxSl st 2 v j).bind fun v =>
                  (ptrAdd 0 v).bind fun v =>
                    (readA st v 1 false).bind fun v =>
                      (strV v).bind fun s =>
                        (ptrAdd 29 s4).bind fun v =>
                          (readA st v 1 false).bind fun v =>
                            (natA (AV.int IntKind.i64 k5)).bind fun j =>
                              (idxSl st 2 v j).bind fun v =>
                                (ptrAdd 0 v).bind fun v =>
                                  (readA st v 1 false).bind fun v =>
                                    (strV v).bind fun s_1 =>
                                      (strA BinOp.geq s s_1).bind fun v =>
                                        (boolV v).bind fun b =>
                                          if b = true then outL false base (AOut.ret (AV.bool false)) st
                                          else
                                            (roundV (st.length) { env := [(0, ss0), (3, AV.int IntKind.i64 i3), (4, s4), (5, AV.int IntKind.i64 (IntKind.i64.wrap (k5 + 1)))], defers := [] } st).bind fun e =>
                                              aw 44 base (p44_1 n2) e.fst e.snd
        else (roundV n2 { env := [(0, ss0), (3, AV.int IntKind.i64 (IntKind.i64.wrap (i3 + 1)))], defers := [] } st).bind fun e => aw 44 base p44_0 e.fst e.snd) = some r) :
    aw 44 base (p44_1 n2) { env := [(0, ss0), (3, AV.int IntKind.i64 i3), (4, s4), (5, AV.int IntKind.i64 k5)], defers := [] } st = some r := atW_of (Eq.trans (by kernel_rfl) h)
end Go.Abs
