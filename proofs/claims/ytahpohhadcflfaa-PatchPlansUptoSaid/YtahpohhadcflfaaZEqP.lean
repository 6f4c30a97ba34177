/- What each function comes to, by value. Printed by a tool of this claim's author; each equation is checked by the kernel. -/
import Derived.Test.YtahpohhadcflfaaZHints
import Derived.Test.YtahpohhadcflfaaZC
import Derived.KernelRfl
import Derived.Test.YtahpohhadcflfaaZEqA
namespace Go.Abs
open Go Go.Proofs
set_option linter.unusedVariables false
/-! stencil/stencillaw18.PatchPlans -/
theorem F8 (olds0 : AV) (oldLoops1 : AV) (news2 : AV) (newLoops3 : AV) (st : St) {r : AOut × St} (h : (callB (cw 23 [olds0] st)
  (fun v st_1 =>
    callB (cw 24 [oldLoops1] st_1)
      (fun v_1 st_2 =>
        callB (cw 23 [news2] st_2)
          (fun v_2 st_3 =>
            callB (cw 24 [newLoops3] st_3)
              (fun v_3 st_4 =>
                callB (cw 25 [v, v_1, v_2, v_3] st_4)
                  (fun v_4 st_5 =>
                    (extractA 0 v_4).bind fun v_5 =>
                      (extractA 1 v_4).bind fun v_6 =>
                        (intV IntKind.i64 v_6).bind fun n =>
                          (cellsV 10 v_5).bind fun cs =>
                            (writeA
                                  (AObj.free 0 ::
                                    AObj.free 0 ::
                                      AObj.free 0 ::
                                        AObj.box 46 [AV.nils, AV.nils, AV.nils, AV.int IntKind.i64 0, AV.int IntKind.i64 0, AV.int IntKind.i64 0, AV.int IntKind.i64 0, AV.int IntKind.i64 0, AV.int IntKind.i64 0, AV.int IntKind.i64 0] ::
                                          st_5)
                                  (AV.bp (st_5.length) 0) cs).bind
                              fun st_6 =>
                              callB (cw 25 [v, v_1, v_2, v_3] st_6)
                                (fun v_7 st_7 =>
                                  (extractA 0 v_7).bind fun v_8 =>
                                    (extractA 1 v_7).bind fun v_9 =>
                                      (intV IntKind.i64 v_9).bind fun n_1 =>
                                        (cellsV 10 v_8).bind fun cs =>
                                          (writeA
                                                (AObj.free 0 ::
                                                  AObj.free 0 ::
                                                    AObj.free 0 ::
                                                      AObj.box 46
                                                          [AV.nils, AV.nils, AV.nils, AV.int IntKind.i64 0, AV.int IntKind.i64 0, AV.int IntKind.i64 0, AV.int IntKind.i64 0, AV.int IntKind.i64 0, AV.int IntKind.i64 0,
                                                            AV.int IntKind.i64 0] ::
                                                        st_7)
                                                (AV.bp (st_7.length) 0) cs).bind
                                            fun st_8 =>
                                            callB (cw 26 [olds0, oldLoops1, news2, newLoops3] st_8)
                                              (fun v_10 st_9 =>
                                                (extractA 0 v_10).bind fun v_11 =>
                                                  (extractA 1 v_10).bind fun v_12 =>
                                                    (intV IntKind.i64 v_12).bind fun n_2 =>
                                                      (cellsV 10 v_11).bind fun cs =>
                                                        (writeA
                                                              (AObj.free 0 ::
                                                                AObj.free 0 ::
                                                                  AObj.free 0 ::
                                                                    AObj.box 46
                                                                        [AV.nils, AV.nils, AV.nils, AV.int IntKind.i64 0, AV.int IntKind.i64 0, AV.int IntKind.i64 0, AV.int IntKind.i64 0, AV.int IntKind.i64 0, AV.int IntKind.i64 0,
                                                                          AV.int IntKind.i64 0] ::
                                                                      st_9)
                                                              (AV.bp (st_9.length) 0) cs).bind
                                                          fun st_10 =>
                                                          callB (cw 19 [AV.int IntKind.i64 n] st_10)
                                                            (fun v_13 st_11 =>
                                                              (intV IntKind.i64 v_13).bind fun n =>
                                                                if (n != n_2) = true then outL false (st.length) (AOut.ret (AV.bool false)) st_11
                                                                else
                                                                  callB (cw 19 [AV.int IntKind.i64 n_1] st_11)
                                                                    (fun v_14 st_12 =>
                                                                      (intV IntKind.i64 v_14).bind fun n =>
                                                                        if (n != n_2) = true then outL false (st.length) (AOut.ret (AV.bool false)) st_12
                                                                        else
                                                                          (readA st_12 (AV.bp (st_5.length) 0) 10 true).bind fun v_15 =>
                                                                            (readA st_12 (AV.bp (st_9.length) 0) 10 true).bind fun v_16 =>
                                                                              callB (cw 27 [v_15, v_16] st_12)
                                                                                (fun v_17 st_13 =>
                                                                                  (boolV v_17).bind fun b =>
                                                                                    if (!b) = true then outL false (st.length) (AOut.ret (AV.bool false)) st_13
                                                                                    else
                                                                                      (readA st_13 (AV.bp (st_5.length) 0) 10 true).bind fun v_18 =>
                                                                                        callB (cw 28 [v_18] st_13)
                                                                                          (fun v_19 st_14 =>
                                                                                            (readA st_14 (AV.bp (st_7.length) 0) 10 true).bind fun v_20 =>
                                                                                              (readA st_14 (AV.bp (st_9.length) 0) 10 true).bind fun v_21 =>
                                                                                                callB (cw 27 [v_20, v_21] st_14)
                                                                                                  (fun v_22 st_15 =>
                                                                                                    (boolV v_22).bind fun b =>
                                                                                                      if b = true then
                                                                                                        callB (cw 29 [v, olds0] st_15)
                                                                                                          (fun v st_16 =>
                                                                                                            (boolV v).bind fun b =>
                                                                                                              if b = true then
                                                                                                                callB (cw 30 [v_1, oldLoops1] st_16)
                                                                                                                  (fun v st_17 =>
                                                                                                                    (boolV v).bind fun b =>
                                                                                                                      if b = true then
                                                                                                                        callB (cw 29 [v_2, news2] st_17)
                                                                                                                          (fun v st_18 =>
                                                                                                                            (boolV v).bind fun b =>
                                                                                                                              if b = true then
                                                                                                                                callB (cw 30 [v_3, newLoops3] st_18)
                                                                                                                                  (fun v st_19 =>
                                                                                                                                    (boolV v).bind fun b =>
                                                                                                                                      if b = true then
                                                                                                                                        callB (cw 31 [] st_19)
                                                                                                                                          (fun v st_20 => (boolV v).bind fun b => outL false (st.length) (AOut.ret (AV.bool b)) st_20)
                                                                                                                                          fun v st_20 => outL false (st.length) (AOut.pan v) st_20
                                                                                                                                      else outL false (st.length) (AOut.ret (AV.bool false)) st_19)
                                                                                                                                  fun v st_19 => outL false (st.length) (AOut.pan v) st_19
                                                                                                                              else outL false (st.length) (AOut.ret (AV.bool false)) st_18)
                                                                                                                          fun v st_18 => outL false (st.length) (AOut.pan v) st_18
                                                                                                                      else outL false (st.length) (AOut.ret (AV.bool false)) st_17)
                                                                                                                  fun v st_17 => outL false (st.length) (AOut.pan v) st_17
                                                                                                              else outL false (st.length) (AOut.ret (AV.bool false)) st_16)
                                                                                                          fun v st_16 => outL false (st.length) (AOut.pan v) st_16
                                                                                                      else outL false (st.length) (AOut.ret (AV.bool false)) st_15)
                                                                                                  fun v st_15 => outL false (st.length) (AOut.pan v) st_15)
                                                                                          fun v st_14 => outL false (st.length) (AOut.pan v) st_14)
                                                                                fun v st_13 => outL false (st.length) (AOut.pan v) st_13)
                                                                    fun v st_12 => outL false (st.length) (AOut.pan v) st_12)
                                                            fun v st_11 => outL false (st.length) (AOut.pan v) st_11)
                                              fun v st_9 => outL false (st.length) (AOut.pan v) st_9)
                                fun v st_7 => outL false (st.length) (AOut.pan v) st_7)
                  fun v st_5 => outL false (st.length) (AOut.pan v) st_5)
              fun v st_4 => outL false (st.length) (AOut.pan v) st_4)
          fun v st_3 => outL false (st.length) (AOut.pan v) st_3)
      fun v st_2 => outL false (st.length) (AOut.pan v) st_2)
  fun v st_1 => outL false (st.length) (AOut.pan v) st_1) = some r) :
    cw 8 [olds0, oldLoops1, news2, newLoops3] st = some r := callW_of (Eq.trans (by kernel_rfl) h)
/-! stencil/stencillaw0.LendSpots -/
abbrev p23_0 : List Dir := [.sr, .sr, .sl, .sr, .bk]
theorem F23 (a0 : AV) (st : St) {r : AOut × St} (h : (aw 23 (st.length) p23_0 { env := [(0, a0), (3, AV.nils), (4, AV.int IntKind.i64 0)], defers := [] } (AObj.free 0 :: st)) = some r) :
    cw 23 [a0] st = some r := callW_of (Eq.trans (by kernel_rfl) h)
theorem F23_0 (a0 : AV) (out3 : AV) (i4 : Int) (base : Nat) (st : St) {r : AOut × St} (h : ((lenSl a0).bind fun v =>
  (intV IntKind.i64 v).bind fun n =>
    if decide (i4 < n) = true then
      (natA (AV.int IntKind.i64 i4)).bind fun j =>
        (idxSl st 30 a0 j).bind fun v =>
          (readA st v 30 true).bind fun v =>
            callB (cw 38 [v] st)
              (fun v st =>
                (cellsV 30 v).bind fun cs =>
                  bind2 (appendL st (some (base + 0, false)) 336 30 out3 (AV.sl 30 [List.map AV.strip cs] 0 1 Tok.exact)) fun v st =>
                    aw 23 base p23_0 { env := [(0, a0), (3, v), (4, AV.int IntKind.i64 (IntKind.i64.wrap (i4 + 1)))], defers := [] } st)
              fun v st => outL false base (AOut.pan v) st
    else
      (cellsV 30
            (AV.agg
              [AV.int IntKind.i64 0, AV.int IntKind.i64 0, AV.int IntKind.i64 0, AV.int IntKind.i64 0, AV.str [], AV.int IntKind.i64 0, AV.int IntKind.i64 0, AV.str [], AV.int IntKind.i64 0, AV.int IntKind.i64 0, AV.str [],
                AV.int IntKind.i64 0, AV.int IntKind.i64 0, AV.str [], AV.int IntKind.i64 0, AV.int IntKind.i64 0, AV.str [], AV.int IntKind.i64 0, AV.int IntKind.i64 0, AV.str [], AV.int IntKind.i64 0, AV.int IntKind.i64 0, AV.str [],
                AV.int IntKind.i64 0, AV.int IntKind.i64 0, AV.str [], AV.int IntKind.i64 (-7), AV.str [], AV.str [], AV.nils])).bind
        fun cs =>
        (cellsV 30
              (AV.agg
                [AV.int IntKind.i64 0, AV.int IntKind.i64 0, AV.int IntKind.i64 0, AV.int IntKind.i64 0, AV.str [], AV.int IntKind.i64 0, AV.int IntKind.i64 0, AV.str [], AV.int IntKind.i64 0, AV.int IntKind.i64 0, AV.str [],
                  AV.int IntKind.i64 0, AV.int IntKind.i64 0, AV.str [], AV.int IntKind.i64 0, AV.int IntKind.i64 0, AV.str [], AV.int IntKind.i64 0, AV.int IntKind.i64 0, AV.str [], AV.int IntKind.i64 0, AV.int IntKind.i64 0, AV.str [],
                  AV.int IntKind.i64 0, AV.int IntKind.i64 0, AV.str [], AV.int IntKind.i64 (-7), AV.str [], AV.str [], AV.nils])).bind
          fun cs_1 =>
          bind2 (appendL st (some (base + 0, false)) 336 30 out3 (AV.sl 30 [List.map AV.strip cs, List.map AV.strip cs_1] 0 2 Tok.exact)) fun v st =>
            (lenSl a0).bind fun v_1 => (intV IntKind.i64 v_1).bind fun n => (sliceSl st 30 v none (some (AV.int IntKind.i64 n)) none).bind fun v => bind2 (freezeA st v) fun v st => outL false base (AOut.ret v) st) = some r) :
    aw 23 base p23_0 { env := [(0, a0), (3, out3), (4, AV.int IntKind.i64 i4)], defers := [] } st = some r := atW_of (Eq.trans (by kernel_rfl) h)
/-! stencil/stencillaw0.LendLoops -/
abbrev p24_0 : List Dir := [.sr, .sr, .sl, .sr, .bk]
theorem F24 (a0 : AV) (st : St) {r : AOut × St} (h : (aw 24 (st.length) p24_0 { env := [(0, a0), (3, AV.nils), (4, AV.int IntKind.i64 0)], defers := [] } (AObj.free 0 :: st)) = some r) :
    cw 24 [a0] st = some r := callW_of (Eq.trans (by kernel_rfl) h)
theorem F24_0 (a0 : AV) (out3 : AV) (i4 : Int) (base : Nat) (st : St) {r : AOut × St} (h : ((lenSl a0).bind fun v =>
  (intV IntKind.i64 v).bind fun n =>
    if decide (i4 < n) = true then
      (natA (AV.int IntKind.i64 i4)).bind fun j =>
        (idxSl st 27 a0 j).bind fun v =>
          (readA st v 27 true).bind fun v =>
            callB (cw 39 [v] st)
              (fun v st =>
                (cellsV 27 v).bind fun cs =>
                  bind2 (appendL st (some (base + 0, false)) 296 27 out3 (AV.sl 27 [List.map AV.strip cs] 0 1 Tok.exact)) fun v st =>
                    aw 24 base p24_0 { env := [(0, a0), (3, v), (4, AV.int IntKind.i64 (IntKind.i64.wrap (i4 + 1)))], defers := [] } st)
              fun v st => outL false base (AOut.pan v) st
    else
      (cellsV 26
            (AV.agg
              [AV.int IntKind.i64 (-7), AV.int IntKind.i64 0, AV.int IntKind.i64 0, AV.int IntKind.i64 0, AV.str [], AV.int IntKind.i64 0, AV.int IntKind.i64 0, AV.str [], AV.int IntKind.i64 0, AV.int IntKind.i64 0, AV.str [],
                AV.int IntKind.i64 0, AV.int IntKind.i64 0, AV.str [], AV.int IntKind.i64 0, AV.int IntKind.i64 0, AV.str [], AV.int IntKind.i64 0, AV.int IntKind.i64 0, AV.str [], AV.int IntKind.i64 0, AV.int IntKind.i64 0, AV.str [],
                AV.int IntKind.i64 0, AV.int IntKind.i64 0, AV.str []])).bind
        fun cs =>
        (setAt
              [AV.int IntKind.i64 0, AV.int IntKind.i64 0, AV.int IntKind.i64 0, AV.int IntKind.i64 0, AV.str [], AV.int IntKind.i64 0, AV.int IntKind.i64 0, AV.str [], AV.int IntKind.i64 0, AV.int IntKind.i64 0, AV.str [],
                AV.int IntKind.i64 0, AV.int IntKind.i64 0, AV.str [], AV.int IntKind.i64 0, AV.int IntKind.i64 0, AV.str [], AV.int IntKind.i64 0, AV.int IntKind.i64 0, AV.str [], AV.int IntKind.i64 0, AV.int IntKind.i64 0, AV.str [],
                AV.int IntKind.i64 0, AV.int IntKind.i64 0, AV.str [], AV.nils]
              0 cs).bind
          fun c =>
          (cellsV 26
                (AV.agg
                  [AV.int IntKind.i64 (-7), AV.int IntKind.i64 0, AV.int IntKind.i64 0, AV.int IntKind.i64 0, AV.str [], AV.int IntKind.i64 0, AV.int IntKind.i64 0, AV.str [], AV.int IntKind.i64 0, AV.int IntKind.i64 0, AV.str [],
                    AV.int IntKind.i64 0, AV.int IntKind.i64 0, AV.str [], AV.int IntKind.i64 0, AV.int IntKind.i64 0, AV.str [], AV.int IntKind.i64 0, AV.int IntKind.i64 0, AV.str [], AV.int IntKind.i64 0, AV.int IntKind.i64 0, AV.str [],
                    AV.int IntKind.i64 0, AV.int IntKind.i64 0, AV.str []])).bind
            fun cs =>
            (setAt
                  [AV.int IntKind.i64 0, AV.int IntKind.i64 0, AV.int IntKind.i64 0, AV.int IntKind.i64 0, AV.str [], AV.int IntKind.i64 0, AV.int IntKind.i64 0, AV.str [], AV.int IntKind.i64 0, AV.int IntKind.i64 0, AV.str [],
                    AV.int IntKind.i64 0, AV.int IntKind.i64 0, AV.str [], AV.int IntKind.i64 0, AV.int IntKind.i64 0, AV.str [], AV.int IntKind.i64 0, AV.int IntKind.i64 0, AV.str [], AV.int IntKind.i64 0, AV.int IntKind.i64 0, AV.str [],
                    AV.int IntKind.i64 0, AV.int IntKind.i64 0, AV.str [], AV.nils]
                  0 cs).bind
              fun c_1 =>
              (cellsV 27 (AV.agg c)).bind fun cs =>
                (cellsV 27 (AV.agg c_1)).bind fun cs_1 =>
                  bind2 (appendL st (some (base + 0, false)) 296 27 out3 (AV.sl 27 [List.map AV.strip cs, List.map AV.strip cs_1] 0 2 Tok.exact)) fun v st =>
                    (lenSl a0).bind fun v_1 => (intV IntKind.i64 v_1).bind fun n => (sliceSl st 27 v none (some (AV.int IntKind.i64 n)) none).bind fun v => bind2 (freezeA st v) fun v st => outL false base (AOut.ret v) st) = some r) :
    aw 24 base p24_0 { env := [(0, a0), (3, out3), (4, AV.int IntKind.i64 i4)], defers := [] } st = some r := atW_of (Eq.trans (by kernel_rfl) h)
/-! stencil/stencillaw18.Same -/
abbrev p27_0 : List Dir := [.sr, .sr, .sl, .sr, .bk]
theorem F27 (a0 : List AV) (b1 : List AV) (st : St) {r : AOut × St} (h : ((cellsV 10 (AV.agg a0)).bind fun cs =>
  (cellsV 10 (AV.agg b1)).bind fun cs_1 =>
    (readA (AObj.free 0 :: AObj.free 0 :: AObj.free 0 :: AObj.box 46 cs_1 :: AObj.free 0 :: AObj.free 0 :: AObj.free 0 :: AObj.box 46 cs :: st) (AV.bp (st.length) 0) 1 false).bind fun v =>
      (lenSl v).bind fun v =>
        (intV IntKind.i64 v).bind fun n =>
          (readA (AObj.free 0 :: AObj.free 0 :: AObj.free 0 :: AObj.box 46 cs_1 :: AObj.free 0 :: AObj.free 0 :: AObj.free 0 :: AObj.box 46 cs :: st) (AV.bp (AObj.free 0 :: AObj.free 0 :: AObj.free 0 :: AObj.box 46 cs :: st).length 0) 1
                false).bind
            fun v =>
            (lenSl v).bind fun v =>
              (intV IntKind.i64 v).bind fun n_1 =>
                if (n != n_1) = true then outL false (st.length) (AOut.ret (AV.bool false)) (AObj.free 0 :: AObj.free 0 :: AObj.free 0 :: AObj.box 46 cs_1 :: AObj.free 0 :: AObj.free 0 :: AObj.free 0 :: AObj.box 46 cs :: st)
                else
                  (readA (AObj.free 0 :: AObj.free 0 :: AObj.free 0 :: AObj.box 46 cs_1 :: AObj.free 0 :: AObj.free 0 :: AObj.free 0 :: AObj.box 46 cs :: st) (AV.bp (st.length) 1) 1 false).bind fun v =>
                    (readA (AObj.free 0 :: AObj.free 0 :: AObj.free 0 :: AObj.box 46 cs_1 :: AObj.free 0 :: AObj.free 0 :: AObj.free 0 :: AObj.box 46 cs :: st)
                          (AV.bp (AObj.free 0 :: AObj.free 0 :: AObj.free 0 :: AObj.box 46 cs :: st).length 1) 1 false).bind
                      fun v_1 =>
                      callB (cw 12 [v, v_1] (AObj.free 0 :: AObj.free 0 :: AObj.free 0 :: AObj.box 46 cs_1 :: AObj.free 0 :: AObj.free 0 :: AObj.free 0 :: AObj.box 46 cs :: st))
                        (fun v st_1 =>
                          (boolV v).bind fun b =>
                            if (!b) = true then outL false (st.length) (AOut.ret (AV.bool false)) st_1
                            else
                              (readA st_1 (AV.bp (st.length) 2) 1 false).bind fun v =>
                                (readA st_1 (AV.bp (AObj.free 0 :: AObj.free 0 :: AObj.free 0 :: AObj.box 46 cs :: st).length 2) 1 false).bind fun v_2 =>
                                  callB (cw 12 [v, v_2] st_1)
                                    (fun v st_2 =>
                                      (boolV v).bind fun b =>
                                        if (!b) = true then outL false (st.length) (AOut.ret (AV.bool false)) st_2
                                        else
                                          (readA st_2 (AV.bp (st.length) 3) 7 true).bind fun v =>
                                            (readA st_2 (AV.bp (AObj.free 0 :: AObj.free 0 :: AObj.free 0 :: AObj.box 46 cs :: st).length 3) 7 true).bind fun v_3 =>
                                              (binA Try.prog BinOp.neq 44 false v v_3).bind fun v =>
                                                (boolV v).bind fun b =>
                                                  if b = true then outL false (st.length) (AOut.ret (AV.bool false)) st_2
                                                  else
                                                    aw 27 (st.length) p27_0
                                                      { env := [(2, AV.bp (st.length) 0), (3, AV.bp (AObj.free 0 :: AObj.free 0 :: AObj.free 0 :: AObj.box 46 cs :: st).length 0), (5, AV.int IntKind.i64 0)], defers := [] } st_2)
                                    fun v st_2 => outL false (st.length) (AOut.pan v) st_2)
                        fun v st_1 => outL false (st.length) (AOut.pan v) st_1) = some r) :
    cw 27 [AV.agg a0, AV.agg b1] st = some r := callW_of (Eq.trans (by kernel_rfl) h)
theorem F27_0 (a2 : AV) (b3 : AV) (i5 : Int) (base : Nat) (st : St) {r : AOut × St} (h : ((ptrAdd 0 a2).bind fun v =>
  (readA st v 1 false).bind fun v =>
    (lenSl v).bind fun v =>
      (intV IntKind.i64 v).bind fun n =>
        if decide (i5 < n) = true then
          (ptrAdd 0 a2).bind fun v =>
            (readA st v 1 false).bind fun v =>
              (natA (AV.int IntKind.i64 i5)).bind fun j =>
                (idxSl st 2 v j).bind fun v =>
                  (readA st v 2 true).bind fun v =>
                    (ptrAdd 0 b3).bind fun v_1 =>
                      (readA st v_1 1 false).bind fun v_2 =>
                        (natA (AV.int IntKind.i64 i5)).bind fun j =>
                          (idxSl st 2 v_2 j).bind fun v_3 =>
                            (readA st v_3 2 true).bind fun v_4 =>
                              (binA Try.prog BinOp.neq 81 false v v_4).bind fun v =>
                                (boolV v).bind fun b =>
                                  if b = true then outL false base (AOut.ret (AV.bool false)) st else aw 27 base p27_0 { env := [(2, a2), (3, b3), (5, AV.int IntKind.i64 (IntKind.i64.wrap (i5 + 1)))], defers := [] } st
        else outL false base (AOut.ret (AV.bool true)) st) = some r) :
    aw 27 base p27_0 { env := [(2, a2), (3, b3), (5, AV.int IntKind.i64 i5)], defers := [] } st = some r := atW_of (Eq.trans (by kernel_rfl) h)
/-! stencil/stencillaw18.spoil -/
abbrev p28_0 : List Dir := [.sr, .sl, .sr, .bk]
theorem F28 (p0 : List AV) (st : St) {r : AOut × St} (h : ((cellsV 10 (AV.agg p0)).bind fun cs => aw 28 (st.length) p28_0 { env := [(1, AV.bp (st.length) 0), (2, AV.int IntKind.i64 0)], defers := [] } (AObj.free 0 :: AObj.free 0 :: AObj.free 0 :: AObj.box 46 cs :: st)) = some r) :
    cw 28 [AV.agg p0] st = some r := callW_of (Eq.trans (by kernel_rfl) h)
theorem F28_0 (p1 : AV) (i2 : Int) (base : Nat) (st : St) {r : AOut × St} (h : ((ptrAdd 0 p1).bind fun v =>
  (readA st v 1 false).bind fun v =>
    (lenSl v).bind fun v =>
      (intV IntKind.i64 v).bind fun n =>
        if decide (i2 < n) = true then
          (ptrAdd 0 p1).bind fun v =>
            (readA st v 1 false).bind fun v =>
              (natA (AV.int IntKind.i64 i2)).bind fun j =>
                (idxSl st 2 v j).bind fun v =>
                  (ptrAdd 0 v).bind fun v => (writeA st v [AV.int IntKind.i64 (-9)]).bind fun st => aw 28 base p28_0 { env := [(1, p1), (2, AV.int IntKind.i64 (IntKind.i64.wrap (i2 + 1)))], defers := [] } st
        else
          (ptrAdd 1 p1).bind fun v =>
            (readA st v 1 false).bind fun v =>
              callB (cw 14 [v] st)
                (fun v st => (ptrAdd 2 p1).bind fun v => (readA st v 1 false).bind fun v => callB (cw 14 [v] st) (fun v st => outL false base (AOut.ret (AV.tup [])) st) fun v st => outL false base (AOut.pan v) st)
                fun v st => outL false base (AOut.pan v) st) = some r) :
    aw 28 base p28_0 { env := [(1, p1), (2, AV.int IntKind.i64 i2)], defers := [] } st = some r := atW_of (Eq.trans (by kernel_rfl) h)
/-! stencil/stencillaw0.KeptSpots -/
abbrev p29_0 : List Dir := [.sr, .sr, .sr, .sl, .sr, .bk]
theorem F29 (lent0 : AV) (a1 : AV) (st : St) {r : AOut × St} (h : ((lenSl lent0).bind fun v =>
  (intV IntKind.i64 v).bind fun n =>
    (sliceSl st 30 lent0 none (some (AV.int IntKind.i64 (IntKind.i64.wrap (n + 2)))) none).bind fun v =>
      (lenSl lent0).bind fun v_1 =>
        (intV IntKind.i64 v_1).bind fun n =>
          (lenSl a1).bind fun v_2 =>
            (intV IntKind.i64 v_2).bind fun n_1 =>
              if (n != n_1) = true then outL false (st.length) (AOut.ret (AV.bool false)) st
              else
                (lenSl a1).bind fun v_3 =>
                  (intV IntKind.i64 v_3).bind fun n =>
                    (natA (AV.int IntKind.i64 n)).bind fun j =>
                      (idxSl st 30 v j).bind fun v_4 =>
                        (readA st v_4 30 true).bind fun v_5 =>
                          callB
                            (cw 50
                              [v_5,
                                AV.agg
                                  [AV.int IntKind.i64 0, AV.int IntKind.i64 0, AV.int IntKind.i64 0, AV.int IntKind.i64 0, AV.str [], AV.int IntKind.i64 0, AV.int IntKind.i64 0, AV.str [], AV.int IntKind.i64 0, AV.int IntKind.i64 0,
                                    AV.str [], AV.int IntKind.i64 0, AV.int IntKind.i64 0, AV.str [], AV.int IntKind.i64 0, AV.int IntKind.i64 0, AV.str [], AV.int IntKind.i64 0, AV.int IntKind.i64 0, AV.str [], AV.int IntKind.i64 0,
                                    AV.int IntKind.i64 0, AV.str [], AV.int IntKind.i64 0, AV.int IntKind.i64 0, AV.str [], AV.int IntKind.i64 (-7), AV.str [], AV.str [], AV.nils]]
                              st)
                            (fun v_6 st_1 =>
                              (boolV v_6).bind fun b =>
                                if (!b) = true then outL false (st.length) (AOut.ret (AV.bool false)) st_1
                                else
                                  (lenSl a1).bind fun v_7 =>
                                    (intV IntKind.i64 v_7).bind fun n =>
                                      (natA (AV.int IntKind.i64 (IntKind.i64.wrap (n + 1)))).bind fun j =>
                                        (idxSl st_1 30 v j).bind fun v =>
                                          (readA st_1 v 30 true).bind fun v =>
                                            callB
                                              (cw 50
                                                [v,
                                                  AV.agg
                                                    [AV.int IntKind.i64 0, AV.int IntKind.i64 0, AV.int IntKind.i64 0, AV.int IntKind.i64 0, AV.str [], AV.int IntKind.i64 0, AV.int IntKind.i64 0, AV.str [], AV.int IntKind.i64 0,
                                                      AV.int IntKind.i64 0, AV.str [], AV.int IntKind.i64 0, AV.int IntKind.i64 0, AV.str [], AV.int IntKind.i64 0, AV.int IntKind.i64 0, AV.str [], AV.int IntKind.i64 0, AV.int IntKind.i64 0,
                                                      AV.str [], AV.int IntKind.i64 0, AV.int IntKind.i64 0, AV.str [], AV.int IntKind.i64 0, AV.int IntKind.i64 0, AV.str [], AV.int IntKind.i64 (-7), AV.str [], AV.str [], AV.nils]]
                                                st_1)
                                              (fun v st_2 =>
                                                (boolV v).bind fun b =>
                                                  if (!b) = true then outL false (st.length) (AOut.ret (AV.bool false)) st_2
                                                  else aw 29 (st.length) p29_0 { env := [(0, lent0), (1, a1), (6, AV.int IntKind.i64 0)], defers := [] } st_2)
                                              fun v st_2 => outL false (st.length) (AOut.pan v) st_2)
                            fun v st_1 => outL false (st.length) (AOut.pan v) st_1) = some r) :
    cw 29 [lent0, a1] st = some r := callW_of (Eq.trans (by kernel_rfl) h)
theorem F29_0 (lent0 : AV) (a1 : AV) (i6 : Int) (base : Nat) (st : St) {r : AOut × St} (h : ((lenSl a1).bind fun v =>
  (intV IntKind.i64 v).bind fun n =>
    if decide (i6 < n) = true then
      (natA (AV.int IntKind.i64 i6)).bind fun j =>
        (idxSl st 30 lent0 j).bind fun v =>
          (readA st v 30 true).bind fun v =>
            (natA (AV.int IntKind.i64 i6)).bind fun j =>
              (idxSl st 30 a1 j).bind fun v_1 =>
                (readA st v_1 30 true).bind fun v_2 =>
                  callB (cw 51 [v, v_2] st)
                    (fun v st =>
                      (boolV v).bind fun b =>
                        if (!b) = true then outL false base (AOut.ret (AV.bool false)) st else aw 29 base p29_0 { env := [(0, lent0), (1, a1), (6, AV.int IntKind.i64 (IntKind.i64.wrap (i6 + 1)))], defers := [] } st)
                    fun v st => outL false base (AOut.pan v) st
    else outL false base (AOut.ret (AV.bool true)) st) = some r) :
    aw 29 base p29_0 { env := [(0, lent0), (1, a1), (6, AV.int IntKind.i64 i6)], defers := [] } st = some r := atW_of (Eq.trans (by kernel_rfl) h)
/-! stencil/stencillaw0.KeptLoops -/
abbrev p30_0 : List Dir := [.sr, .sr, .sr, .sl, .sr, .bk]
theorem F30 (lent0 : AV) (a1 : AV) (st : St) {r : AOut × St} (h : ((lenSl lent0).bind fun v =>
  (intV IntKind.i64 v).bind fun n =>
    (sliceSl st 27 lent0 none (some (AV.int IntKind.i64 (IntKind.i64.wrap (n + 2)))) none).bind fun v =>
      (lenSl lent0).bind fun v_1 =>
        (intV IntKind.i64 v_1).bind fun n =>
          (lenSl a1).bind fun v_2 =>
            (intV IntKind.i64 v_2).bind fun n_1 =>
              if (n != n_1) = true then outL false (st.length) (AOut.ret (AV.bool false)) st
              else
                (lenSl a1).bind fun v_3 =>
                  (intV IntKind.i64 v_3).bind fun n =>
                    (natA (AV.int IntKind.i64 n)).bind fun j =>
                      (idxSl st 27 v j).bind fun v_4 =>
                        (readA st v_4 27 true).bind fun v_5 =>
                          (cellsV 26
                                (AV.agg
                                  [AV.int IntKind.i64 (-7), AV.int IntKind.i64 0, AV.int IntKind.i64 0, AV.int IntKind.i64 0, AV.str [], AV.int IntKind.i64 0, AV.int IntKind.i64 0, AV.str [], AV.int IntKind.i64 0, AV.int IntKind.i64 0,
                                    AV.str [], AV.int IntKind.i64 0, AV.int IntKind.i64 0, AV.str [], AV.int IntKind.i64 0, AV.int IntKind.i64 0, AV.str [], AV.int IntKind.i64 0, AV.int IntKind.i64 0, AV.str [], AV.int IntKind.i64 0,
                                    AV.int IntKind.i64 0, AV.str [], AV.int IntKind.i64 0, AV.int IntKind.i64 0, AV.str []])).bind
                            fun cs =>
                            (setAt
                                  [AV.int IntKind.i64 0, AV.int IntKind.i64 0, AV.int IntKind.i64 0, AV.int IntKind.i64 0, AV.str [], AV.int IntKind.i64 0, AV.int IntKind.i64 0, AV.str [], AV.int IntKind.i64 0, AV.int IntKind.i64 0,
                                    AV.str [], AV.int IntKind.i64 0, AV.int IntKind.i64 0, AV.str [], AV.int IntKind.i64 0, AV.int IntKind.i64 0, AV.str [], AV.int IntKind.i64 0, AV.int IntKind.i64 0, AV.str [], AV.int IntKind.i64 0,
                                    AV.int IntKind.i64 0, AV.str [], AV.int IntKind.i64 0, AV.int IntKind.i64 0, AV.str [], AV.nils]
                                  0 cs).bind
                              fun c =>
                              callB (cw 52 [v_5, AV.agg c] st)
                                (fun v_6 st_1 =>
                                  (boolV v_6).bind fun b =>
                                    if (!b) = true then outL false (st.length) (AOut.ret (AV.bool false)) st_1
                                    else
                                      (lenSl a1).bind fun v_7 =>
                                        (intV IntKind.i64 v_7).bind fun n =>
                                          (natA (AV.int IntKind.i64 (IntKind.i64.wrap (n + 1)))).bind fun j =>
                                            (idxSl st_1 27 v j).bind fun v =>
                                              (readA st_1 v 27 true).bind fun v =>
                                                (cellsV 26
                                                      (AV.agg
                                                        [AV.int IntKind.i64 (-7), AV.int IntKind.i64 0, AV.int IntKind.i64 0, AV.int IntKind.i64 0, AV.str [], AV.int IntKind.i64 0, AV.int IntKind.i64 0, AV.str [], AV.int IntKind.i64 0,
                                                          AV.int IntKind.i64 0, AV.str [], AV.int IntKind.i64 0, AV.int IntKind.i64 0, AV.str [], AV.int IntKind.i64 0, AV.int IntKind.i64 0, AV.str [], AV.int IntKind.i64 0,
                                                          AV.int IntKind.i64 0, AV.str [], AV.int IntKind.i64 0, AV.int IntKind.i64 0, AV.str [], AV.int IntKind.i64 0, AV.int IntKind.i64 0, AV.str []])).bind
                                                  fun cs =>
                                                  (setAt
                                                        [AV.int IntKind.i64 0, AV.int IntKind.i64 0, AV.int IntKind.i64 0, AV.int IntKind.i64 0, AV.str [], AV.int IntKind.i64 0, AV.int IntKind.i64 0, AV.str [], AV.int IntKind.i64 0,
                                                          AV.int IntKind.i64 0, AV.str [], AV.int IntKind.i64 0, AV.int IntKind.i64 0, AV.str [], AV.int IntKind.i64 0, AV.int IntKind.i64 0, AV.str [], AV.int IntKind.i64 0,
                                                          AV.int IntKind.i64 0, AV.str [], AV.int IntKind.i64 0, AV.int IntKind.i64 0, AV.str [], AV.int IntKind.i64 0, AV.int IntKind.i64 0, AV.str [], AV.nils]
                                                        0 cs).bind
                                                    fun c =>
                                                    callB (cw 52 [v, AV.agg c] st_1)
                                                      (fun v st_2 =>
                                                        (boolV v).bind fun b =>
                                                          if (!b) = true then outL false (st.length) (AOut.ret (AV.bool false)) st_2
                                                          else aw 30 (st.length) p30_0 { env := [(0, lent0), (1, a1), (6, AV.int IntKind.i64 0)], defers := [] } st_2)
                                                      fun v st_2 => outL false (st.length) (AOut.pan v) st_2)
                                fun v st_1 => outL false (st.length) (AOut.pan v) st_1) = some r) :
    cw 30 [lent0, a1] st = some r := callW_of (Eq.trans (by kernel_rfl) h)
theorem F30_0 (lent0 : AV) (a1 : AV) (i6 : Int) (base : Nat) (st : St) {r : AOut × St} (h : ((lenSl a1).bind fun v =>
  (intV IntKind.i64 v).bind fun n =>
    if decide (i6 < n) = true then
      (natA (AV.int IntKind.i64 i6)).bind fun j =>
        (idxSl st 27 lent0 j).bind fun v =>
          (readA st v 27 true).bind fun v =>
            (natA (AV.int IntKind.i64 i6)).bind fun j =>
              (idxSl st 27 a1 j).bind fun v_1 =>
                (readA st v_1 27 true).bind fun v_2 =>
                  callB (cw 53 [v, v_2] st)
                    (fun v st =>
                      (boolV v).bind fun b =>
                        if (!b) = true then outL false base (AOut.ret (AV.bool false)) st else aw 30 base p30_0 { env := [(0, lent0), (1, a1), (6, AV.int IntKind.i64 (IntKind.i64.wrap (i6 + 1)))], defers := [] } st)
                    fun v st => outL false base (AOut.pan v) st
    else outL false base (AOut.ret (AV.bool true)) st) = some r) :
    aw 30 base p30_0 { env := [(0, lent0), (1, a1), (6, AV.int IntKind.i64 i6)], defers := [] } st = some r := atW_of (Eq.trans (by kernel_rfl) h)
/-! stencil/stencillaw18.awake -/
theorem F31 (st : St) {r : AOut × St} (h : (callB (cw 54 [AV.int IntKind.i64 0, AV.int IntKind.i64 (-1)] st)
  (fun v st_1 =>
    callB (cw 54 [AV.int IntKind.i64 1, AV.int IntKind.i64 0] st_1)
      (fun v_1 st_2 =>
        (cellsV 30 v).bind fun cs =>
          (cellsV 30 v_1).bind fun cs_1 =>
            callB (cw 54 [AV.int IntKind.i64 0, AV.int IntKind.i64 (-1)] st_2)
              (fun v st_3 =>
                callB (cw 54 [AV.int IntKind.i64 2, AV.int IntKind.i64 0] st_3)
                  (fun v_2 st_4 =>
                    callB (cw 54 [AV.int IntKind.i64 3, AV.int IntKind.i64 1] st_4)
                      (fun v_3 st_5 =>
                        (cellsV 30 v).bind fun cs_2 =>
                          (cellsV 30 v_2).bind fun cs_3 =>
                            (cellsV 30 v_3).bind fun cs_4 =>
                              callB
                                (cw 25
                                  [AV.sl 30 [List.map AV.strip cs, List.map AV.strip cs_1] 0 2 Tok.exact, AV.nils, AV.sl 30 [List.map AV.strip cs_2, List.map AV.strip cs_3, List.map AV.strip cs_4] 0 3 Tok.exact, AV.nils] st_5)
                                (fun v st_6 =>
                                  (extractA 0 v).bind fun v_4 =>
                                    (extractA 1 v).bind fun v =>
                                      (intV IntKind.i64 v).bind fun n =>
                                        (cellsV 10 v_4).bind fun cs =>
                                          (writeA
                                                (AObj.free 0 ::
                                                  AObj.free 0 ::
                                                    AObj.free 0 ::
                                                      AObj.box 46
                                                          [AV.nils, AV.nils, AV.nils, AV.int IntKind.i64 0, AV.int IntKind.i64 0, AV.int IntKind.i64 0, AV.int IntKind.i64 0, AV.int IntKind.i64 0, AV.int IntKind.i64 0,
                                                            AV.int IntKind.i64 0] ::
                                                        st_6)
                                                (AV.bp (st_6.length) 0) cs).bind
                                            fun st_7 =>
                                            callB (cw 54 [AV.int IntKind.i64 0, AV.int IntKind.i64 0] st_7)
                                              (fun v st_8 =>
                                                (cellsV 30 v).bind fun cs =>
                                                  callB (cw 25 [AV.sl 30 [List.map AV.strip cs] 0 1 Tok.exact, AV.nils, AV.nils, AV.nils] st_8)
                                                    (fun v st_9 =>
                                                      (extractA 0 v).bind fun v_5 =>
                                                        (extractA 1 v).bind fun v =>
                                                          (intV IntKind.i64 v).bind fun n_1 =>
                                                            (cellsV 10 v_5).bind fun cs =>
                                                              (writeA
                                                                    (AObj.free 0 ::
                                                                      AObj.free 0 ::
                                                                        AObj.free 0 ::
                                                                          AObj.box 46
                                                                              [AV.nils, AV.nils, AV.nils, AV.int IntKind.i64 0, AV.int IntKind.i64 0, AV.int IntKind.i64 0, AV.int IntKind.i64 0, AV.int IntKind.i64 0, AV.int IntKind.i64 0,
                                                                                AV.int IntKind.i64 0] ::
                                                                            st_9)
                                                                    (AV.bp (st_9.length) 0) cs).bind
                                                                fun st_10 =>
                                                                callB (cw 19 [AV.int IntKind.i64 n] st_10)
                                                                  (fun v st_11 =>
                                                                    (intV IntKind.i64 v).bind fun n =>
                                                                      if (n == 0) = true then
                                                                        (readA st_11 (AV.bp (st_6.length) 0) 1 false).bind fun v =>
                                                                          (lenSl v).bind fun v =>
                                                                            (intV IntKind.i64 v).bind fun n =>
                                                                              if (n == 1) = true then
                                                                                (readA st_11 (AV.bp (st_6.length) 1) 1 false).bind fun v =>
                                                                                  callB (cw 12 [v, AV.sl 1 [[AV.int IntKind.i64 1]] 0 1 Tok.exact] st_11)
                                                                                    (fun v st_12 =>
                                                                                      (boolV v).bind fun b =>
                                                                                        if b = true then
                                                                                          (readA st_12 (AV.bp (st_6.length) 2) 1 false).bind fun v =>
                                                                                            callB (cw 12 [v, AV.sl 1 [[AV.int IntKind.i64 1]] 0 1 Tok.exact] st_12)
                                                                                              (fun v st_13 =>
                                                                                                (boolV v).bind fun b =>
                                                                                                  if b = true then
                                                                                                    (readA st_13 (AV.bp (st_6.length) 3) 7 true).bind fun v =>
                                                                                                      (binA Try.prog BinOp.eql 44 false v
                                                                                                            (AV.agg
                                                                                                              [AV.int IntKind.i64 2, AV.int IntKind.i64 1, AV.int IntKind.i64 0, AV.int IntKind.i64 1, AV.int IntKind.i64 1,
                                                                                                                AV.int IntKind.i64 0, AV.int IntKind.i64 0])).bind
                                                                                                        fun v =>
                                                                                                        (boolV v).bind fun b =>
                                                                                                          if b = true then
                                                                                                            callB (cw 19 [AV.int IntKind.i64 n_1] st_13)
                                                                                                              (fun v st_14 => (intV IntKind.i64 v).bind fun n => outL false (st.length) (AOut.ret (AV.bool (n == 1800))) st_14)
                                                                                                              fun v st_14 => outL false (st.length) (AOut.pan v) st_14
                                                                                                          else outL false (st.length) (AOut.ret (AV.bool false)) st_13
                                                                                                  else outL false (st.length) (AOut.ret (AV.bool false)) st_13)
                                                                                              fun v st_13 => outL false (st.length) (AOut.pan v) st_13
                                                                                        else outL false (st.length) (AOut.ret (AV.bool false)) st_12)
                                                                                    fun v st_12 => outL false (st.length) (AOut.pan v) st_12
                                                                              else outL false (st.length) (AOut.ret (AV.bool false)) st_11
                                                                      else outL false (st.length) (AOut.ret (AV.bool false)) st_11)
                                                                  fun v st_11 => outL false (st.length) (AOut.pan v) st_11)
                                                    fun v st_9 => outL false (st.length) (AOut.pan v) st_9)
                                              fun v st_8 => outL false (st.length) (AOut.pan v) st_8)
                                fun v st_6 => outL false (st.length) (AOut.pan v) st_6)
                      fun v st_5 => outL false (st.length) (AOut.pan v) st_5)
                  fun v st_4 => outL false (st.length) (AOut.pan v) st_4)
              fun v st_3 => outL false (st.length) (AOut.pan v) st_3)
      fun v st_2 => outL false (st.length) (AOut.pan v) st_2)
  fun v st_1 => outL false (st.length) (AOut.pan v) st_1) = some r) :
    cw 31 [] st = some r := callW_of (Eq.trans (by kernel_rfl) h)
/-! stencil/stencillaw0.LendSpot -/
theorem F38 (x0 : List AV) (st : St) {r : AOut × St} (h : ((cellsV 30 (AV.agg x0)).bind fun cs =>
  (readA
        (AObj.free 0 ::
          AObj.box 70
              [AV.int IntKind.i64 0, AV.int IntKind.i64 0, AV.int IntKind.i64 0, AV.int IntKind.i64 0, AV.str [], AV.int IntKind.i64 0, AV.int IntKind.i64 0, AV.str [], AV.int IntKind.i64 0, AV.int IntKind.i64 0, AV.str [],
                AV.int IntKind.i64 0, AV.int IntKind.i64 0, AV.str [], AV.int IntKind.i64 0, AV.int IntKind.i64 0, AV.str [], AV.int IntKind.i64 0, AV.int IntKind.i64 0, AV.str [], AV.int IntKind.i64 0, AV.int IntKind.i64 0, AV.str [],
                AV.int IntKind.i64 0, AV.int IntKind.i64 0, AV.str [], AV.int IntKind.i64 0, AV.str [], AV.str [], AV.nils] ::
            AObj.free 0 :: AObj.box 70 cs :: st)
        (AV.bp (st.length) 29) 1 false).bind
    fun v =>
    callB
      (cw 57 [v]
        (AObj.free 0 ::
          AObj.box 70
              [AV.int IntKind.i64 0, AV.int IntKind.i64 0, AV.int IntKind.i64 0, AV.int IntKind.i64 0, AV.str [], AV.int IntKind.i64 0, AV.int IntKind.i64 0, AV.str [], AV.int IntKind.i64 0, AV.int IntKind.i64 0, AV.str [],
                AV.int IntKind.i64 0, AV.int IntKind.i64 0, AV.str [], AV.int IntKind.i64 0, AV.int IntKind.i64 0, AV.str [], AV.int IntKind.i64 0, AV.int IntKind.i64 0, AV.str [], AV.int IntKind.i64 0, AV.int IntKind.i64 0, AV.str [],
                AV.int IntKind.i64 0, AV.int IntKind.i64 0, AV.str [], AV.int IntKind.i64 0, AV.str [], AV.str [], AV.nils] ::
            AObj.free 0 :: AObj.box 70 cs :: st))
      (fun v st_1 =>
        (cell1 v).bind fun c =>
          (writeA st_1 (AV.bp (st.length) 29) [c]).bind fun st_2 =>
            (readA st_2 (AV.bp (st.length) 0) 30 true).bind fun v =>
              (cellsV 30 v).bind fun cs_1 =>
                (writeA st_2 (AV.bp (AObj.free 0 :: AObj.box 70 cs :: st).length 0) cs_1).bind fun st_3 =>
                  ((ldA Try.prog st_3 70 (AV.bp (AObj.free 0 :: AObj.box 70 cs :: st).length 0)).bind fun v => some [v]).bind fun vs => outL false (st.length) (AOut.ret (outV1 vs)) st_3)
      fun v st_1 => outL false (st.length) (AOut.pan v) st_1) = some r) :
    cw 38 [AV.agg x0] st = some r := callW_of (Eq.trans (by kernel_rfl) h)
/-! stencil/stencillaw0.LendLoop -/
theorem F39 (x0 : List AV) (st : St) {r : AOut × St} (h : ((cellsV 27 (AV.agg x0)).bind fun cs =>
  (readA
        (AObj.free 0 ::
          AObj.box 73
              [AV.int IntKind.i64 0, AV.int IntKind.i64 0, AV.int IntKind.i64 0, AV.int IntKind.i64 0, AV.str [], AV.int IntKind.i64 0, AV.int IntKind.i64 0, AV.str [], AV.int IntKind.i64 0, AV.int IntKind.i64 0, AV.str [],
                AV.int IntKind.i64 0, AV.int IntKind.i64 0, AV.str [], AV.int IntKind.i64 0, AV.int IntKind.i64 0, AV.str [], AV.int IntKind.i64 0, AV.int IntKind.i64 0, AV.str [], AV.int IntKind.i64 0, AV.int IntKind.i64 0, AV.str [],
                AV.int IntKind.i64 0, AV.int IntKind.i64 0, AV.str [], AV.nils] ::
            AObj.free 0 :: AObj.box 73 cs :: st)
        (AV.bp (st.length) 26) 1 false).bind
    fun v =>
    callB
      (cw 16 [v]
        (AObj.free 0 ::
          AObj.box 73
              [AV.int IntKind.i64 0, AV.int IntKind.i64 0, AV.int IntKind.i64 0, AV.int IntKind.i64 0, AV.str [], AV.int IntKind.i64 0, AV.int IntKind.i64 0, AV.str [], AV.int IntKind.i64 0, AV.int IntKind.i64 0, AV.str [],
                AV.int IntKind.i64 0, AV.int IntKind.i64 0, AV.str [], AV.int IntKind.i64 0, AV.int IntKind.i64 0, AV.str [], AV.int IntKind.i64 0, AV.int IntKind.i64 0, AV.str [], AV.int IntKind.i64 0, AV.int IntKind.i64 0, AV.str [],
                AV.int IntKind.i64 0, AV.int IntKind.i64 0, AV.str [], AV.nils] ::
            AObj.free 0 :: AObj.box 73 cs :: st))
      (fun v st_1 =>
        (cell1 v).bind fun c =>
          (writeA st_1 (AV.bp (st.length) 26) [c]).bind fun st_2 =>
            (readA st_2 (AV.bp (st.length) 0) 27 true).bind fun v =>
              (cellsV 27 v).bind fun cs_1 =>
                (writeA st_2 (AV.bp (AObj.free 0 :: AObj.box 73 cs :: st).length 0) cs_1).bind fun st_3 =>
                  ((ldA Try.prog st_3 73 (AV.bp (AObj.free 0 :: AObj.box 73 cs :: st).length 0)).bind fun v => some [v]).bind fun vs => outL false (st.length) (AOut.ret (outV1 vs)) st_3)
      fun v st_1 => outL false (st.length) (AOut.pan v) st_1) = some r) :
    cw 39 [AV.agg x0] st = some r := callW_of (Eq.trans (by kernel_rfl) h)
/-! stencil/patch.made -/
abbrev p40_0 : List Dir := [.sr, .sr, .sl, .sr, .bk]
abbrev p40_1 : List Dir := [.sr, .sr, .sr, .sl, .sr, .bk]
theorem F40 (spots0 : AV) (loops1 : AV) (st : St) {r : AOut × St} (h : ((cell1 spots0).bind fun c =>
  (cell1 loops1).bind fun c_1 =>
    (cellsV 4 (AV.agg [c, c_1, AV.mp (st.length), AV.mp (AObj.amap [] :: st).length])).bind fun cs =>
      (lenSl spots0).bind fun v =>
        (intV IntKind.i64 v).bind fun n =>
          aw 40 (st.length) p40_0 { env := [(1, loops1), (5, AV.bp (AObj.amap [] :: AObj.amap [] :: st).length 0), (15, AV.int IntKind.i64 n), (16, AV.int IntKind.i64 0)], defers := [] }
            (AObj.free 0 :: AObj.free 0 :: AObj.box 79 cs :: AObj.amap [] :: AObj.amap [] :: st)) = some r) :
    cw 40 [spots0, loops1] st = some r := callW_of (Eq.trans (by kernel_rfl) h)
theorem F40_0 (loops1 : AV) (r5 : AV) (v15 : Int) (v16 : Int) (base : Nat) (st : St) {r : AOut × St} (h : (if decide (v16 < v15) = true then
  callB (cw 58 [r5, AV.int IntKind.i64 v16] st)
    (fun v st =>
      (boolV v).bind fun b =>
        if (!b) = true then outL true base (AOut.ret AV.nilp) st
        else aw 40 base p40_0 { env := [(1, loops1), (5, r5), (15, AV.int IntKind.i64 v15), (16, AV.int IntKind.i64 (IntKind.i64.wrap (v16 + 1)))], defers := [] } st)
    fun v st => outL true base (AOut.pan v) st
else (lenSl loops1).bind fun v => (intV IntKind.i64 v).bind fun n => aw 40 base p40_1 { env := [(5, r5), (25, AV.int IntKind.i64 n), (26, AV.int IntKind.i64 0)], defers := [] } st) = some r) :
    aw 40 base p40_0 { env := [(1, loops1), (5, r5), (15, AV.int IntKind.i64 v15), (16, AV.int IntKind.i64 v16)], defers := [] } st = some r := atW_of (Eq.trans (by kernel_rfl) h)
theorem F40_1 (r5 : AV) (v25 : Int) (v26 : Int) (base : Nat) (st : St) {r : AOut × St} (h : (if decide (v26 < v25) = true then
  callB (cw 59 [r5, AV.int IntKind.i64 v26] st)
    (fun v st =>
      (boolV v).bind fun b =>
        if (!b) = true then outL true base (AOut.ret AV.nilp) st else aw 40 base p40_1 { env := [(5, r5), (25, AV.int IntKind.i64 v25), (26, AV.int IntKind.i64 (IntKind.i64.wrap (v26 + 1)))], defers := [] } st)
    fun v st => outL true base (AOut.pan v) st
else outL true base (AOut.ret r5) st) = some r) :
    aw 40 base p40_1 { env := [(5, r5), (25, AV.int IntKind.i64 v25), (26, AV.int IntKind.i64 v26)], defers := [] } st = some r := atW_of (Eq.trans (by kernel_rfl) h)
/-! stencil/patch.differ -/
abbrev p41_0 : List Dir := [.sr, .sr, .sl, .sr, .bk]
abbrev p41_1 : List Dir := [.sr, .sr, .sr, .sr, .sl, .sr, .bk]
theorem F41 (a0 : AV) (b1 : AV) (st : St) {r : AOut × St} (h : ((lenSl a0).bind fun v =>
  (intV IntKind.i64 v).bind fun n =>
    aw 41 (st.length) p41_0 { env := [(0, a0), (1, b1), (5, AV.mp (st.length)), (14, a0), (15, AV.int IntKind.i64 n), (16, AV.int IntKind.i64 0)], defers := [] } (AObj.amap [] :: st)) = some r) :
    cw 41 [a0, b1] st = some r := callW_of (Eq.trans (by kernel_rfl) h)
theorem F41_0 (a0 : AV) (b1 : AV) (all5 : AV) (v14 : AV) (v15 : Int) (v16 : Int) (base : Nat) (st : St) {r : AOut × St} (h : (if decide (v16 < v15) = true then
  (natA (AV.int IntKind.i64 v16)).bind fun j =>
    (idxSl st 2 v14 j).bind fun v =>
      (readA st v 2 true).bind fun v =>
        (cellsV 2 v).bind fun cs =>
          (writeA (AObj.box 98 [AV.str [], AV.str []] :: st) (AV.bp (st.length) 0) cs).bind fun st_1 =>
            (readA st_1 (AV.bp (st.length) 0) 1 false).bind fun v =>
              (strV v).bind fun s =>
                (readA st_1 (AV.bp (st.length) 1) 1 false).bind fun v =>
                  (strV v).bind fun s_1 =>
                    (mapUpdateA Try.prog st_1 96 all5 (AV.str s) (AV.str s_1)).bind fun st_2 =>
                      (roundV (st.length) { env := [(0, a0), (1, b1), (5, all5), (14, v14), (15, AV.int IntKind.i64 v15), (16, AV.int IntKind.i64 (IntKind.i64.wrap (v16 + 1)))], defers := [] } st_2).bind fun e =>
                        aw 41 base p41_0 e.fst e.snd
else
  (lenSl a0).bind fun v =>
    (intV IntKind.i64 v).bind fun n =>
      (lenSl b1).bind fun v => (intV IntKind.i64 v).bind fun n_1 => aw 41 base p41_1 { env := [(5, all5), (8, AV.int IntKind.i64 n), (28, b1), (29, AV.int IntKind.i64 n_1), (30, AV.int IntKind.i64 0)], defers := [] } st) = some r) :
    aw 41 base (p41_0) { env := [(0, a0), (1, b1), (5, all5), (14, v14), (15, AV.int IntKind.i64 v15), (16, AV.int IntKind.i64 v16)], defers := [] } st = some r := atW_of (Eq.trans (by kernel_rfl) h)
theorem F41_1 (all5 : AV) (count8 : Int) (v28 : AV) (v29 : Int) (v30 : Int) (base : Nat) (st : St) {r : AOut × St} (h : (if decide (v30 < v29) = true then
  (natA (AV.int IntKind.i64 v30)).bind fun j =>
    (idxSl st 2 v28 j).bind fun v =>
      (readA st v 2 true).bind fun v =>
        (cellsV 2 v).bind fun cs =>
          (writeA (AObj.box 98 [AV.str [], AV.str []] :: st) (AV.bp (st.length) 0) cs).bind fun st_1 =>
            (readA st_1 (AV.bp (st.length) 0) 1 false).bind fun v =>
              (strV v).bind fun s =>
                (lookupA Try.prog st_1 96 all5 (AV.str s) true).bind fun v =>
                  (extractA 0 v).bind fun v_1 =>
                    (strV v_1).bind fun s =>
                      (extractA 1 v).bind fun v =>
                        (boolV v).bind fun b =>
                          if (!b) = true then
                            (roundV (st.length)
                                  { env := [(5, all5), (8, AV.int IntKind.i64 (IntKind.i64.wrap (count8 + 1))), (28, v28), (29, AV.int IntKind.i64 v29), (30, AV.int IntKind.i64 (IntKind.i64.wrap (v30 + 1)))], defers := [] } st_1).bind
                              fun e => aw 41 base p41_1 e.fst e.snd
                          else
                            (readA st_1 (AV.bp (st.length) 1) 1 false).bind fun v =>
                              (strV v).bind fun s_1 =>
                                (strA BinOp.eql s s_1).bind fun v =>
                                  (boolV v).bind fun b =>
                                    if b = true then
                                      (roundV (st.length)
                                            { env := [(5, all5), (8, AV.int IntKind.i64 (IntKind.i64.wrap (count8 - 1))), (28, v28), (29, AV.int IntKind.i64 v29), (30, AV.int IntKind.i64 (IntKind.i64.wrap (v30 + 1)))], defers := [] }
                                            st_1).bind
                                        fun e => aw 41 base p41_1 e.fst e.snd
                                    else
                                      (roundV (st.length) { env := [(5, all5), (8, AV.int IntKind.i64 count8), (28, v28), (29, AV.int IntKind.i64 v29), (30, AV.int IntKind.i64 (IntKind.i64.wrap (v30 + 1)))], defers := [] } st_1).bind
                                        fun e => aw 41 base p41_1 e.fst e.snd
else outL false base (AOut.ret (AV.int IntKind.i64 count8)) st) = some r) :
    aw 41 base (p41_1) { env := [(5, all5), (8, AV.int IntKind.i64 count8), (28, v28), (29, AV.int IntKind.i64 v29), (30, AV.int IntKind.i64 v30)], defers := [] } st = some r := atW_of (Eq.trans (by kernel_rfl) h)
/-! (*stencil/patch.rendering).topmost -/
abbrev p42_0 : List Dir := [.sr, .sr, .sr, .sr, .sl, .sr, .bk]
theorem F42 (r0 : AV) (other1 : AV) (st : St) {r : AOut × St} (h : ((cell1 r0).bind fun c =>
  (cell1 other1).bind fun c_1 =>
    (readA (AObj.box 75 [c_1] :: AObj.box 75 [c] :: AObj.free 0 :: st) (AV.bp (AObj.free 0 :: st).length 0) 1 false).bind fun v =>
      (nilCheckA v).bind fun v =>
        (ptrAdd 0 v).bind fun v =>
          (readA (AObj.box 75 [c_1] :: AObj.box 75 [c] :: AObj.free 0 :: st) v 1 false).bind fun v =>
            (lenSl v).bind fun v =>
              (intV IntKind.i64 v).bind fun n =>
                aw 42 (st.length) p42_0
                  {
                    env :=
                      [(2, AV.bp (AObj.free 0 :: st).length 0), (6, AV.fn 60 [AV.bp (AObj.box 75 [c] :: AObj.free 0 :: st).length 0, AV.bp (AObj.free 0 :: st).length 0]), (7, AV.nils), (8, AV.int IntKind.i64 0), (16, AV.int IntKind.i64 n),
                        (17, AV.int IntKind.i64 0)],
                    defers := [] }
                  (AObj.box 75 [c_1] :: AObj.box 75 [c] :: AObj.free 0 :: st)) = some r) :
    cw 42 [r0, other1] st = some r := callW_of (Eq.trans (by kernel_rfl) h)
theorem F42_0 (r2 : AV) (keeps6 : AV) (out7 : AV) (count8 : Int) (v16 : Int) (v17 : Int) (base : Nat) (st : St) {r : AOut × St} (h : (if decide (v17 < v16) = true then
  (fnV keeps6).bind fun q =>
    callB (cw q.fst ([AV.int IntKind.i64 v17] ++ q.snd) st)
      (fun v st_1 =>
        (boolV v).bind fun b =>
          if b = true then
            (roundV (st.length) { env := [(2, r2), (6, keeps6), (7, out7), (8, AV.int IntKind.i64 count8), (16, AV.int IntKind.i64 v16), (17, AV.int IntKind.i64 (IntKind.i64.wrap (v17 + 1)))], defers := [] } st_1).bind fun e =>
              aw 42 base p42_0 e.fst e.snd
          else
            (readA st_1 r2 1 false).bind fun v =>
              (nilCheckA v).bind fun v =>
                (ptrAdd 0 v).bind fun v =>
                  (readA st_1 v 1 false).bind fun v =>
                    (natA (AV.int IntKind.i64 v17)).bind fun j =>
                      (idxSl st_1 30 v j).bind fun v =>
                        (ptrAdd 26 v).bind fun v =>
                          (readA st_1 v 1 false).bind fun v =>
                            (intV IntKind.i64 v).bind fun n =>
                              if decide (n < 0) = true then
                                bind2 (appendL st_1 (some (base + 0, true)) 8 1 out7 (AV.sl 1 [[AV.int IntKind.i64 v17]] 0 1 Tok.exact)) fun v st_2 =>
                                  (roundV (st.length)
                                        { env := [(2, r2), (6, keeps6), (7, v), (8, AV.int IntKind.i64 (IntKind.i64.wrap (count8 + 1))), (16, AV.int IntKind.i64 v16), (17, AV.int IntKind.i64 (IntKind.i64.wrap (v17 + 1)))], defers := [] }
                                        st_2).bind
                                    fun e => aw 42 base p42_0 e.fst e.snd
                              else
                                (fnV keeps6).bind fun q =>
                                  callB (cw q.fst ([AV.int IntKind.i64 n] ++ q.snd) st_1)
                                    (fun v st_2 =>
                                      (boolV v).bind fun b =>
                                        if b = true then
                                          bind2 (appendL st_2 (some (base + 0, true)) 8 1 out7 (AV.sl 1 [[AV.int IntKind.i64 v17]] 0 1 Tok.exact)) fun v st_3 =>
                                            (roundV (st.length)
                                                  { env := [(2, r2), (6, keeps6), (7, v), (8, AV.int IntKind.i64 (IntKind.i64.wrap (count8 + 1))), (16, AV.int IntKind.i64 v16), (17, AV.int IntKind.i64 (IntKind.i64.wrap (v17 + 1)))],
                                                    defers := [] }
                                                  st_3).bind
                                              fun e => aw 42 base p42_0 e.fst e.snd
                                        else
                                          (roundV (st.length)
                                                { env := [(2, r2), (6, keeps6), (7, out7), (8, AV.int IntKind.i64 (IntKind.i64.wrap (count8 + 1))), (16, AV.int IntKind.i64 v16), (17, AV.int IntKind.i64 (IntKind.i64.wrap (v17 + 1)))],
                                                  defers := [] }
                                                st_2).bind
                                            fun e => aw 42 base p42_0 e.fst e.snd)
                                    fun v st => outL true base (AOut.pan v) st)
      fun v st => outL true base (AOut.pan v) st
else outL true base (AOut.ret (AV.tup [out7, AV.int IntKind.i64 count8])) st) = some r) :
    aw 42 base (p42_0) { env := [(2, r2), (6, keeps6), (7, out7), (8, AV.int IntKind.i64 count8), (16, AV.int IntKind.i64 v16), (17, AV.int IntKind.i64 v17)], defers := [] } st = some r := atW_of (Eq.trans (by kernel_rfl) h)
/-! slices.Clip[[]int,int] -/
theorem F43 (s0 : AV) (st : St) {r : AOut × St} (h : ((lenSl s0).bind fun v =>
  (intV IntKind.i64 v).bind fun n => (lenSl s0).bind fun v => (intV IntKind.i64 v).bind fun n_1 => (sliceSl st 1 s0 none (some (AV.int IntKind.i64 n)) (some (AV.int IntKind.i64 n_1))).bind fun v => outL true (st.length) (AOut.ret v) st) = some r) :
    cw 43 [s0] st = some r := callW_of (Eq.trans (by kernel_rfl) h)
/-! stencil/stencilref18.loops -/
abbrev p45_0 : List Dir := [.sr, .sl, .sr, .bk]
theorem F45 (ls0 : AV) (st : St) {r : AOut × St} (h : (aw 45 (st.length) p45_0 { env := [(0, ls0), (3, AV.int IntKind.i64 0)], defers := [] } st) = some r) :
    cw 45 [ls0] st = some r := callW_of (Eq.trans (by kernel_rfl) h)
theorem F45_0 (ls0 : AV) (i3 : Int) (base : Nat) (st : St) {r : AOut × St} (h : ((lenSl ls0).bind fun v =>
  (intV IntKind.i64 v).bind fun n =>
    if decide (i3 < n) = true then
      (natA (AV.int IntKind.i64 i3)).bind fun j =>
        (idxSl st 27 ls0 j).bind fun v =>
          (ptrAdd 26 v).bind fun v =>
            (readA st v 1 false).bind fun v =>
              callB (cw 18 [v, AV.nils] st)
                (fun v st =>
                  (extractA 0 v).bind fun v_1 =>
                    (intV IntKind.i64 v_1).bind fun n =>
                      (extractA 1 v).bind fun v_2 =>
                        (intV IntKind.i64 v_2).bind fun n =>
                          (extractA 2 v).bind fun v =>
                            (intV IntKind.i64 v).bind fun n =>
                              if (n != 0) = true then outL false base (AOut.ret (AV.bool false)) st
                              else
                                (natA (AV.int IntKind.i64 i3)).bind fun j =>
                                  (idxSl st 27 ls0 j).bind fun v =>
                                    (ptrAdd 0 v).bind fun v =>
                                      (readA st v 26 true).bind fun v =>
                                        callB (cw 61 [v] st)
                                          (fun v st =>
                                            (boolV v).bind fun b =>
                                              if (!b) = true then outL false base (AOut.ret (AV.bool false)) st
                                              else
                                                (sliceSl st 27 ls0 none (some (AV.int IntKind.i64 i3)) none).bind fun v =>
                                                  (natA (AV.int IntKind.i64 i3)).bind fun j =>
                                                    (idxSl st 27 ls0 j).bind fun v_3 =>
                                                      (ptrAdd 0 v_3).bind fun v_4 =>
                                                        (readA st v_4 26 true).bind fun v_5 =>
                                                          callB (cw 49 [v, v_5] st)
                                                            (fun v st =>
                                                              (intV IntKind.i64 v).bind fun n =>
                                                                if decide (n ≥ 0) = true then outL false base (AOut.ret (AV.bool false)) st
                                                                else aw 45 base p45_0 { env := [(0, ls0), (3, AV.int IntKind.i64 (IntKind.i64.wrap (i3 + 1)))], defers := [] } st)
                                                            fun v st => outL false base (AOut.pan v) st)
                                          fun v st => outL false base (AOut.pan v) st)
                fun v st => outL false base (AOut.pan v) st
    else outL false base (AOut.ret (AV.bool true)) st) = some r) :
    aw 45 base p45_0 { env := [(0, ls0), (3, AV.int IntKind.i64 i3)], defers := [] } st = some r := atW_of (Eq.trans (by kernel_rfl) h)
/-! stencil/stencilref18.find -/
abbrev p46_0 : List Dir := [.sr, .sl, .sr, .bk]
theorem F46 (ss0 : AV) (o1 : List AV) (st : St) {r : AOut × St} (h : ((cellsV 26 (AV.agg o1)).bind fun cs => aw 46 (st.length) p46_0 { env := [(0, ss0), (3, AV.bp (st.length) 0), (5, AV.int IntKind.i64 0)], defers := [] } (AObj.box 67 cs :: st)) = some r) :
    cw 46 [ss0, AV.agg o1] st = some r := callW_of (Eq.trans (by kernel_rfl) h)
theorem F46_0 (ss0 : AV) (o3 : AV) (i5 : Int) (base : Nat) (st : St) {r : AOut × St} (h : ((lenSl ss0).bind fun v =>
  (intV IntKind.i64 v).bind fun n =>
    if decide (i5 < n) = true then
      (natA (AV.int IntKind.i64 i5)).bind fun j =>
        (idxSl st 30 ss0 j).bind fun v =>
          (ptrAdd 0 v).bind fun v =>
            (readA st v 26 true).bind fun v =>
              (readA st o3 26 true).bind fun v_1 =>
                (binA Try.prog BinOp.eql 67 false v v_1).bind fun v =>
                  (boolV v).bind fun b =>
                    if b = true then outL false base (AOut.ret (AV.int IntKind.i64 i5)) st else aw 46 base p46_0 { env := [(0, ss0), (3, o3), (5, AV.int IntKind.i64 (IntKind.i64.wrap (i5 + 1)))], defers := [] } st
    else outL false base (AOut.ret (AV.int IntKind.i64 (-1))) st) = some r) :
    aw 46 base p46_0 { env := [(0, ss0), (3, o3), (5, AV.int IntKind.i64 i5)], defers := [] } st = some r := atW_of (Eq.trans (by kernel_rfl) h)
/-! stencil/stencilref18.attrs -/
abbrev p47_0 : List Dir := [.sr, .sr, .sl, .sr, .bk]
abbrev p47_1 : List Dir := [.sr, .sr, .sr, .sl, .sr, .bk]
theorem F47 (a0 : AV) (b1 : AV) (st : St) {r : AOut × St} (h : (aw 47 (st.length) p47_0 { env := [(0, a0), (1, b1), (5, AV.int IntKind.i64 0), (6, AV.int IntKind.i64 0)], defers := [] } st) = some r) :
    cw 47 [a0, b1] st = some r := callW_of (Eq.trans (by kernel_rfl) h)
theorem F47_0 (a0 : AV) (b1 : AV) (k5 : Int) (i6 : Int) (base : Nat) (st : St) {r : AOut × St} (h : ((lenSl a0).bind fun v =>
  (intV IntKind.i64 v).bind fun n =>
    if decide (i6 < n) = true then
      (natA (AV.int IntKind.i64 i6)).bind fun j =>
        (idxSl st 2 a0 j).bind fun v =>
          (ptrAdd 0 v).bind fun v =>
            (readA st v 1 false).bind fun v =>
              (strV v).bind fun s =>
                callB (cw 62 [b1, AV.str s] st)
                  (fun v st =>
                    (extractA 0 v).bind fun v_1 =>
                      (strV v_1).bind fun s =>
                        (extractA 1 v).bind fun v =>
                          (boolV v).bind fun b =>
                            if (!b) = true then aw 47 base p47_0 { env := [(0, a0), (1, b1), (5, AV.int IntKind.i64 (IntKind.i64.wrap (k5 + 1))), (6, AV.int IntKind.i64 (IntKind.i64.wrap (i6 + 1)))], defers := [] } st
                            else
                              (natA (AV.int IntKind.i64 i6)).bind fun j =>
                                (idxSl st 2 a0 j).bind fun v =>
                                  (ptrAdd 1 v).bind fun v =>
                                    (readA st v 1 false).bind fun v =>
                                      (strV v).bind fun s_1 =>
                                        (strA BinOp.neq s s_1).bind fun v =>
                                          (boolV v).bind fun b =>
                                            if b = true then
                                              aw 47 base p47_0 { env := [(0, a0), (1, b1), (5, AV.int IntKind.i64 (IntKind.i64.wrap (k5 + 1))), (6, AV.int IntKind.i64 (IntKind.i64.wrap (i6 + 1)))], defers := [] } st
                                            else aw 47 base p47_0 { env := [(0, a0), (1, b1), (5, AV.int IntKind.i64 k5), (6, AV.int IntKind.i64 (IntKind.i64.wrap (i6 + 1)))], defers := [] } st)
                  fun v st => outL false base (AOut.pan v) st
    else aw 47 base p47_1 { env := [(0, a0), (1, b1), (5, AV.int IntKind.i64 k5), (9, AV.int IntKind.i64 0)], defers := [] } st) = some r) :
    aw 47 base p47_0 { env := [(0, a0), (1, b1), (5, AV.int IntKind.i64 k5), (6, AV.int IntKind.i64 i6)], defers := [] } st = some r := atW_of (Eq.trans (by kernel_rfl) h)
theorem F47_1 (a0 : AV) (b1 : AV) (k5 : Int) (i9 : Int) (base : Nat) (st : St) {r : AOut × St} (h : ((lenSl b1).bind fun v =>
  (intV IntKind.i64 v).bind fun n =>
    if decide (i9 < n) = true then
      (natA (AV.int IntKind.i64 i9)).bind fun j =>
        (idxSl st 2 b1 j).bind fun v =>
          (ptrAdd 0 v).bind fun v =>
            (readA st v 1 false).bind fun v =>
              (strV v).bind fun s =>
                callB (cw 62 [a0, AV.str s] st)
                  (fun v st =>
                    (extractA 0 v).bind fun v_1 =>
                      (strV v_1).bind fun s =>
                        (extractA 1 v).bind fun v =>
                          (boolV v).bind fun b =>
                            if (!b) = true then aw 47 base p47_1 { env := [(0, a0), (1, b1), (5, AV.int IntKind.i64 (IntKind.i64.wrap (k5 + 1))), (9, AV.int IntKind.i64 (IntKind.i64.wrap (i9 + 1)))], defers := [] } st
                            else aw 47 base p47_1 { env := [(0, a0), (1, b1), (5, AV.int IntKind.i64 k5), (9, AV.int IntKind.i64 (IntKind.i64.wrap (i9 + 1)))], defers := [] } st)
                  fun v st => outL false base (AOut.pan v) st
    else outL false base (AOut.ret (AV.int IntKind.i64 k5)) st) = some r) :
    aw 47 base p47_1 { env := [(0, a0), (1, b1), (5, AV.int IntKind.i64 k5), (9, AV.int IntKind.i64 i9)], defers := [] } st = some r := atW_of (Eq.trans (by kernel_rfl) h)
/-! stencil/stencilref18.tops -/
abbrev p48_0 : List Dir := [.sr, .sr, .sl, .sr, .bk]
theorem F48 (ss0 : AV) (mate1 : AV) (st : St) {r : AOut × St} (h : (aw 48 (st.length) p48_0 { env := [(0, ss0), (1, mate1), (5, AV.nils), (6, AV.int IntKind.i64 0)], defers := [] } (AObj.free 0 :: st)) = some r) :
    cw 48 [ss0, mate1] st = some r := callW_of (Eq.trans (by kernel_rfl) h)
theorem F48_0 (ss0 : AV) (mate1 : AV) (out5 : AV) (i6 : Int) (base : Nat) (st : St) {r : AOut × St} (h : ((lenSl ss0).bind fun v =>
  (intV IntKind.i64 v).bind fun n =>
    if decide (i6 < n) = true then
      (natA (AV.int IntKind.i64 i6)).bind fun j =>
        (idxSl st 1 mate1 j).bind fun v =>
          (readA st v 1 false).bind fun v =>
            (intV IntKind.i64 v).bind fun n =>
              if decide (n < 0) = true then
                (natA (AV.int IntKind.i64 i6)).bind fun j =>
                  (idxSl st 30 ss0 j).bind fun v =>
                    (ptrAdd 26 v).bind fun v =>
                      (readA st v 1 false).bind fun v =>
                        (intV IntKind.i64 v).bind fun n =>
                          if decide (n < 0) = true then
                            bind2 (appendL st (some (base + 0, false)) 8 1 out5 (AV.sl 1 [[AV.int IntKind.i64 i6]] 0 1 Tok.exact)) fun v st =>
                              aw 48 base p48_0 { env := [(0, ss0), (1, mate1), (5, v), (6, AV.int IntKind.i64 (IntKind.i64.wrap (i6 + 1)))], defers := [] } st
                          else
                            (natA (AV.int IntKind.i64 i6)).bind fun j =>
                              (idxSl st 30 ss0 j).bind fun v =>
                                (ptrAdd 26 v).bind fun v =>
                                  (readA st v 1 false).bind fun v =>
                                    (intV IntKind.i64 v).bind fun n =>
                                      (natA (AV.int IntKind.i64 n)).bind fun j =>
                                        (idxSl st 1 mate1 j).bind fun v =>
                                          (readA st v 1 false).bind fun v =>
                                            (intV IntKind.i64 v).bind fun n =>
                                              if decide (n ≥ 0) = true then
                                                bind2 (appendL st (some (base + 0, false)) 8 1 out5 (AV.sl 1 [[AV.int IntKind.i64 i6]] 0 1 Tok.exact)) fun v st =>
                                                  aw 48 base p48_0 { env := [(0, ss0), (1, mate1), (5, v), (6, AV.int IntKind.i64 (IntKind.i64.wrap (i6 + 1)))], defers := [] } st
                                              else aw 48 base p48_0 { env := [(0, ss0), (1, mate1), (5, out5), (6, AV.int IntKind.i64 (IntKind.i64.wrap (i6 + 1)))], defers := [] } st
              else aw 48 base p48_0 { env := [(0, ss0), (1, mate1), (5, out5), (6, AV.int IntKind.i64 (IntKind.i64.wrap (i6 + 1)))], defers := [] } st
    else bind2 (freezeA st out5) fun v st => outL false base (AOut.ret v) st) = some r) :
    aw 48 base p48_0 { env := [(0, ss0), (1, mate1), (5, out5), (6, AV.int IntKind.i64 i6)], defers := [] } st = some r := atW_of (Eq.trans (by kernel_rfl) h)
/-! stencil/stencilref18.loop -/
abbrev p49_0 : List Dir := [.sr, .sl, .sr, .bk]
theorem F49 (ls0 : AV) (o1 : List AV) (st : St) {r : AOut × St} (h : ((cellsV 26 (AV.agg o1)).bind fun cs => aw 49 (st.length) p49_0 { env := [(0, ls0), (3, AV.bp (st.length) 0), (5, AV.int IntKind.i64 0)], defers := [] } (AObj.box 67 cs :: st)) = some r) :
    cw 49 [ls0, AV.agg o1] st = some r := callW_of (Eq.trans (by kernel_rfl) h)
theorem F49_0 (ls0 : AV) (o3 : AV) (i5 : Int) (base : Nat) (st : St) {r : AOut × St} (h : ((lenSl ls0).bind fun v =>
  (intV IntKind.i64 v).bind fun n =>
    if decide (i5 < n) = true then
      (natA (AV.int IntKind.i64 i5)).bind fun j =>
        (idxSl st 27 ls0 j).bind fun v =>
          (ptrAdd 0 v).bind fun v =>
            (readA st v 26 true).bind fun v =>
              (readA st o3 26 true).bind fun v_1 =>
                (binA Try.prog BinOp.eql 67 false v v_1).bind fun v =>
                  (boolV v).bind fun b =>
                    if b = true then outL false base (AOut.ret (AV.int IntKind.i64 i5)) st else aw 49 base p49_0 { env := [(0, ls0), (3, o3), (5, AV.int IntKind.i64 (IntKind.i64.wrap (i5 + 1)))], defers := [] } st
    else outL false base (AOut.ret (AV.int IntKind.i64 (-1))) st) = some r) :
    aw 49 base p49_0 { env := [(0, ls0), (3, o3), (5, AV.int IntKind.i64 i5)], defers := [] } st = some r := atW_of (Eq.trans (by kernel_rfl) h)
/-! stencil/stencillaw0.SameSpot -/
theorem F50 (a0 : List AV) (b1 : List AV) (st : St) {r : AOut × St} (h : ((cellsV 30 (AV.agg a0)).bind fun cs =>
  (cellsV 30 (AV.agg b1)).bind fun cs_1 =>
    (readA (AObj.free 0 :: AObj.box 70 cs_1 :: AObj.free 0 :: AObj.box 70 cs :: st) (AV.bp (st.length) 0) 26 true).bind fun v =>
      (readA (AObj.free 0 :: AObj.box 70 cs_1 :: AObj.free 0 :: AObj.box 70 cs :: st) (AV.bp (AObj.free 0 :: AObj.box 70 cs :: st).length 0) 26 true).bind fun v_1 =>
        (binA Try.prog BinOp.eql 67 false v v_1).bind fun v =>
          (boolV v).bind fun b =>
            if b = true then
              (readA (AObj.free 0 :: AObj.box 70 cs_1 :: AObj.free 0 :: AObj.box 70 cs :: st) (AV.bp (st.length) 26) 1 false).bind fun v =>
                (intV IntKind.i64 v).bind fun n =>
                  (readA (AObj.free 0 :: AObj.box 70 cs_1 :: AObj.free 0 :: AObj.box 70 cs :: st) (AV.bp (AObj.free 0 :: AObj.box 70 cs :: st).length 26) 1 false).bind fun v =>
                    (intV IntKind.i64 v).bind fun n_1 =>
                      if (n == n_1) = true then
                        (readA (AObj.free 0 :: AObj.box 70 cs_1 :: AObj.free 0 :: AObj.box 70 cs :: st) (AV.bp (st.length) 27) 1 false).bind fun v =>
                          (strV v).bind fun s =>
                            (readA (AObj.free 0 :: AObj.box 70 cs_1 :: AObj.free 0 :: AObj.box 70 cs :: st) (AV.bp (AObj.free 0 :: AObj.box 70 cs :: st).length 27) 1 false).bind fun v =>
                              (strV v).bind fun s_1 =>
                                (strA BinOp.eql s s_1).bind fun v =>
                                  (boolV v).bind fun b =>
                                    if b = true then
                                      (readA (AObj.free 0 :: AObj.box 70 cs_1 :: AObj.free 0 :: AObj.box 70 cs :: st) (AV.bp (st.length) 28) 1 false).bind fun v =>
                                        (strV v).bind fun s =>
                                          (readA (AObj.free 0 :: AObj.box 70 cs_1 :: AObj.free 0 :: AObj.box 70 cs :: st) (AV.bp (AObj.free 0 :: AObj.box 70 cs :: st).length 28) 1 false).bind fun v =>
                                            (strV v).bind fun s_2 =>
                                              (strA BinOp.eql s s_2).bind fun v =>
                                                (boolV v).bind fun b =>
                                                  if b = true then
                                                    (readA (AObj.free 0 :: AObj.box 70 cs_1 :: AObj.free 0 :: AObj.box 70 cs :: st) (AV.bp (st.length) 29) 1 false).bind fun v =>
                                                      (readA (AObj.free 0 :: AObj.box 70 cs_1 :: AObj.free 0 :: AObj.box 70 cs :: st) (AV.bp (AObj.free 0 :: AObj.box 70 cs :: st).length 29) 1 false).bind fun v_2 =>
                                                        callB (cw 63 [v, v_2] (AObj.free 0 :: AObj.box 70 cs_1 :: AObj.free 0 :: AObj.box 70 cs :: st))
                                                          (fun v st_1 => (boolV v).bind fun b => outL false (st.length) (AOut.ret (AV.bool b)) st_1) fun v st_1 => outL false (st.length) (AOut.pan v) st_1
                                                  else outL false (st.length) (AOut.ret (AV.bool false)) (AObj.free 0 :: AObj.box 70 cs_1 :: AObj.free 0 :: AObj.box 70 cs :: st)
                                    else outL false (st.length) (AOut.ret (AV.bool false)) (AObj.free 0 :: AObj.box 70 cs_1 :: AObj.free 0 :: AObj.box 70 cs :: st)
                      else outL false (st.length) (AOut.ret (AV.bool false)) (AObj.free 0 :: AObj.box 70 cs_1 :: AObj.free 0 :: AObj.box 70 cs :: st)
            else outL false (st.length) (AOut.ret (AV.bool false)) (AObj.free 0 :: AObj.box 70 cs_1 :: AObj.free 0 :: AObj.box 70 cs :: st)) = some r) :
    cw 50 [AV.agg a0, AV.agg b1] st = some r := callW_of (Eq.trans (by kernel_rfl) h)
/-! stencil/stencillaw0.KeptSpot -/
theorem F51 (lent0 : List AV) (a1 : List AV) (st : St) {r : AOut × St} (h : ((cellsV 30 (AV.agg lent0)).bind fun cs =>
  (cellsV 30 (AV.agg a1)).bind fun cs_1 =>
    (readA (AObj.free 0 :: AObj.box 70 cs_1 :: AObj.free 0 :: AObj.box 70 cs :: st) (AV.bp (st.length) 0) 26 true).bind fun v =>
      (readA (AObj.free 0 :: AObj.box 70 cs_1 :: AObj.free 0 :: AObj.box 70 cs :: st) (AV.bp (AObj.free 0 :: AObj.box 70 cs :: st).length 0) 26 true).bind fun v_1 =>
        (binA Try.prog BinOp.eql 67 false v v_1).bind fun v =>
          (boolV v).bind fun b =>
            if b = true then
              (readA (AObj.free 0 :: AObj.box 70 cs_1 :: AObj.free 0 :: AObj.box 70 cs :: st) (AV.bp (st.length) 26) 1 false).bind fun v =>
                (intV IntKind.i64 v).bind fun n =>
                  (readA (AObj.free 0 :: AObj.box 70 cs_1 :: AObj.free 0 :: AObj.box 70 cs :: st) (AV.bp (AObj.free 0 :: AObj.box 70 cs :: st).length 26) 1 false).bind fun v =>
                    (intV IntKind.i64 v).bind fun n_1 =>
                      if (n == n_1) = true then
                        (readA (AObj.free 0 :: AObj.box 70 cs_1 :: AObj.free 0 :: AObj.box 70 cs :: st) (AV.bp (st.length) 27) 1 false).bind fun v =>
                          (strV v).bind fun s =>
                            (readA (AObj.free 0 :: AObj.box 70 cs_1 :: AObj.free 0 :: AObj.box 70 cs :: st) (AV.bp (AObj.free 0 :: AObj.box 70 cs :: st).length 27) 1 false).bind fun v =>
                              (strV v).bind fun s_1 =>
                                (strA BinOp.eql s s_1).bind fun v =>
                                  (boolV v).bind fun b =>
                                    if b = true then
                                      (readA (AObj.free 0 :: AObj.box 70 cs_1 :: AObj.free 0 :: AObj.box 70 cs :: st) (AV.bp (st.length) 28) 1 false).bind fun v =>
                                        (strV v).bind fun s =>
                                          (readA (AObj.free 0 :: AObj.box 70 cs_1 :: AObj.free 0 :: AObj.box 70 cs :: st) (AV.bp (AObj.free 0 :: AObj.box 70 cs :: st).length 28) 1 false).bind fun v =>
                                            (strV v).bind fun s_2 =>
                                              (strA BinOp.eql s s_2).bind fun v =>
                                                (boolV v).bind fun b =>
                                                  if b = true then
                                                    (readA (AObj.free 0 :: AObj.box 70 cs_1 :: AObj.free 0 :: AObj.box 70 cs :: st) (AV.bp (st.length) 29) 1 false).bind fun v =>
                                                      (readA (AObj.free 0 :: AObj.box 70 cs_1 :: AObj.free 0 :: AObj.box 70 cs :: st) (AV.bp (AObj.free 0 :: AObj.box 70 cs :: st).length 29) 1 false).bind fun v_2 =>
                                                        callB (cw 64 [v, v_2] (AObj.free 0 :: AObj.box 70 cs_1 :: AObj.free 0 :: AObj.box 70 cs :: st))
                                                          (fun v st_1 => (boolV v).bind fun b => outL false (st.length) (AOut.ret (AV.bool b)) st_1) fun v st_1 => outL false (st.length) (AOut.pan v) st_1
                                                  else outL false (st.length) (AOut.ret (AV.bool false)) (AObj.free 0 :: AObj.box 70 cs_1 :: AObj.free 0 :: AObj.box 70 cs :: st)
                                    else outL false (st.length) (AOut.ret (AV.bool false)) (AObj.free 0 :: AObj.box 70 cs_1 :: AObj.free 0 :: AObj.box 70 cs :: st)
                      else outL false (st.length) (AOut.ret (AV.bool false)) (AObj.free 0 :: AObj.box 70 cs_1 :: AObj.free 0 :: AObj.box 70 cs :: st)
            else outL false (st.length) (AOut.ret (AV.bool false)) (AObj.free 0 :: AObj.box 70 cs_1 :: AObj.free 0 :: AObj.box 70 cs :: st)) = some r) :
    cw 51 [AV.agg lent0, AV.agg a1] st = some r := callW_of (Eq.trans (by kernel_rfl) h)
/-! stencil/stencillaw0.SameLoop -/
theorem F52 (a0 : List AV) (b1 : List AV) (st : St) {r : AOut × St} (h : ((cellsV 27 (AV.agg a0)).bind fun cs =>
  (cellsV 27 (AV.agg b1)).bind fun cs_1 =>
    (readA (AObj.free 0 :: AObj.box 73 cs_1 :: AObj.free 0 :: AObj.box 73 cs :: st) (AV.bp (st.length) 0) 26 true).bind fun v =>
      (readA (AObj.free 0 :: AObj.box 73 cs_1 :: AObj.free 0 :: AObj.box 73 cs :: st) (AV.bp (AObj.free 0 :: AObj.box 73 cs :: st).length 0) 26 true).bind fun v_1 =>
        (binA Try.prog BinOp.eql 67 false v v_1).bind fun v =>
          (boolV v).bind fun b =>
            if b = true then
              (readA (AObj.free 0 :: AObj.box 73 cs_1 :: AObj.free 0 :: AObj.box 73 cs :: st) (AV.bp (st.length) 26) 1 false).bind fun v =>
                (readA (AObj.free 0 :: AObj.box 73 cs_1 :: AObj.free 0 :: AObj.box 73 cs :: st) (AV.bp (AObj.free 0 :: AObj.box 73 cs :: st).length 26) 1 false).bind fun v_2 =>
                  callB (cw 37 [v, v_2] (AObj.free 0 :: AObj.box 73 cs_1 :: AObj.free 0 :: AObj.box 73 cs :: st)) (fun v st_1 => (boolV v).bind fun b => outL false (st.length) (AOut.ret (AV.bool b)) st_1)
                    fun v st_1 => outL false (st.length) (AOut.pan v) st_1
            else outL false (st.length) (AOut.ret (AV.bool false)) (AObj.free 0 :: AObj.box 73 cs_1 :: AObj.free 0 :: AObj.box 73 cs :: st)) = some r) :
    cw 52 [AV.agg a0, AV.agg b1] st = some r := callW_of (Eq.trans (by kernel_rfl) h)
/-! stencil/stencillaw0.KeptLoop -/
theorem F53 (lent0 : List AV) (a1 : List AV) (st : St) {r : AOut × St} (h : ((cellsV 27 (AV.agg lent0)).bind fun cs =>
  (cellsV 27 (AV.agg a1)).bind fun cs_1 =>
    (readA (AObj.free 0 :: AObj.box 73 cs_1 :: AObj.free 0 :: AObj.box 73 cs :: st) (AV.bp (st.length) 0) 26 true).bind fun v =>
      (readA (AObj.free 0 :: AObj.box 73 cs_1 :: AObj.free 0 :: AObj.box 73 cs :: st) (AV.bp (AObj.free 0 :: AObj.box 73 cs :: st).length 0) 26 true).bind fun v_1 =>
        (binA Try.prog BinOp.eql 67 false v v_1).bind fun v =>
          (boolV v).bind fun b =>
            if b = true then
              (readA (AObj.free 0 :: AObj.box 73 cs_1 :: AObj.free 0 :: AObj.box 73 cs :: st) (AV.bp (st.length) 26) 1 false).bind fun v =>
                (readA (AObj.free 0 :: AObj.box 73 cs_1 :: AObj.free 0 :: AObj.box 73 cs :: st) (AV.bp (AObj.free 0 :: AObj.box 73 cs :: st).length 26) 1 false).bind fun v_2 =>
                  callB (cw 20 [v, v_2] (AObj.free 0 :: AObj.box 73 cs_1 :: AObj.free 0 :: AObj.box 73 cs :: st)) (fun v st_1 => (boolV v).bind fun b => outL false (st.length) (AOut.ret (AV.bool b)) st_1)
                    fun v st_1 => outL false (st.length) (AOut.pan v) st_1
            else outL false (st.length) (AOut.ret (AV.bool false)) (AObj.free 0 :: AObj.box 73 cs_1 :: AObj.free 0 :: AObj.box 73 cs :: st)) = some r) :
    cw 53 [AV.agg lent0, AV.agg a1] st = some r := callW_of (Eq.trans (by kernel_rfl) h)
/-! stencil/stencillaw18.spot -/
theorem F54 (i0 : Int) (parent1 : Int) (st : St) {r : AOut × St} (h : ((cellsV 26
      (AV.agg
        [AV.int IntKind.i64 i0, AV.int IntKind.i64 0, AV.int IntKind.i64 0, AV.int IntKind.i64 0, AV.str [], AV.int IntKind.i64 0, AV.int IntKind.i64 0, AV.str [], AV.int IntKind.i64 0, AV.int IntKind.i64 0, AV.str [], AV.int IntKind.i64 0,
          AV.int IntKind.i64 0, AV.str [], AV.int IntKind.i64 0, AV.int IntKind.i64 0, AV.str [], AV.int IntKind.i64 0, AV.int IntKind.i64 0, AV.str [], AV.int IntKind.i64 0, AV.int IntKind.i64 0, AV.str [], AV.int IntKind.i64 0,
          AV.int IntKind.i64 0, AV.str []])).bind
  fun cs =>
  (setAt
        [AV.int IntKind.i64 0, AV.int IntKind.i64 0, AV.int IntKind.i64 0, AV.int IntKind.i64 0, AV.str [], AV.int IntKind.i64 0, AV.int IntKind.i64 0, AV.str [], AV.int IntKind.i64 0, AV.int IntKind.i64 0, AV.str [], AV.int IntKind.i64 0,
          AV.int IntKind.i64 0, AV.str [], AV.int IntKind.i64 0, AV.int IntKind.i64 0, AV.str [], AV.int IntKind.i64 0, AV.int IntKind.i64 0, AV.str [], AV.int IntKind.i64 0, AV.int IntKind.i64 0, AV.str [], AV.int IntKind.i64 0,
          AV.int IntKind.i64 0, AV.str [], AV.int IntKind.i64 0, AV.str [], AV.str [], AV.nils]
        0 cs).bind
    fun c =>
    (setAt c 26 [AV.int IntKind.i64 parent1]).bind fun c =>
      (setAt c 27 [AV.str [UInt8.ofNat 112]]).bind fun c =>
        (cellsV 30 (AV.agg c)).bind fun cs =>
          (writeA
                (AObj.free 0 ::
                  AObj.box 70
                      [AV.int IntKind.i64 0, AV.int IntKind.i64 0, AV.int IntKind.i64 0, AV.int IntKind.i64 0, AV.str [], AV.int IntKind.i64 0, AV.int IntKind.i64 0, AV.str [], AV.int IntKind.i64 0, AV.int IntKind.i64 0, AV.str [],
                        AV.int IntKind.i64 0, AV.int IntKind.i64 0, AV.str [], AV.int IntKind.i64 0, AV.int IntKind.i64 0, AV.str [], AV.int IntKind.i64 0, AV.int IntKind.i64 0, AV.str [], AV.int IntKind.i64 0, AV.int IntKind.i64 0,
                        AV.str [], AV.int IntKind.i64 0, AV.int IntKind.i64 0, AV.str [], AV.int IntKind.i64 0, AV.str [], AV.str [], AV.nils] ::
                    st)
                (AV.bp (st.length) 0) cs).bind
            fun st_1 => ((ldA Try.prog st_1 70 (AV.bp (st.length) 0)).bind fun v => some [v]).bind fun vs => outL false (st.length) (AOut.ret (outV1 vs)) st_1) = some r) :
    cw 54 [AV.int IntKind.i64 i0, AV.int IntKind.i64 parent1] st = some r := callW_of (Eq.trans (by kernel_rfl) h)
/-! stencil/stencillaw0.LendAttrs -/
theorem F57 (a0 : AV) (st : St) {r : AOut × St} (h : (callB (cw 65 [a0] (AObj.free 0 :: st))
  (fun v st_1 =>
    (cellsV 2 (AV.agg [AV.str [UInt8.ofNat 126, UInt8.ofNat 114, UInt8.ofNat 111, UInt8.ofNat 111, UInt8.ofNat 109], AV.str []])).bind fun cs =>
      (cellsV 2 (AV.agg [AV.str [UInt8.ofNat 126, UInt8.ofNat 114, UInt8.ofNat 111, UInt8.ofNat 111, UInt8.ofNat 109], AV.str []])).bind fun cs_1 =>
        bind2 (appendL st_1 (some (st.length + 0, false)) 32 2 v (AV.sl 2 [List.map AV.strip cs, List.map AV.strip cs_1] 0 2 Tok.exact)) fun v st_2 =>
          (lenSl a0).bind fun v_1 => (intV IntKind.i64 v_1).bind fun n => (sliceSl st_2 2 v none (some (AV.int IntKind.i64 n)) none).bind fun v => bind2 (freezeA st_2 v) fun v st_3 => outL false (st.length) (AOut.ret v) st_3)
  fun v st_1 => outL false (st.length) (AOut.pan v) st_1) = some r) :
    cw 57 [a0] st = some r := callW_of (Eq.trans (by kernel_rfl) h)
/-! (*stencil/patch.rendering).loop -/
theorem F59 (r0 : AV) (i1 : Int) (st : St) {r : AOut × St} (h : ((nilCheckA r0).bind fun v =>
  (ptrAdd 1 v).bind fun v =>
    (readA st v 1 false).bind fun v =>
      (natA (AV.int IntKind.i64 i1)).bind fun j =>
        (idxSl st 27 v j).bind fun v =>
          (nilCheckA r0).bind fun v_1 =>
            (ptrAdd 3 v_1).bind fun v_2 =>
              (readA st v_2 1 false).bind fun v_3 =>
                (nilCheckA v).bind fun v_4 =>
                  (ptrAdd 0 v_4).bind fun v_5 =>
                    (readA st v_5 26 true).bind fun v_6 =>
                      (lookupA Try.prog st 77 v_3 v_6 true).bind fun v_7 =>
                        (extractA 0 v_7).bind fun v_8 =>
                          (intV IntKind.i64 v_8).bind fun n =>
                            (extractA 1 v_7).bind fun v_9 =>
                              (boolV v_9).bind fun b =>
                                (nilCheckA r0).bind fun v_10 =>
                                  (ptrAdd 3 v_10).bind fun v_11 =>
                                    (readA st v_11 1 false).bind fun v_12 =>
                                      (nilCheckA v).bind fun v_13 =>
                                        (ptrAdd 0 v_13).bind fun v_14 =>
                                          (readA st v_14 26 true).bind fun v_15 =>
                                            (mapUpdateA Try.prog st 77 v_12 v_15 (AV.int IntKind.i64 i1)).bind fun st_1 =>
                                              (nilCheckA v).bind fun v_16 =>
                                                (ptrAdd 26 v_16).bind fun v_17 =>
                                                  (readA st_1 v_17 1 false).bind fun v_18 =>
                                                    callB (cw 17 [v_18, AV.nils] st_1)
                                                      (fun v_19 st_2 =>
                                                        (extractA 0 v_19).bind fun v_20 =>
                                                          (intV IntKind.i64 v_20).bind fun n =>
                                                            (extractA 1 v_19).bind fun v_21 =>
                                                              (intV IntKind.i64 v_21).bind fun n =>
                                                                (extractA 2 v_19).bind fun v_22 =>
                                                                  (intV IntKind.i64 v_22).bind fun n =>
                                                                    (nilCheckA v).bind fun v =>
                                                                      (ptrAdd 0 v).bind fun v =>
                                                                        callB (cw 66 [v] st_2)
                                                                          (fun v st_3 =>
                                                                            (boolV v).bind fun b_1 =>
                                                                              if b_1 = true then
                                                                                if (!b) = true then outL false (st.length) (AOut.ret (AV.bool (n == 0))) st_3 else outL false (st.length) (AOut.ret (AV.bool false)) st_3
                                                                              else outL false (st.length) (AOut.ret (AV.bool false)) st_3)
                                                                          fun v st_3 => outL false (st.length) (AOut.pan v) st_3)
                                                      fun v st_2 => outL false (st.length) (AOut.pan v) st_2) = some r) :
    cw 59 [r0, AV.int IntKind.i64 i1] st = some r := callW_of (Eq.trans (by kernel_rfl) h)
/-! (*stencil/patch.rendering).topmost$1 -/
theorem F60 (i0 : Int) (c0 : AV) (c1 : AV) (st : St) {r : AOut × St} (h : ((readA st c0 1 false).bind fun v =>
  (nilCheckA v).bind fun v =>
    (ptrAdd 2 v).bind fun v =>
      (readA st v 1 false).bind fun v =>
        (readA st c1 1 false).bind fun v_1 =>
          (nilCheckA v_1).bind fun v_2 =>
            (ptrAdd 0 v_2).bind fun v_3 =>
              (readA st v_3 1 false).bind fun v_4 =>
                (natA (AV.int IntKind.i64 i0)).bind fun j =>
                  (idxSl st 30 v_4 j).bind fun v_5 =>
                    (ptrAdd 0 v_5).bind fun v_6 =>
                      (readA st v_6 26 true).bind fun v_7 =>
                        (lookupA Try.prog st 77 v v_7 true).bind fun v =>
                          (extractA 0 v).bind fun v_8 => (intV IntKind.i64 v_8).bind fun n => (extractA 1 v).bind fun v => (boolV v).bind fun b => outL false (st.length) (AOut.ret (AV.bool b)) st) = some r) :
    cw 60 [AV.int IntKind.i64 i0, c0, c1] st = some r := callW_of (Eq.trans (by kernel_rfl) h)
/-! stencil/stencilref18.origin -/
abbrev p61_0 : List Dir := [.sr, .sr, .sl, .sr, .bk]
theorem F61 (o0 : List AV) (st : St) {r : AOut × St} (h : ((cellsV 26 (AV.agg o0)).bind fun cs =>
  (readA (AObj.box 67 cs :: st) (AV.bp (st.length) 0) 1 false).bind fun v =>
    (intV IntKind.i64 v).bind fun n =>
      if decide (n < 0) = true then outL false (st.length) (AOut.ret (AV.bool false)) (AObj.box 67 cs :: st)
      else
        (readA (AObj.box 67 cs :: st) (AV.bp (st.length) 1) 1 false).bind fun v =>
          (intV IntKind.i64 v).bind fun n =>
            if decide (n < 0) = true then outL false (st.length) (AOut.ret (AV.bool false)) (AObj.box 67 cs :: st)
            else
              (readA (AObj.box 67 cs :: st) (AV.bp (st.length) 1) 1 false).bind fun v =>
                (intV IntKind.i64 v).bind fun n =>
                  if decide (n > 8) = true then outL false (st.length) (AOut.ret (AV.bool false)) (AObj.box 67 cs :: st)
                  else
                    (readA (AObj.box 67 cs :: st) (AV.bp (st.length) 1) 1 false).bind fun v =>
                      (intV IntKind.i64 v).bind fun n => aw 61 (st.length) p61_0 { env := [(1, AV.bp (st.length) 0), (3, AV.int IntKind.i64 n)], defers := [] } (AObj.box 67 cs :: st)) = some r) :
    cw 61 [AV.agg o0] st = some r := callW_of (Eq.trans (by kernel_rfl) h)
theorem F61_0 (o1 : AV) (i3 : Int) (base : Nat) (st : St) {r : AOut × St} (h : (if decide (i3 < 8) = true then
  (ptrAdd 2 o1).bind fun v =>
    (natA (AV.int IntKind.i64 i3)).bind fun j =>
      if j < 8 then
        (ptrAdd (j * 3) v).bind fun v =>
          (readA st v 3 true).bind fun v =>
            (binA Try.prog BinOp.neq 57 false v (AV.agg [AV.int IntKind.i64 0, AV.int IntKind.i64 0, AV.str []])).bind fun v =>
              (boolV v).bind fun b => if b = true then outL false base (AOut.ret (AV.bool false)) st else aw 61 base p61_0 { env := [(1, o1), (3, AV.int IntKind.i64 (IntKind.i64.wrap (i3 + 1)))], defers := [] } st
      else none
else outL false base (AOut.ret (AV.bool true)) st) = some r) :
    aw 61 base p61_0 { env := [(1, o1), (3, AV.int IntKind.i64 i3)], defers := [] } st = some r := atW_of (Eq.trans (by kernel_rfl) h)
/-! stencil/stencilref18.value -/
abbrev p62_0 : List Dir := [.sr, .sl, .sr, .bk]
theorem F62 (as0 : AV) (name1 : List UInt8) (st : St) {r : AOut × St} (h : (aw 62 (st.length) p62_0 { env := [(0, as0), (1, AV.str name1), (6, AV.int IntKind.i64 0)], defers := [] } st) = some r) :
    cw 62 [as0, AV.str name1] st = some r := callW_of (Eq.trans (by kernel_rfl) h)
theorem F62_0 (as0 : AV) (name1 : List UInt8) (i6 : Int) (base : Nat) (st : St) {r : AOut × St} (h : ((lenSl as0).bind fun v =>
  (intV IntKind.i64 v).bind fun n =>
    if decide (i6 < n) = true then
      (natA (AV.int IntKind.i64 i6)).bind fun j =>
        (idxSl st 2 as0 j).bind fun v =>
          (ptrAdd 0 v).bind fun v =>
            (readA st v 1 false).bind fun v =>
              (strV v).bind fun s =>
                (strA BinOp.eql s name1).bind fun v =>
                  (boolV v).bind fun b =>
                    if b = true then
                      (natA (AV.int IntKind.i64 i6)).bind fun j =>
                        (idxSl st 2 as0 j).bind fun v => (ptrAdd 1 v).bind fun v => (readA st v 1 false).bind fun v => (strV v).bind fun s => outL false base (AOut.ret (AV.tup [AV.str s, AV.bool true])) st
                    else aw 62 base p62_0 { env := [(0, as0), (1, AV.str name1), (6, AV.int IntKind.i64 (IntKind.i64.wrap (i6 + 1)))], defers := [] } st
    else outL false base (AOut.ret (AV.tup [AV.str [], AV.bool false])) st) = some r) :
    aw 62 base p62_0 { env := [(0, as0), (1, AV.str name1), (6, AV.int IntKind.i64 i6)], defers := [] } st = some r := atW_of (Eq.trans (by kernel_rfl) h)
/-! stencil/stencillaw0.SameAttrs -/
abbrev p63_0 : List Dir := [.sr, .sr, .sl, .sr, .bk]
theorem F63 (a0 : AV) (b1 : AV) (st : St) {r : AOut × St} (h : ((lenSl a0).bind fun v =>
  (intV IntKind.i64 v).bind fun n =>
    (lenSl b1).bind fun v =>
      (intV IntKind.i64 v).bind fun n_1 =>
        if (n != n_1) = true then outL false (st.length) (AOut.ret (AV.bool false)) st else aw 63 (st.length) p63_0 { env := [(0, a0), (1, b1), (5, AV.int IntKind.i64 0)], defers := [] } st) = some r) :
    cw 63 [a0, b1] st = some r := callW_of (Eq.trans (by kernel_rfl) h)
theorem F63_0 (a0 : AV) (b1 : AV) (i5 : Int) (base : Nat) (st : St) {r : AOut × St} (h : ((lenSl a0).bind fun v =>
  (intV IntKind.i64 v).bind fun n =>
    if decide (i5 < n) = true then
      (natA (AV.int IntKind.i64 i5)).bind fun j =>
        (idxSl st 2 a0 j).bind fun v =>
          (readA st v 2 true).bind fun v =>
            (natA (AV.int IntKind.i64 i5)).bind fun j =>
              (idxSl st 2 b1 j).bind fun v_1 =>
                (readA st v_1 2 true).bind fun v_2 =>
                  (binA Try.prog BinOp.neq 98 false v v_2).bind fun v =>
                    (boolV v).bind fun b =>
                      if b = true then outL false base (AOut.ret (AV.bool false)) st else aw 63 base p63_0 { env := [(0, a0), (1, b1), (5, AV.int IntKind.i64 (IntKind.i64.wrap (i5 + 1)))], defers := [] } st
    else outL false base (AOut.ret (AV.bool true)) st) = some r) :
    aw 63 base p63_0 { env := [(0, a0), (1, b1), (5, AV.int IntKind.i64 i5)], defers := [] } st = some r := atW_of (Eq.trans (by kernel_rfl) h)
/-! stencil/stencillaw0.KeptAttrs -/
theorem F64 (lent0 : AV) (a1 : AV) (st : St) {r : AOut × St} (h : ((lenSl lent0).bind fun v =>
  (intV IntKind.i64 v).bind fun n =>
    (sliceSl st 2 lent0 none (some (AV.int IntKind.i64 (IntKind.i64.wrap (n + 2)))) none).bind fun v =>
      callB (cw 63 [lent0, a1] st)
        (fun v_1 st_1 =>
          (boolV v_1).bind fun b =>
            if b = true then
              (lenSl a1).bind fun v_2 =>
                (intV IntKind.i64 v_2).bind fun n =>
                  (natA (AV.int IntKind.i64 n)).bind fun j =>
                    (idxSl st_1 2 v j).bind fun v_3 =>
                      (readA st_1 v_3 2 true).bind fun v_4 =>
                        (binA Try.prog BinOp.eql 98 false v_4 (AV.agg [AV.str [UInt8.ofNat 126, UInt8.ofNat 114, UInt8.ofNat 111, UInt8.ofNat 111, UInt8.ofNat 109], AV.str []])).bind fun v_5 =>
                          (boolV v_5).bind fun b =>
                            if b = true then
                              (lenSl a1).bind fun v_6 =>
                                (intV IntKind.i64 v_6).bind fun n =>
                                  (natA (AV.int IntKind.i64 (IntKind.i64.wrap (n + 1)))).bind fun j =>
                                    (idxSl st_1 2 v j).bind fun v =>
                                      (readA st_1 v 2 true).bind fun v =>
                                        (binA Try.prog BinOp.eql 98 false v (AV.agg [AV.str [UInt8.ofNat 126, UInt8.ofNat 114, UInt8.ofNat 111, UInt8.ofNat 111, UInt8.ofNat 109], AV.str []])).bind fun v =>
                                          (boolV v).bind fun b => outL false (st.length) (AOut.ret (AV.bool b)) st_1
                            else outL false (st.length) (AOut.ret (AV.bool false)) st_1
            else outL false (st.length) (AOut.ret (AV.bool false)) st_1)
        fun v st_1 => outL false (st.length) (AOut.pan v) st_1) = some r) :
    cw 64 [lent0, a1] st = some r := callW_of (Eq.trans (by kernel_rfl) h)
/-! stencil/stencillaw0.CopyAttrs -/
theorem F65 (a0 : AV) (st : St) {r : AOut × St} (h : (bind2 (appendL (AObj.free 0 :: st) (some (st.length + 0, false)) 32 2 (AV.sl 2 [] 0 0 Tok.exact) a0) fun v st_1 => bind2 (freezeA st_1 v) fun v st_2 => outL true (st.length) (AOut.ret v) st_2) = some r) :
    cw 65 [a0] st = some r := callW_of (Eq.trans (by kernel_rfl) h)
/-! stencil/patch.formed -/
abbrev p66_0 : List Dir := [.sr, .sr, .sl, .sr, .bk]
theorem F66 (o0 : AV) (st : St) {r : AOut × St} (h : ((nilCheckA o0).bind fun v =>
  (ptrAdd 0 v).bind fun v =>
    (readA st v 1 false).bind fun v =>
      (intV IntKind.i64 v).bind fun n =>
        if decide (n < 0) = true then outL false (st.length) (AOut.ret (AV.bool false)) st
        else
          (nilCheckA o0).bind fun v =>
            (ptrAdd 1 v).bind fun v =>
              (readA st v 1 false).bind fun v =>
                (intV IntKind.i64 v).bind fun n =>
                  if decide (n < 0) = true then outL false (st.length) (AOut.ret (AV.bool false)) st
                  else
                    (nilCheckA o0).bind fun v =>
                      (ptrAdd 1 v).bind fun v =>
                        (readA st v 1 false).bind fun v =>
                          (intV IntKind.i64 v).bind fun n =>
                            if decide (n > 8) = true then outL false (st.length) (AOut.ret (AV.bool false)) st
                            else
                              (nilCheckA o0).bind fun v =>
                                (ptrAdd 1 v).bind fun v =>
                                  (readA st v 1 false).bind fun v => (intV IntKind.i64 v).bind fun n => aw 66 (st.length) p66_0 { env := [(0, o0), (3, AV.int IntKind.i64 n)], defers := [] } st) = some r) :
    cw 66 [o0] st = some r := callW_of (Eq.trans (by kernel_rfl) h)
theorem F66_0 (o0 : AV) (i3 : Int) (base : Nat) (st : St) {r : AOut × St} (h : (if decide (i3 < 8) = true then
  (nilCheckA o0).bind fun v =>
    (ptrAdd 2 v).bind fun v =>
      (natA (AV.int IntKind.i64 i3)).bind fun j =>
        if j < 8 then
          (ptrAdd (j * 3) v).bind fun v =>
            (readA st v 3 true).bind fun v =>
              (binA Try.prog BinOp.neq 57 false v (AV.agg [AV.int IntKind.i64 0, AV.int IntKind.i64 0, AV.str []])).bind fun v =>
                (boolV v).bind fun b => if b = true then outL false base (AOut.ret (AV.bool false)) st else aw 66 base p66_0 { env := [(0, o0), (3, AV.int IntKind.i64 (IntKind.i64.wrap (i3 + 1)))], defers := [] } st
        else none
else outL false base (AOut.ret (AV.bool true)) st) = some r) :
    aw 66 base p66_0 { env := [(0, o0), (3, AV.int IntKind.i64 i3)], defers := [] } st = some r := atW_of (Eq.trans (by kernel_rfl) h)
end Go.Abs
