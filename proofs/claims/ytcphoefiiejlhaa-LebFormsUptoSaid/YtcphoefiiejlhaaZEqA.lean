/- What each function comes to, by value. Printed by a tool of this claim's author; each equation is checked by the kernel. -/
import Derived.Test.YtcphoefiiejlhaaZHints
import Derived.Test.YtcphoefiiejlhaaZC
import Derived.KernelRfl
namespace Go.Abs
open Go Go.Proofs
set_option linter.unusedVariables false
noncomputable abbrev cw := callW Try.prog tryhints
noncomputable abbrev aw := atW Try.prog tryhints
/-! stencil/stencillaw2.LebPuts -/
theorem F4 (x0 : Int) (y1 : Int) (st : St) {r : AOut × St} (h : (callB (cw 27 [AV.int IntKind.u64 x0] st)
  (fun v st_1 =>
    callB (cw 27 [AV.int IntKind.u64 x0] st_1)
      (fun v_1 st_2 =>
        callB (cw 28 [AV.int IntKind.i64 y1] st_2)
          (fun v_2 st_3 =>
            callB (cw 28 [AV.int IntKind.i64 y1] st_3)
              (fun v_3 st_4 =>
                callB (cw 30 [AV.int IntKind.u64 x0] st_4)
                  (fun v_4 st_5 =>
                    callB (cw 29 [v, v_4] st_5)
                      (fun v_5 st_6 =>
                        (boolV v_5).bind fun b =>
                          if (!b) = true then outL false (st.length) (AOut.ret (AV.bool false)) st_6
                          else
                            callB (cw 31 [AV.int IntKind.i64 y1] st_6)
                              (fun v_6 st_7 =>
                                callB (cw 29 [v_2, v_6] st_7)
                                  (fun v_7 st_8 =>
                                    (boolV v_7).bind fun b =>
                                      if (!b) = true then outL false (st.length) (AOut.ret (AV.bool false)) st_8
                                      else
                                        callB (cw 32 [v] st_8)
                                          (fun v st_9 =>
                                            callB (cw 32 [v_2] st_9)
                                              (fun v st_10 =>
                                                callB (cw 30 [AV.int IntKind.u64 x0] st_10)
                                                  (fun v st_11 =>
                                                    callB (cw 29 [v_1, v] st_11)
                                                      (fun v st_12 =>
                                                        (boolV v).bind fun b =>
                                                          if (!b) = true then outL false (st.length) (AOut.ret (AV.bool false)) st_12
                                                          else
                                                            callB (cw 31 [AV.int IntKind.i64 y1] st_12)
                                                              (fun v st_13 =>
                                                                callB (cw 29 [v_3, v] st_13)
                                                                  (fun v st_14 =>
                                                                    (boolV v).bind fun b =>
                                                                      if (!b) = true then outL false (st.length) (AOut.ret (AV.bool false)) st_14
                                                                      else
                                                                        callB (cw 33 [v_1, AV.int IntKind.i64 0] st_14)
                                                                          (fun v st_15 =>
                                                                            (extractA 0 v).bind fun v_8 =>
                                                                              (intV IntKind.u64 v_8).bind fun n =>
                                                                                (extractA 1 v).bind fun v_9 =>
                                                                                  (intV IntKind.i64 v_9).bind fun n_1 =>
                                                                                    (extractA 2 v).bind fun v =>
                                                                                      (intV IntKind.i64 v).bind fun n_2 =>
                                                                                        callB (cw 34 [v_3, AV.int IntKind.i64 0] st_15)
                                                                                          (fun v st_16 =>
                                                                                            (extractA 0 v).bind fun v_10 =>
                                                                                              (intV IntKind.i64 v_10).bind fun n_3 =>
                                                                                                (extractA 1 v).bind fun v_11 =>
                                                                                                  (intV IntKind.i64 v_11).bind fun n_4 =>
                                                                                                    (extractA 2 v).bind fun v =>
                                                                                                      (intV IntKind.i64 v).bind fun n_5 =>
                                                                                                        callB (cw 35 [AV.int IntKind.i64 n_2] st_16)
                                                                                                          (fun v st_17 =>
                                                                                                            (intV IntKind.i64 v).bind fun n_6 =>
                                                                                                              if (n_6 == 0) = true then
                                                                                                                if (n == x0) = true then
                                                                                                                  (lenSl v_1).bind fun v =>
                                                                                                                    (intV IntKind.i64 v).bind fun n =>
                                                                                                                      if (n_1 == n) = true then
                                                                                                                        callB (cw 35 [AV.int IntKind.i64 n_5] st_17)
                                                                                                                          (fun v st_18 =>
                                                                                                                            (intV IntKind.i64 v).bind fun n =>
                                                                                                                              if (n == 0) = true then
                                                                                                                                if (n_3 == y1) = true then
                                                                                                                                  (lenSl v_3).bind fun v =>
                                                                                                                                    (intV IntKind.i64 v).bind fun n =>
                                                                                                                                      if (n_4 == n) = true then
                                                                                                                                        callB (cw 36 [] st_18)
                                                                                                                                          (fun v st_19 => (boolV v).bind fun b => outL false (st.length) (AOut.ret (AV.bool b)) st_19)
                                                                                                                                          fun v st_19 => outL false (st.length) (AOut.pan v) st_19
                                                                                                                                      else outL false (st.length) (AOut.ret (AV.bool false)) st_18
                                                                                                                                else outL false (st.length) (AOut.ret (AV.bool false)) st_18
                                                                                                                              else outL false (st.length) (AOut.ret (AV.bool false)) st_18)
                                                                                                                          fun v st_18 => outL false (st.length) (AOut.pan v) st_18
                                                                                                                      else outL false (st.length) (AOut.ret (AV.bool false)) st_17
                                                                                                                else outL false (st.length) (AOut.ret (AV.bool false)) st_17
                                                                                                              else outL false (st.length) (AOut.ret (AV.bool false)) st_17)
                                                                                                          fun v st_17 => outL false (st.length) (AOut.pan v) st_17)
                                                                                          fun v st_16 => outL false (st.length) (AOut.pan v) st_16)
                                                                          fun v st_15 => outL false (st.length) (AOut.pan v) st_15)
                                                                  fun v st_14 => outL false (st.length) (AOut.pan v) st_14)
                                                              fun v st_13 => outL false (st.length) (AOut.pan v) st_13)
                                                      fun v st_12 => outL false (st.length) (AOut.pan v) st_12)
                                                  fun v st_11 => outL false (st.length) (AOut.pan v) st_11)
                                              fun v st_10 => outL false (st.length) (AOut.pan v) st_10)
                                          fun v st_9 => outL false (st.length) (AOut.pan v) st_9)
                                  fun v st_8 => outL false (st.length) (AOut.pan v) st_8)
                              fun v st_7 => outL false (st.length) (AOut.pan v) st_7)
                      fun v st_6 => outL false (st.length) (AOut.pan v) st_6)
                  fun v st_5 => outL false (st.length) (AOut.pan v) st_5)
              fun v st_4 => outL false (st.length) (AOut.pan v) st_4)
          fun v st_3 => outL false (st.length) (AOut.pan v) st_3)
      fun v st_2 => outL false (st.length) (AOut.pan v) st_2)
  fun v st_1 => outL false (st.length) (AOut.pan v) st_1) = some r) :
    cw 4 [AV.int IntKind.u64 x0, AV.int IntKind.i64 y1] st = some r := callW_of (Eq.trans (by kernel_rfl) h)
/-! stencil/stencillaw2.LebTakes -/
theorem F5 (b0 : AV) (at1 : Int) (st : St) {r : AOut × St} (h : (callB (cw 37 [b0] st)
  (fun v st_1 =>
    callB (cw 33 [v, AV.int IntKind.i64 at1] st_1)
      (fun v_1 st_2 =>
        (extractA 0 v_1).bind fun v_2 =>
          (intV IntKind.u64 v_2).bind fun n =>
            (extractA 1 v_1).bind fun v_3 =>
              (intV IntKind.i64 v_3).bind fun n_1 =>
                (extractA 2 v_1).bind fun v_4 =>
                  (intV IntKind.i64 v_4).bind fun n_2 =>
                    callB (cw 34 [v, AV.int IntKind.i64 at1] st_2)
                      (fun v_5 st_3 =>
                        (extractA 0 v_5).bind fun v_6 =>
                          (intV IntKind.i64 v_6).bind fun n_3 =>
                            (extractA 1 v_5).bind fun v_7 =>
                              (intV IntKind.i64 v_7).bind fun n_4 =>
                                (extractA 2 v_5).bind fun v_8 =>
                                  (intV IntKind.i64 v_8).bind fun n_5 =>
                                    callB (cw 38 [b0, AV.int IntKind.i64 at1] st_3)
                                      (fun v_9 st_4 =>
                                        (extractA 0 v_9).bind fun v_10 =>
                                          (intV IntKind.u64 v_10).bind fun n_6 =>
                                            (extractA 1 v_9).bind fun v_11 =>
                                              (intV IntKind.i64 v_11).bind fun n_7 =>
                                                (extractA 2 v_9).bind fun v_12 =>
                                                  (intV IntKind.i64 v_12).bind fun n_8 =>
                                                    callB (cw 39 [b0, AV.int IntKind.i64 at1] st_4)
                                                      (fun v_13 st_5 =>
                                                        (extractA 0 v_13).bind fun v_14 =>
                                                          (intV IntKind.i64 v_14).bind fun n_9 =>
                                                            (extractA 1 v_13).bind fun v_15 =>
                                                              (intV IntKind.i64 v_15).bind fun n_10 =>
                                                                (extractA 2 v_13).bind fun v_16 =>
                                                                  (intV IntKind.i64 v_16).bind fun n_11 =>
                                                                    callB (cw 40 [v, b0] st_5)
                                                                      (fun v st_6 =>
                                                                        (boolV v).bind fun b =>
                                                                          if b = true then
                                                                            if (n == n_6) = true then
                                                                              if (n_1 == n_7) = true then
                                                                                callB (cw 35 [AV.int IntKind.i64 n_2] st_6)
                                                                                  (fun v st_7 =>
                                                                                    (intV IntKind.i64 v).bind fun n =>
                                                                                      if (n == n_8) = true then
                                                                                        if (n_3 == n_9) = true then
                                                                                          if (n_4 == n_10) = true then
                                                                                            callB (cw 35 [AV.int IntKind.i64 n_5] st_7)
                                                                                              (fun v st_8 =>
                                                                                                (intV IntKind.i64 v).bind fun n =>
                                                                                                  if (n == n_11) = true then
                                                                                                    callB (cw 36 [] st_8) (fun v st_9 => (boolV v).bind fun b => outL false (st.length) (AOut.ret (AV.bool b)) st_9)
                                                                                                      fun v st_9 => outL false (st.length) (AOut.pan v) st_9
                                                                                                  else outL false (st.length) (AOut.ret (AV.bool false)) st_8)
                                                                                              fun v st_8 => outL false (st.length) (AOut.pan v) st_8
                                                                                          else outL false (st.length) (AOut.ret (AV.bool false)) st_7
                                                                                        else outL false (st.length) (AOut.ret (AV.bool false)) st_7
                                                                                      else outL false (st.length) (AOut.ret (AV.bool false)) st_7)
                                                                                  fun v st_7 => outL false (st.length) (AOut.pan v) st_7
                                                                              else outL false (st.length) (AOut.ret (AV.bool false)) st_6
                                                                            else outL false (st.length) (AOut.ret (AV.bool false)) st_6
                                                                          else outL false (st.length) (AOut.ret (AV.bool false)) st_6)
                                                                      fun v st_6 => outL false (st.length) (AOut.pan v) st_6)
                                                      fun v st_5 => outL false (st.length) (AOut.pan v) st_5)
                                      fun v st_4 => outL false (st.length) (AOut.pan v) st_4)
                      fun v st_3 => outL false (st.length) (AOut.pan v) st_3)
      fun v st_2 => outL false (st.length) (AOut.pan v) st_2)
  fun v st_1 => outL false (st.length) (AOut.pan v) st_1) = some r) :
    cw 5 [b0, AV.int IntKind.i64 at1] st = some r := callW_of (Eq.trans (by kernel_rfl) h)
/-! stencil/stencillaw2.LebForms -/
theorem F6 (b0 : AV) (at1 : Int) (st : St) {r : AOut × St} (h : (callB (cw 36 [] st)
  (fun v st_1 =>
    (boolV v).bind fun b =>
      if (!b) = true then outL false (st.length) (AOut.ret (AV.bool false)) st_1
      else
        callB (cw 41 [b0] st_1)
          (fun v st_2 =>
            callB (cw 33 [v, AV.int IntKind.i64 at1] st_2)
              (fun v st_3 =>
                (extractA 0 v).bind fun v_1 =>
                  (intV IntKind.u64 v_1).bind fun n =>
                    (extractA 1 v).bind fun v_2 =>
                      (intV IntKind.i64 v_2).bind fun n_1 =>
                        (extractA 2 v).bind fun v =>
                          (intV IntKind.i64 v).bind fun n_2 =>
                            callB (cw 35 [AV.int IntKind.i64 n_2] st_3)
                              (fun v st_4 =>
                                (intV IntKind.i64 v).bind fun n_3 =>
                                  if (n_3 != 0) = true then
                                    if (n == 0) = true then
                                      if (n_1 == 0) = true then
                                        callB (cw 35 [AV.int IntKind.i64 n_2] st_4)
                                          (fun v st_5 =>
                                            (intV IntKind.i64 v).bind fun n =>
                                              if (n == 200) = true then outL false (st.length) (AOut.ret (AV.bool true)) st_5
                                              else
                                                callB (cw 35 [AV.int IntKind.i64 n_2] st_5) (fun v st_6 => (intV IntKind.i64 v).bind fun n => outL false (st.length) (AOut.ret (AV.bool (n == 201))) st_6)
                                                  fun v st_6 => outL false (st.length) (AOut.pan v) st_6)
                                          fun v st_5 => outL false (st.length) (AOut.pan v) st_5
                                      else outL false (st.length) (AOut.ret (AV.bool false)) st_4
                                    else outL false (st.length) (AOut.ret (AV.bool false)) st_4
                                  else
                                    if decide (at1 < 0) = true then outL false (st.length) (AOut.ret (AV.bool false)) st_4
                                    else
                                      if decide (n_1 ≤ at1) = true then outL false (st.length) (AOut.ret (AV.bool false)) st_4
                                      else
                                        (lenSl b0).bind fun v =>
                                          (intV IntKind.i64 v).bind fun n_4 =>
                                            if decide (n_1 > n_4) = true then outL false (st.length) (AOut.ret (AV.bool false)) st_4
                                            else
                                              callB (cw 27 [AV.int IntKind.u64 n] st_4)
                                                (fun v st_5 =>
                                                  (sliceSl st_5 0 b0 (some (AV.int IntKind.i64 at1)) (some (AV.int IntKind.i64 n_1)) none).bind fun v_3 =>
                                                    callB (cw 29 [v, v_3] st_5)
                                                      (fun v_4 st_6 =>
                                                        (boolV v_4).bind fun b =>
                                                          if (notMs b0 && true && true) = true then
                                                            if (!b) = true then outL false (st.length) (AOut.ret (AV.bool false)) st_6
                                                            else
                                                              (sliceSl st_6 0 b0 none (some (AV.int IntKind.i64 (IntKind.i64.wrap (n_1 - 1)))) none).bind fun v =>
                                                                callB (cw 41 [v] st_6)
                                                                  (fun v st_7 =>
                                                                    callB (cw 33 [v, AV.int IntKind.i64 at1] st_7)
                                                                      (fun v st_8 =>
                                                                        (extractA 0 v).bind fun v_5 =>
                                                                          (intV IntKind.u64 v_5).bind fun n =>
                                                                            (extractA 1 v).bind fun v_6 =>
                                                                              (intV IntKind.i64 v_6).bind fun n =>
                                                                                (extractA 2 v).bind fun v =>
                                                                                  (intV IntKind.i64 v).bind fun n =>
                                                                                    callB (cw 35 [AV.int IntKind.i64 n] st_8)
                                                                                      (fun v st_9 => (intV IntKind.i64 v).bind fun n => outL false (st.length) (AOut.ret (AV.bool (n == 200))) st_9) fun v st_9 =>
                                                                                      outL false (st.length) (AOut.pan v) st_9)
                                                                      fun v st_8 => outL false (st.length) (AOut.pan v) st_8)
                                                                  fun v st_7 => outL false (st.length) (AOut.pan v) st_7
                                                          else none)
                                                      fun v_4 st_6 => if (notMs b0 && true && true) = true then none else none)
                                                fun v st => none)
                              fun v st_4 => outL false (st.length) (AOut.pan v) st_4)
              fun v st_3 => outL false (st.length) (AOut.pan v) st_3)
          fun v st_2 => outL false (st.length) (AOut.pan v) st_2)
  fun v st_1 => outL false (st.length) (AOut.pan v) st_1) = some r) :
    cw 6 [b0, AV.int IntKind.i64 at1] st = some r := callW_of (Eq.trans (by kernel_rfl) h)
/-! stencil/stencillaw2.LebOrders -/
abbrev p7_0 : List Dir := [.sr, .sr, .sr, .sr, .sr]
theorem F7 (x0 : Int) (y1 : Int) (z2 : Int) (st : St) {r : AOut × St} (h : (callB (cw 36 [] st)
  (fun v st_1 =>
    (boolV v).bind fun b =>
      if (!b) = true then outL false (st.length) (AOut.ret (AV.bool false)) st_1
      else
        callB (cw 27 [AV.int IntKind.u64 x0] st_1)
          (fun v st_2 =>
            callB (cw 27 [AV.int IntKind.u64 y1] st_2)
              (fun v_1 st_3 =>
                if decide (x0 > y1) = true then
                  callB (cw 27 [AV.int IntKind.u64 y1] st_3)
                    (fun v st_4 =>
                      callB (cw 27 [AV.int IntKind.u64 x0] st_4)
                        (fun v_2 st_5 =>
                          (lenSl v).bind fun v_3 =>
                            (intV IntKind.i64 v_3).bind fun n =>
                              if decide (n < 1) = true then outL false (st.length) (AOut.ret (AV.bool false)) st_5
                              else
                                (lenSl v).bind fun v =>
                                  (intV IntKind.i64 v).bind fun n =>
                                    (lenSl v_2).bind fun v =>
                                      (intV IntKind.i64 v).bind fun n_1 =>
                                        if decide (n > n_1) = true then outL false (st.length) (AOut.ret (AV.bool false)) st_5
                                        else
                                          (lenSl v_2).bind fun v =>
                                            (intV IntKind.i64 v).bind fun n =>
                                              if decide (n > 10) = true then outL false (st.length) (AOut.ret (AV.bool false)) st_5
                                              else
                                                if decide (z2 ≥ 0) = true then
                                                  callB (cw 28 [AV.int IntKind.i64 z2] st_5)
                                                    (fun v st_6 =>
                                                      callB (cw 27 [AV.int IntKind.u64 (IntKind.u64.wrap (2 * IntKind.u64.wrap z2))] st_6)
                                                        (fun v_4 st_7 =>
                                                          callB (cw 29 [v, v_4] st_7) (fun v st_8 => (boolV v).bind fun b => outL false (st.length) (AOut.ret (AV.bool b)) st_8) fun v st_8 =>
                                                            outL false (st.length) (AOut.pan v) st_8)
                                                        fun v st_7 => outL false (st.length) (AOut.pan v) st_7)
                                                    fun v st_6 => outL false (st.length) (AOut.pan v) st_6
                                                else
                                                  callB (cw 28 [AV.int IntKind.i64 z2] st_5)
                                                    (fun v st_6 =>
                                                      callB (cw 27 [AV.int IntKind.u64 (IntKind.u64.wrap (IntKind.u64.wrap (2 * IntKind.u64.wrap (IntKind.i64.wrap (0 - IntKind.i64.wrap (z2 + 1)))) + 1))] st_6)
                                                        (fun v_4 st_7 =>
                                                          callB (cw 29 [v, v_4] st_7) (fun v st_8 => (boolV v).bind fun b => outL false (st.length) (AOut.ret (AV.bool b)) st_8) fun v st_8 =>
                                                            outL false (st.length) (AOut.pan v) st_8)
                                                        fun v st_7 => outL false (st.length) (AOut.pan v) st_7)
                                                    fun v st_6 => outL false (st.length) (AOut.pan v) st_6)
                        fun v st_5 => outL false (st.length) (AOut.pan v) st_5)
                    fun v st_4 => outL false (st.length) (AOut.pan v) st_4
                else
                  (lenSl v).bind fun v_2 =>
                    (intV IntKind.i64 v_2).bind fun n =>
                      if decide (n < 1) = true then outL false (st.length) (AOut.ret (AV.bool false)) st_3
                      else
                        (lenSl v).bind fun v =>
                          (intV IntKind.i64 v).bind fun n =>
                            (lenSl v_1).bind fun v =>
                              (intV IntKind.i64 v).bind fun n_1 =>
                                if decide (n > n_1) = true then outL false (st.length) (AOut.ret (AV.bool false)) st_3
                                else
                                  (lenSl v_1).bind fun v =>
                                    (intV IntKind.i64 v).bind fun n =>
                                      if decide (n > 10) = true then outL false (st.length) (AOut.ret (AV.bool false)) st_3
                                      else
                                        if decide (z2 ≥ 0) = true then
                                          callB (cw 28 [AV.int IntKind.i64 z2] st_3)
                                            (fun v st_4 =>
                                              callB (cw 27 [AV.int IntKind.u64 (IntKind.u64.wrap (2 * IntKind.u64.wrap z2))] st_4)
                                                (fun v_3 st_5 =>
                                                  callB (cw 29 [v, v_3] st_5) (fun v st_6 => (boolV v).bind fun b => outL false (st.length) (AOut.ret (AV.bool b)) st_6) fun v st_6 =>
                                                    outL false (st.length) (AOut.pan v) st_6)
                                                fun v st_5 => outL false (st.length) (AOut.pan v) st_5)
                                            fun v st_4 => outL false (st.length) (AOut.pan v) st_4
                                        else
                                          callB (cw 28 [AV.int IntKind.i64 z2] st_3)
                                            (fun v st_4 =>
                                              callB (cw 27 [AV.int IntKind.u64 (IntKind.u64.wrap (IntKind.u64.wrap (2 * IntKind.u64.wrap (IntKind.i64.wrap (0 - IntKind.i64.wrap (z2 + 1)))) + 1))] st_4)
                                                (fun v_3 st_5 =>
                                                  callB (cw 29 [v, v_3] st_5) (fun v st_6 => (boolV v).bind fun b => outL false (st.length) (AOut.ret (AV.bool b)) st_6) fun v st_6 =>
                                                    outL false (st.length) (AOut.pan v) st_6)
                                                fun v st_5 => outL false (st.length) (AOut.pan v) st_5)
                                            fun v st_4 => outL false (st.length) (AOut.pan v) st_4)
              fun v st_3 => outL false (st.length) (AOut.pan v) st_3)
          fun v st_2 => outL false (st.length) (AOut.pan v) st_2)
  fun v st_1 => outL false (st.length) (AOut.pan v) st_1) = some r) :
    cw 7 [AV.int IntKind.u64 x0, AV.int IntKind.u64 y1, AV.int IntKind.i64 z2] st = some r := callW_of (Eq.trans (by kernel_rfl) h)
theorem F7_0 (z2 : Int) (a7 : AV) (b8 : AV) (base : Nat) (st : St) {r : AOut × St} (h : ((lenSl a7).bind fun v =>
  (intV IntKind.i64 v).bind fun n =>
    if decide (n < 1) = true then outL false base (AOut.ret (AV.bool false)) st
    else
      (lenSl a7).bind fun v =>
        (intV IntKind.i64 v).bind fun n =>
          (lenSl b8).bind fun v =>
            (intV IntKind.i64 v).bind fun n_1 =>
              if decide (n > n_1) = true then outL false base (AOut.ret (AV.bool false)) st
              else
                (lenSl b8).bind fun v =>
                  (intV IntKind.i64 v).bind fun n =>
                    if decide (n > 10) = true then outL false base (AOut.ret (AV.bool false)) st
                    else
                      if decide (z2 ≥ 0) = true then
                        callB (cw 28 [AV.int IntKind.i64 z2] st)
                          (fun v st =>
                            callB (cw 27 [AV.int IntKind.u64 (IntKind.u64.wrap (2 * IntKind.u64.wrap z2))] st)
                              (fun v_1 st => callB (cw 29 [v, v_1] st) (fun v st => (boolV v).bind fun b => outL false base (AOut.ret (AV.bool b)) st) fun v st => outL false base (AOut.pan v) st) fun v st =>
                              outL false base (AOut.pan v) st)
                          fun v st => outL false base (AOut.pan v) st
                      else
                        callB (cw 28 [AV.int IntKind.i64 z2] st)
                          (fun v st =>
                            callB (cw 27 [AV.int IntKind.u64 (IntKind.u64.wrap (IntKind.u64.wrap (2 * IntKind.u64.wrap (IntKind.i64.wrap (0 - IntKind.i64.wrap (z2 + 1)))) + 1))] st)
                              (fun v_1 st => callB (cw 29 [v, v_1] st) (fun v st => (boolV v).bind fun b => outL false base (AOut.ret (AV.bool b)) st) fun v st => outL false base (AOut.pan v) st) fun v st =>
                              outL false base (AOut.pan v) st)
                          fun v st => outL false base (AOut.pan v) st) = some r) :
    aw 7 base p7_0 ⟨[(2, AV.int IntKind.i64 z2), (7, a7), (8, b8)], []⟩ st = some r := Eq.trans (by kernel_rfl) h
/-! stencil/stencillaw0.errors1 -/
theorem F8 (st : St) {r : AOut × St} (h : (callB (cw 35 [AV.int IntKind.i64 0] st)
  (fun v st_1 =>
    (intV IntKind.i64 v).bind fun n =>
      if (n == 0) = true then
        callB (cw 35 [AV.int IntKind.i64 1] st_1)
          (fun v st_2 =>
            (intV IntKind.i64 v).bind fun n =>
              if (n == 1) = true then
                callB (cw 35 [AV.int IntKind.i64 100] st_2)
                  (fun v st_3 =>
                    (intV IntKind.i64 v).bind fun n =>
                      if (n == 100) = true then
                        callB (cw 35 [AV.int IntKind.i64 101] st_3)
                          (fun v st_4 =>
                            (intV IntKind.i64 v).bind fun n =>
                              if (n == 101) = true then
                                callB (cw 35 [AV.int IntKind.i64 102] st_4)
                                  (fun v st_5 =>
                                    (intV IntKind.i64 v).bind fun n =>
                                      if (n == 102) = true then
                                        callB (cw 35 [AV.int IntKind.i64 103] st_5)
                                          (fun v st_6 =>
                                            (intV IntKind.i64 v).bind fun n =>
                                              if (n == 103) = true then
                                                callB (cw 35 [AV.int IntKind.i64 104] st_6)
                                                  (fun v st_7 =>
                                                    (intV IntKind.i64 v).bind fun n =>
                                                      if (n == 104) = true then
                                                        callB (cw 35 [AV.int IntKind.i64 200] st_7)
                                                          (fun v st_8 =>
                                                            (intV IntKind.i64 v).bind fun n =>
                                                              if (n == 200) = true then
                                                                callB (cw 35 [AV.int IntKind.i64 201] st_8)
                                                                  (fun v st_9 =>
                                                                    (intV IntKind.i64 v).bind fun n =>
                                                                      if (n == 201) = true then
                                                                        callB (cw 35 [AV.int IntKind.i64 300] st_9)
                                                                          (fun v st_10 =>
                                                                            (intV IntKind.i64 v).bind fun n =>
                                                                              if (n == 300) = true then
                                                                                callB (cw 35 [AV.int IntKind.i64 301] st_10)
                                                                                  (fun v st_11 =>
                                                                                    (intV IntKind.i64 v).bind fun n =>
                                                                                      if (n == 301) = true then
                                                                                        callB (cw 35 [AV.int IntKind.i64 400] st_11)
                                                                                          (fun v st_12 =>
                                                                                            (intV IntKind.i64 v).bind fun n =>
                                                                                              if (n == 400) = true then
                                                                                                callB (cw 35 [AV.int IntKind.i64 500] st_12)
                                                                                                  (fun v st_13 =>
                                                                                                    (intV IntKind.i64 v).bind fun n =>
                                                                                                      if (n == 500) = true then
                                                                                                        callB (cw 35 [AV.int IntKind.i64 501] st_13)
                                                                                                          (fun v st_14 => (intV IntKind.i64 v).bind fun n => outL false (st.length) (AOut.ret (AV.bool (n == 501))) st_14) fun v st_14 =>
                                                                                                          outL false (st.length) (AOut.pan v) st_14
                                                                                                      else outL false (st.length) (AOut.ret (AV.bool false)) st_13)
                                                                                                  fun v st_13 => outL false (st.length) (AOut.pan v) st_13
                                                                                              else outL false (st.length) (AOut.ret (AV.bool false)) st_12)
                                                                                          fun v st_12 => outL false (st.length) (AOut.pan v) st_12
                                                                                      else outL false (st.length) (AOut.ret (AV.bool false)) st_11)
                                                                                  fun v st_11 => outL false (st.length) (AOut.pan v) st_11
                                                                              else outL false (st.length) (AOut.ret (AV.bool false)) st_10)
                                                                          fun v st_10 => outL false (st.length) (AOut.pan v) st_10
                                                                      else outL false (st.length) (AOut.ret (AV.bool false)) st_9)
                                                                  fun v st_9 => outL false (st.length) (AOut.pan v) st_9
                                                              else outL false (st.length) (AOut.ret (AV.bool false)) st_8)
                                                          fun v st_8 => outL false (st.length) (AOut.pan v) st_8
                                                      else outL false (st.length) (AOut.ret (AV.bool false)) st_7)
                                                  fun v st_7 => outL false (st.length) (AOut.pan v) st_7
                                              else outL false (st.length) (AOut.ret (AV.bool false)) st_6)
                                          fun v st_6 => outL false (st.length) (AOut.pan v) st_6
                                      else outL false (st.length) (AOut.ret (AV.bool false)) st_5)
                                  fun v st_5 => outL false (st.length) (AOut.pan v) st_5
                              else outL false (st.length) (AOut.ret (AV.bool false)) st_4)
                          fun v st_4 => outL false (st.length) (AOut.pan v) st_4
                      else outL false (st.length) (AOut.ret (AV.bool false)) st_3)
                  fun v st_3 => outL false (st.length) (AOut.pan v) st_3
              else outL false (st.length) (AOut.ret (AV.bool false)) st_2)
          fun v st_2 => outL false (st.length) (AOut.pan v) st_2
      else outL false (st.length) (AOut.ret (AV.bool false)) st_1)
  fun v st_1 => outL false (st.length) (AOut.pan v) st_1) = some r) :
    cw 8 [] st = some r := callW_of (Eq.trans (by kernel_rfl) h)
/-! stencil/stencillaw0.errors2 -/
theorem F9 (st : St) {r : AOut × St} (h : (callB (cw 35 [AV.int IntKind.i64 502] st)
  (fun v st_1 =>
    (intV IntKind.i64 v).bind fun n =>
      if (n == 502) = true then
        callB (cw 35 [AV.int IntKind.i64 503] st_1)
          (fun v st_2 =>
            (intV IntKind.i64 v).bind fun n =>
              if (n == 503) = true then
                callB (cw 35 [AV.int IntKind.i64 504] st_2)
                  (fun v st_3 =>
                    (intV IntKind.i64 v).bind fun n =>
                      if (n == 504) = true then
                        callB (cw 35 [AV.int IntKind.i64 505] st_3)
                          (fun v st_4 =>
                            (intV IntKind.i64 v).bind fun n =>
                              if (n == 505) = true then
                                callB (cw 35 [AV.int IntKind.i64 506] st_4)
                                  (fun v st_5 =>
                                    (intV IntKind.i64 v).bind fun n =>
                                      if (n == 506) = true then
                                        callB (cw 35 [AV.int IntKind.i64 600] st_5)
                                          (fun v st_6 =>
                                            (intV IntKind.i64 v).bind fun n =>
                                              if (n == 600) = true then
                                                callB (cw 35 [AV.int IntKind.i64 601] st_6)
                                                  (fun v st_7 =>
                                                    (intV IntKind.i64 v).bind fun n =>
                                                      if (n == 601) = true then
                                                        callB (cw 35 [AV.int IntKind.i64 602] st_7)
                                                          (fun v st_8 =>
                                                            (intV IntKind.i64 v).bind fun n =>
                                                              if (n == 602) = true then
                                                                callB (cw 35 [AV.int IntKind.i64 603] st_8)
                                                                  (fun v st_9 =>
                                                                    (intV IntKind.i64 v).bind fun n =>
                                                                      if (n == 603) = true then
                                                                        callB (cw 35 [AV.int IntKind.i64 604] st_9)
                                                                          (fun v st_10 =>
                                                                            (intV IntKind.i64 v).bind fun n =>
                                                                              if (n == 604) = true then
                                                                                callB (cw 35 [AV.int IntKind.i64 605] st_10)
                                                                                  (fun v st_11 =>
                                                                                    (intV IntKind.i64 v).bind fun n =>
                                                                                      if (n == 605) = true then
                                                                                        callB (cw 35 [AV.int IntKind.i64 700] st_11)
                                                                                          (fun v st_12 =>
                                                                                            (intV IntKind.i64 v).bind fun n =>
                                                                                              if (n == 700) = true then
                                                                                                callB (cw 35 [AV.int IntKind.i64 701] st_12)
                                                                                                  (fun v st_13 =>
                                                                                                    (intV IntKind.i64 v).bind fun n =>
                                                                                                      if (n == 701) = true then
                                                                                                        callB (cw 35 [AV.int IntKind.i64 702] st_13)
                                                                                                          (fun v st_14 => (intV IntKind.i64 v).bind fun n => outL false (st.length) (AOut.ret (AV.bool (n == 702))) st_14) fun v st_14 =>
                                                                                                          outL false (st.length) (AOut.pan v) st_14
                                                                                                      else outL false (st.length) (AOut.ret (AV.bool false)) st_13)
                                                                                                  fun v st_13 => outL false (st.length) (AOut.pan v) st_13
                                                                                              else outL false (st.length) (AOut.ret (AV.bool false)) st_12)
                                                                                          fun v st_12 => outL false (st.length) (AOut.pan v) st_12
                                                                                      else outL false (st.length) (AOut.ret (AV.bool false)) st_11)
                                                                                  fun v st_11 => outL false (st.length) (AOut.pan v) st_11
                                                                              else outL false (st.length) (AOut.ret (AV.bool false)) st_10)
                                                                          fun v st_10 => outL false (st.length) (AOut.pan v) st_10
                                                                      else outL false (st.length) (AOut.ret (AV.bool false)) st_9)
                                                                  fun v st_9 => outL false (st.length) (AOut.pan v) st_9
                                                              else outL false (st.length) (AOut.ret (AV.bool false)) st_8)
                                                          fun v st_8 => outL false (st.length) (AOut.pan v) st_8
                                                      else outL false (st.length) (AOut.ret (AV.bool false)) st_7)
                                                  fun v st_7 => outL false (st.length) (AOut.pan v) st_7
                                              else outL false (st.length) (AOut.ret (AV.bool false)) st_6)
                                          fun v st_6 => outL false (st.length) (AOut.pan v) st_6
                                      else outL false (st.length) (AOut.ret (AV.bool false)) st_5)
                                  fun v st_5 => outL false (st.length) (AOut.pan v) st_5
                              else outL false (st.length) (AOut.ret (AV.bool false)) st_4)
                          fun v st_4 => outL false (st.length) (AOut.pan v) st_4
                      else outL false (st.length) (AOut.ret (AV.bool false)) st_3)
                  fun v st_3 => outL false (st.length) (AOut.pan v) st_3
              else outL false (st.length) (AOut.ret (AV.bool false)) st_2)
          fun v st_2 => outL false (st.length) (AOut.pan v) st_2
      else outL false (st.length) (AOut.ret (AV.bool false)) st_1)
  fun v st_1 => outL false (st.length) (AOut.pan v) st_1) = some r) :
    cw 9 [] st = some r := callW_of (Eq.trans (by kernel_rfl) h)
/-! stencil/stencillaw0.errors3 -/
theorem F10 (st : St) {r : AOut × St} (h : (callB (cw 35 [AV.int IntKind.i64 800] st)
  (fun v st_1 =>
    (intV IntKind.i64 v).bind fun n =>
      if (n == 800) = true then
        callB (cw 35 [AV.int IntKind.i64 801] st_1)
          (fun v st_2 =>
            (intV IntKind.i64 v).bind fun n =>
              if (n == 801) = true then
                callB (cw 35 [AV.int IntKind.i64 802] st_2)
                  (fun v st_3 =>
                    (intV IntKind.i64 v).bind fun n =>
                      if (n == 802) = true then
                        callB (cw 35 [AV.int IntKind.i64 803] st_3)
                          (fun v st_4 =>
                            (intV IntKind.i64 v).bind fun n =>
                              if (n == 803) = true then
                                callB (cw 35 [AV.int IntKind.i64 804] st_4)
                                  (fun v st_5 =>
                                    (intV IntKind.i64 v).bind fun n =>
                                      if (n == 804) = true then
                                        callB (cw 35 [AV.int IntKind.i64 805] st_5)
                                          (fun v st_6 =>
                                            (intV IntKind.i64 v).bind fun n =>
                                              if (n == 805) = true then
                                                callB (cw 35 [AV.int IntKind.i64 806] st_6)
                                                  (fun v st_7 =>
                                                    (intV IntKind.i64 v).bind fun n =>
                                                      if (n == 806) = true then
                                                        callB (cw 35 [AV.int IntKind.i64 807] st_7)
                                                          (fun v st_8 =>
                                                            (intV IntKind.i64 v).bind fun n =>
                                                              if (n == 807) = true then
                                                                callB (cw 35 [AV.int IntKind.i64 808] st_8)
                                                                  (fun v st_9 =>
                                                                    (intV IntKind.i64 v).bind fun n =>
                                                                      if (n == 808) = true then
                                                                        callB (cw 35 [AV.int IntKind.i64 809] st_9)
                                                                          (fun v st_10 =>
                                                                            (intV IntKind.i64 v).bind fun n =>
                                                                              if (n == 809) = true then
                                                                                callB (cw 35 [AV.int IntKind.i64 900] st_10)
                                                                                  (fun v st_11 =>
                                                                                    (intV IntKind.i64 v).bind fun n =>
                                                                                      if (n == 900) = true then
                                                                                        callB (cw 35 [AV.int IntKind.i64 1000] st_11)
                                                                                          (fun v st_12 =>
                                                                                            (intV IntKind.i64 v).bind fun n =>
                                                                                              if (n == 1000) = true then
                                                                                                callB (cw 35 [AV.int IntKind.i64 1001] st_12)
                                                                                                  (fun v st_13 =>
                                                                                                    (intV IntKind.i64 v).bind fun n =>
                                                                                                      if (n == 1001) = true then
                                                                                                        callB (cw 35 [AV.int IntKind.i64 1002] st_13)
                                                                                                          (fun v st_14 => (intV IntKind.i64 v).bind fun n => outL false (st.length) (AOut.ret (AV.bool (n == 1002))) st_14) fun v st_14 =>
                                                                                                          outL false (st.length) (AOut.pan v) st_14
                                                                                                      else outL false (st.length) (AOut.ret (AV.bool false)) st_13)
                                                                                                  fun v st_13 => outL false (st.length) (AOut.pan v) st_13
                                                                                              else outL false (st.length) (AOut.ret (AV.bool false)) st_12)
                                                                                          fun v st_12 => outL false (st.length) (AOut.pan v) st_12
                                                                                      else outL false (st.length) (AOut.ret (AV.bool false)) st_11)
                                                                                  fun v st_11 => outL false (st.length) (AOut.pan v) st_11
                                                                              else outL false (st.length) (AOut.ret (AV.bool false)) st_10)
                                                                          fun v st_10 => outL false (st.length) (AOut.pan v) st_10
                                                                      else outL false (st.length) (AOut.ret (AV.bool false)) st_9)
                                                                  fun v st_9 => outL false (st.length) (AOut.pan v) st_9
                                                              else outL false (st.length) (AOut.ret (AV.bool false)) st_8)
                                                          fun v st_8 => outL false (st.length) (AOut.pan v) st_8
                                                      else outL false (st.length) (AOut.ret (AV.bool false)) st_7)
                                                  fun v st_7 => outL false (st.length) (AOut.pan v) st_7
                                              else outL false (st.length) (AOut.ret (AV.bool false)) st_6)
                                          fun v st_6 => outL false (st.length) (AOut.pan v) st_6
                                      else outL false (st.length) (AOut.ret (AV.bool false)) st_5)
                                  fun v st_5 => outL false (st.length) (AOut.pan v) st_5
                              else outL false (st.length) (AOut.ret (AV.bool false)) st_4)
                          fun v st_4 => outL false (st.length) (AOut.pan v) st_4
                      else outL false (st.length) (AOut.ret (AV.bool false)) st_3)
                  fun v st_3 => outL false (st.length) (AOut.pan v) st_3
              else outL false (st.length) (AOut.ret (AV.bool false)) st_2)
          fun v st_2 => outL false (st.length) (AOut.pan v) st_2
      else outL false (st.length) (AOut.ret (AV.bool false)) st_1)
  fun v st_1 => outL false (st.length) (AOut.pan v) st_1) = some r) :
    cw 10 [] st = some r := callW_of (Eq.trans (by kernel_rfl) h)
/-! stencil/stencillaw0.errors4 -/
theorem F11 (st : St) {r : AOut × St} (h : (callB (cw 35 [AV.int IntKind.i64 1003] st)
  (fun v st_1 =>
    (intV IntKind.i64 v).bind fun n =>
      if (n == 1003) = true then
        callB (cw 35 [AV.int IntKind.i64 1100] st_1)
          (fun v st_2 =>
            (intV IntKind.i64 v).bind fun n =>
              if (n == 1100) = true then
                callB (cw 35 [AV.int IntKind.i64 1101] st_2)
                  (fun v st_3 =>
                    (intV IntKind.i64 v).bind fun n =>
                      if (n == 1101) = true then
                        callB (cw 35 [AV.int IntKind.i64 1102] st_3)
                          (fun v st_4 =>
                            (intV IntKind.i64 v).bind fun n =>
                              if (n == 1102) = true then
                                callB (cw 35 [AV.int IntKind.i64 1103] st_4)
                                  (fun v st_5 =>
                                    (intV IntKind.i64 v).bind fun n =>
                                      if (n == 1103) = true then
                                        callB (cw 35 [AV.int IntKind.i64 1104] st_5)
                                          (fun v st_6 =>
                                            (intV IntKind.i64 v).bind fun n =>
                                              if (n == 1104) = true then
                                                callB (cw 35 [AV.int IntKind.i64 1105] st_6)
                                                  (fun v st_7 =>
                                                    (intV IntKind.i64 v).bind fun n =>
                                                      if (n == 1105) = true then
                                                        callB (cw 35 [AV.int IntKind.i64 1106] st_7)
                                                          (fun v st_8 =>
                                                            (intV IntKind.i64 v).bind fun n =>
                                                              if (n == 1106) = true then
                                                                callB (cw 35 [AV.int IntKind.i64 1107] st_8)
                                                                  (fun v st_9 =>
                                                                    (intV IntKind.i64 v).bind fun n =>
                                                                      if (n == 1107) = true then
                                                                        callB (cw 35 [AV.int IntKind.i64 1108] st_9)
                                                                          (fun v st_10 =>
                                                                            (intV IntKind.i64 v).bind fun n =>
                                                                              if (n == 1108) = true then
                                                                                callB (cw 35 [AV.int IntKind.i64 1200] st_10)
                                                                                  (fun v st_11 =>
                                                                                    (intV IntKind.i64 v).bind fun n =>
                                                                                      if (n == 1200) = true then
                                                                                        callB (cw 35 [AV.int IntKind.i64 1201] st_11)
                                                                                          (fun v st_12 =>
                                                                                            (intV IntKind.i64 v).bind fun n =>
                                                                                              if (n == 1201) = true then
                                                                                                callB (cw 35 [AV.int IntKind.i64 1202] st_12)
                                                                                                  (fun v st_13 =>
                                                                                                    (intV IntKind.i64 v).bind fun n =>
                                                                                                      if (n == 1202) = true then
                                                                                                        callB (cw 35 [AV.int IntKind.i64 1203] st_13)
                                                                                                          (fun v st_14 => (intV IntKind.i64 v).bind fun n => outL false (st.length) (AOut.ret (AV.bool (n == 1203))) st_14) fun v st_14 =>
                                                                                                          outL false (st.length) (AOut.pan v) st_14
                                                                                                      else outL false (st.length) (AOut.ret (AV.bool false)) st_13)
                                                                                                  fun v st_13 => outL false (st.length) (AOut.pan v) st_13
                                                                                              else outL false (st.length) (AOut.ret (AV.bool false)) st_12)
                                                                                          fun v st_12 => outL false (st.length) (AOut.pan v) st_12
                                                                                      else outL false (st.length) (AOut.ret (AV.bool false)) st_11)
                                                                                  fun v st_11 => outL false (st.length) (AOut.pan v) st_11
                                                                              else outL false (st.length) (AOut.ret (AV.bool false)) st_10)
                                                                          fun v st_10 => outL false (st.length) (AOut.pan v) st_10
                                                                      else outL false (st.length) (AOut.ret (AV.bool false)) st_9)
                                                                  fun v st_9 => outL false (st.length) (AOut.pan v) st_9
                                                              else outL false (st.length) (AOut.ret (AV.bool false)) st_8)
                                                          fun v st_8 => outL false (st.length) (AOut.pan v) st_8
                                                      else outL false (st.length) (AOut.ret (AV.bool false)) st_7)
                                                  fun v st_7 => outL false (st.length) (AOut.pan v) st_7
                                              else outL false (st.length) (AOut.ret (AV.bool false)) st_6)
                                          fun v st_6 => outL false (st.length) (AOut.pan v) st_6
                                      else outL false (st.length) (AOut.ret (AV.bool false)) st_5)
                                  fun v st_5 => outL false (st.length) (AOut.pan v) st_5
                              else outL false (st.length) (AOut.ret (AV.bool false)) st_4)
                          fun v st_4 => outL false (st.length) (AOut.pan v) st_4
                      else outL false (st.length) (AOut.ret (AV.bool false)) st_3)
                  fun v st_3 => outL false (st.length) (AOut.pan v) st_3
              else outL false (st.length) (AOut.ret (AV.bool false)) st_2)
          fun v st_2 => outL false (st.length) (AOut.pan v) st_2
      else outL false (st.length) (AOut.ret (AV.bool false)) st_1)
  fun v st_1 => outL false (st.length) (AOut.pan v) st_1) = some r) :
    cw 11 [] st = some r := callW_of (Eq.trans (by kernel_rfl) h)
/-! stencil/stencillaw0.errors5 -/
theorem F12 (st : St) {r : AOut × St} (h : (callB (cw 35 [AV.int IntKind.i64 1204] st)
  (fun v st_1 =>
    (intV IntKind.i64 v).bind fun n =>
      if (n == 1204) = true then
        callB (cw 35 [AV.int IntKind.i64 1205] st_1)
          (fun v st_2 =>
            (intV IntKind.i64 v).bind fun n =>
              if (n == 1205) = true then
                callB (cw 35 [AV.int IntKind.i64 1300] st_2)
                  (fun v st_3 =>
                    (intV IntKind.i64 v).bind fun n =>
                      if (n == 1300) = true then
                        callB (cw 35 [AV.int IntKind.i64 1301] st_3)
                          (fun v st_4 =>
                            (intV IntKind.i64 v).bind fun n =>
                              if (n == 1301) = true then
                                callB (cw 35 [AV.int IntKind.i64 1302] st_4)
                                  (fun v st_5 =>
                                    (intV IntKind.i64 v).bind fun n =>
                                      if (n == 1302) = true then
                                        callB (cw 35 [AV.int IntKind.i64 1303] st_5)
                                          (fun v st_6 =>
                                            (intV IntKind.i64 v).bind fun n =>
                                              if (n == 1303) = true then
                                                callB (cw 35 [AV.int IntKind.i64 1304] st_6)
                                                  (fun v st_7 =>
                                                    (intV IntKind.i64 v).bind fun n =>
                                                      if (n == 1304) = true then
                                                        callB (cw 35 [AV.int IntKind.i64 1400] st_7)
                                                          (fun v st_8 =>
                                                            (intV IntKind.i64 v).bind fun n =>
                                                              if (n == 1400) = true then
                                                                callB (cw 35 [AV.int IntKind.i64 1401] st_8)
                                                                  (fun v st_9 =>
                                                                    (intV IntKind.i64 v).bind fun n =>
                                                                      if (n == 1401) = true then
                                                                        callB (cw 35 [AV.int IntKind.i64 1402] st_9)
                                                                          (fun v st_10 =>
                                                                            (intV IntKind.i64 v).bind fun n =>
                                                                              if (n == 1402) = true then
                                                                                callB (cw 35 [AV.int IntKind.i64 1403] st_10)
                                                                                  (fun v st_11 =>
                                                                                    (intV IntKind.i64 v).bind fun n =>
                                                                                      if (n == 1403) = true then
                                                                                        callB (cw 35 [AV.int IntKind.i64 1404] st_11)
                                                                                          (fun v st_12 =>
                                                                                            (intV IntKind.i64 v).bind fun n =>
                                                                                              if (n == 1404) = true then
                                                                                                callB (cw 35 [AV.int IntKind.i64 1405] st_12)
                                                                                                  (fun v st_13 =>
                                                                                                    (intV IntKind.i64 v).bind fun n =>
                                                                                                      if (n == 1405) = true then
                                                                                                        callB (cw 35 [AV.int IntKind.i64 1406] st_13)
                                                                                                          (fun v st_14 => (intV IntKind.i64 v).bind fun n => outL false (st.length) (AOut.ret (AV.bool (n == 1406))) st_14) fun v st_14 =>
                                                                                                          outL false (st.length) (AOut.pan v) st_14
                                                                                                      else outL false (st.length) (AOut.ret (AV.bool false)) st_13)
                                                                                                  fun v st_13 => outL false (st.length) (AOut.pan v) st_13
                                                                                              else outL false (st.length) (AOut.ret (AV.bool false)) st_12)
                                                                                          fun v st_12 => outL false (st.length) (AOut.pan v) st_12
                                                                                      else outL false (st.length) (AOut.ret (AV.bool false)) st_11)
                                                                                  fun v st_11 => outL false (st.length) (AOut.pan v) st_11
                                                                              else outL false (st.length) (AOut.ret (AV.bool false)) st_10)
                                                                          fun v st_10 => outL false (st.length) (AOut.pan v) st_10
                                                                      else outL false (st.length) (AOut.ret (AV.bool false)) st_9)
                                                                  fun v st_9 => outL false (st.length) (AOut.pan v) st_9
                                                              else outL false (st.length) (AOut.ret (AV.bool false)) st_8)
                                                          fun v st_8 => outL false (st.length) (AOut.pan v) st_8
                                                      else outL false (st.length) (AOut.ret (AV.bool false)) st_7)
                                                  fun v st_7 => outL false (st.length) (AOut.pan v) st_7
                                              else outL false (st.length) (AOut.ret (AV.bool false)) st_6)
                                          fun v st_6 => outL false (st.length) (AOut.pan v) st_6
                                      else outL false (st.length) (AOut.ret (AV.bool false)) st_5)
                                  fun v st_5 => outL false (st.length) (AOut.pan v) st_5
                              else outL false (st.length) (AOut.ret (AV.bool false)) st_4)
                          fun v st_4 => outL false (st.length) (AOut.pan v) st_4
                      else outL false (st.length) (AOut.ret (AV.bool false)) st_3)
                  fun v st_3 => outL false (st.length) (AOut.pan v) st_3
              else outL false (st.length) (AOut.ret (AV.bool false)) st_2)
          fun v st_2 => outL false (st.length) (AOut.pan v) st_2
      else outL false (st.length) (AOut.ret (AV.bool false)) st_1)
  fun v st_1 => outL false (st.length) (AOut.pan v) st_1) = some r) :
    cw 12 [] st = some r := callW_of (Eq.trans (by kernel_rfl) h)
/-! stencil/stencillaw0.errors6 -/
theorem F13 (st : St) {r : AOut × St} (h : (callB (cw 35 [AV.int IntKind.i64 1407] st)
  (fun v st_1 =>
    (intV IntKind.i64 v).bind fun n =>
      if (n == 1407) = true then
        callB (cw 35 [AV.int IntKind.i64 1408] st_1)
          (fun v st_2 =>
            (intV IntKind.i64 v).bind fun n =>
              if (n == 1408) = true then
                callB (cw 35 [AV.int IntKind.i64 1409] st_2)
                  (fun v st_3 =>
                    (intV IntKind.i64 v).bind fun n =>
                      if (n == 1409) = true then
                        callB (cw 35 [AV.int IntKind.i64 1410] st_3)
                          (fun v st_4 =>
                            (intV IntKind.i64 v).bind fun n =>
                              if (n == 1410) = true then
                                callB (cw 35 [AV.int IntKind.i64 1411] st_4)
                                  (fun v st_5 =>
                                    (intV IntKind.i64 v).bind fun n =>
                                      if (n == 1411) = true then
                                        callB (cw 35 [AV.int IntKind.i64 1412] st_5)
                                          (fun v st_6 =>
                                            (intV IntKind.i64 v).bind fun n =>
                                              if (n == 1412) = true then
                                                callB (cw 35 [AV.int IntKind.i64 1500] st_6)
                                                  (fun v st_7 =>
                                                    (intV IntKind.i64 v).bind fun n =>
                                                      if (n == 1500) = true then
                                                        callB (cw 35 [AV.int IntKind.i64 1501] st_7)
                                                          (fun v st_8 =>
                                                            (intV IntKind.i64 v).bind fun n =>
                                                              if (n == 1501) = true then
                                                                callB (cw 35 [AV.int IntKind.i64 1502] st_8)
                                                                  (fun v st_9 =>
                                                                    (intV IntKind.i64 v).bind fun n =>
                                                                      if (n == 1502) = true then
                                                                        callB (cw 35 [AV.int IntKind.i64 1503] st_9)
                                                                          (fun v st_10 =>
                                                                            (intV IntKind.i64 v).bind fun n =>
                                                                              if (n == 1503) = true then
                                                                                callB (cw 35 [AV.int IntKind.i64 1504] st_10)
                                                                                  (fun v st_11 =>
                                                                                    (intV IntKind.i64 v).bind fun n =>
                                                                                      if (n == 1504) = true then
                                                                                        callB (cw 35 [AV.int IntKind.i64 1600] st_11)
                                                                                          (fun v st_12 =>
                                                                                            (intV IntKind.i64 v).bind fun n =>
                                                                                              if (n == 1600) = true then
                                                                                                callB (cw 35 [AV.int IntKind.i64 1601] st_12)
                                                                                                  (fun v st_13 =>
                                                                                                    (intV IntKind.i64 v).bind fun n =>
                                                                                                      if (n == 1601) = true then
                                                                                                        callB (cw 35 [AV.int IntKind.i64 1800] st_13)
                                                                                                          (fun v st_14 => (intV IntKind.i64 v).bind fun n => outL false (st.length) (AOut.ret (AV.bool (n == 1800))) st_14) fun v st_14 =>
                                                                                                          outL false (st.length) (AOut.pan v) st_14
                                                                                                      else outL false (st.length) (AOut.ret (AV.bool false)) st_13)
                                                                                                  fun v st_13 => outL false (st.length) (AOut.pan v) st_13
                                                                                              else outL false (st.length) (AOut.ret (AV.bool false)) st_12)
                                                                                          fun v st_12 => outL false (st.length) (AOut.pan v) st_12
                                                                                      else outL false (st.length) (AOut.ret (AV.bool false)) st_11)
                                                                                  fun v st_11 => outL false (st.length) (AOut.pan v) st_11
                                                                              else outL false (st.length) (AOut.ret (AV.bool false)) st_10)
                                                                          fun v st_10 => outL false (st.length) (AOut.pan v) st_10
                                                                      else outL false (st.length) (AOut.ret (AV.bool false)) st_9)
                                                                  fun v st_9 => outL false (st.length) (AOut.pan v) st_9
                                                              else outL false (st.length) (AOut.ret (AV.bool false)) st_8)
                                                          fun v st_8 => outL false (st.length) (AOut.pan v) st_8
                                                      else outL false (st.length) (AOut.ret (AV.bool false)) st_7)
                                                  fun v st_7 => outL false (st.length) (AOut.pan v) st_7
                                              else outL false (st.length) (AOut.ret (AV.bool false)) st_6)
                                          fun v st_6 => outL false (st.length) (AOut.pan v) st_6
                                      else outL false (st.length) (AOut.ret (AV.bool false)) st_5)
                                  fun v st_5 => outL false (st.length) (AOut.pan v) st_5
                              else outL false (st.length) (AOut.ret (AV.bool false)) st_4)
                          fun v st_4 => outL false (st.length) (AOut.pan v) st_4
                      else outL false (st.length) (AOut.ret (AV.bool false)) st_3)
                  fun v st_3 => outL false (st.length) (AOut.pan v) st_3
              else outL false (st.length) (AOut.ret (AV.bool false)) st_2)
          fun v st_2 => outL false (st.length) (AOut.pan v) st_2
      else outL false (st.length) (AOut.ret (AV.bool false)) st_1)
  fun v st_1 => outL false (st.length) (AOut.pan v) st_1) = some r) :
    cw 13 [] st = some r := callW_of (Eq.trans (by kernel_rfl) h)
/-! stencil/stencillaw0.errors7 -/
theorem F14 (st : St) {r : AOut × St} (h : (callB (cw 35 [AV.int IntKind.i64 1900] st)
  (fun v st_1 =>
    (intV IntKind.i64 v).bind fun n =>
      if (n == 1900) = true then
        callB (cw 35 [AV.int IntKind.i64 1901] st_1)
          (fun v st_2 =>
            (intV IntKind.i64 v).bind fun n =>
              if (n == 1901) = true then
                callB (cw 35 [AV.int IntKind.i64 1902] st_2)
                  (fun v st_3 =>
                    (intV IntKind.i64 v).bind fun n =>
                      if (n == 1902) = true then
                        callB (cw 35 [AV.int IntKind.i64 1903] st_3)
                          (fun v st_4 =>
                            (intV IntKind.i64 v).bind fun n =>
                              if (n == 1903) = true then
                                callB (cw 35 [AV.int IntKind.i64 2000] st_4)
                                  (fun v st_5 =>
                                    (intV IntKind.i64 v).bind fun n =>
                                      if (n == 2000) = true then
                                        callB (cw 35 [AV.int IntKind.i64 2001] st_5)
                                          (fun v st_6 =>
                                            (intV IntKind.i64 v).bind fun n =>
                                              if (n == 2001) = true then
                                                callB (cw 35 [AV.int IntKind.i64 2002] st_6)
                                                  (fun v st_7 =>
                                                    (intV IntKind.i64 v).bind fun n =>
                                                      if (n == 2002) = true then
                                                        callB (cw 35 [AV.int IntKind.i64 2003] st_7)
                                                          (fun v st_8 =>
                                                            (intV IntKind.i64 v).bind fun n =>
                                                              if (n == 2003) = true then
                                                                callB (cw 35 [AV.int IntKind.i64 2004] st_8)
                                                                  (fun v st_9 =>
                                                                    (intV IntKind.i64 v).bind fun n =>
                                                                      if (n == 2004) = true then
                                                                        callB (cw 35 [AV.int IntKind.i64 2100] st_9)
                                                                          (fun v st_10 =>
                                                                            (intV IntKind.i64 v).bind fun n =>
                                                                              if (n == 2100) = true then
                                                                                callB (cw 35 [AV.int IntKind.i64 2101] st_10)
                                                                                  (fun v st_11 =>
                                                                                    (intV IntKind.i64 v).bind fun n =>
                                                                                      if (n == 2101) = true then
                                                                                        callB (cw 35 [AV.int IntKind.i64 2200] st_11)
                                                                                          (fun v st_12 =>
                                                                                            (intV IntKind.i64 v).bind fun n =>
                                                                                              if (n == 2200) = true then
                                                                                                callB (cw 35 [AV.int IntKind.i64 2201] st_12)
                                                                                                  (fun v st_13 =>
                                                                                                    (intV IntKind.i64 v).bind fun n =>
                                                                                                      if (n == 2201) = true then
                                                                                                        callB (cw 35 [AV.int IntKind.i64 2202] st_13)
                                                                                                          (fun v st_14 => (intV IntKind.i64 v).bind fun n => outL false (st.length) (AOut.ret (AV.bool (n == 2202))) st_14) fun v st_14 =>
                                                                                                          outL false (st.length) (AOut.pan v) st_14
                                                                                                      else outL false (st.length) (AOut.ret (AV.bool false)) st_13)
                                                                                                  fun v st_13 => outL false (st.length) (AOut.pan v) st_13
                                                                                              else outL false (st.length) (AOut.ret (AV.bool false)) st_12)
                                                                                          fun v st_12 => outL false (st.length) (AOut.pan v) st_12
                                                                                      else outL false (st.length) (AOut.ret (AV.bool false)) st_11)
                                                                                  fun v st_11 => outL false (st.length) (AOut.pan v) st_11
                                                                              else outL false (st.length) (AOut.ret (AV.bool false)) st_10)
                                                                          fun v st_10 => outL false (st.length) (AOut.pan v) st_10
                                                                      else outL false (st.length) (AOut.ret (AV.bool false)) st_9)
                                                                  fun v st_9 => outL false (st.length) (AOut.pan v) st_9
                                                              else outL false (st.length) (AOut.ret (AV.bool false)) st_8)
                                                          fun v st_8 => outL false (st.length) (AOut.pan v) st_8
                                                      else outL false (st.length) (AOut.ret (AV.bool false)) st_7)
                                                  fun v st_7 => outL false (st.length) (AOut.pan v) st_7
                                              else outL false (st.length) (AOut.ret (AV.bool false)) st_6)
                                          fun v st_6 => outL false (st.length) (AOut.pan v) st_6
                                      else outL false (st.length) (AOut.ret (AV.bool false)) st_5)
                                  fun v st_5 => outL false (st.length) (AOut.pan v) st_5
                              else outL false (st.length) (AOut.ret (AV.bool false)) st_4)
                          fun v st_4 => outL false (st.length) (AOut.pan v) st_4
                      else outL false (st.length) (AOut.ret (AV.bool false)) st_3)
                  fun v st_3 => outL false (st.length) (AOut.pan v) st_3
              else outL false (st.length) (AOut.ret (AV.bool false)) st_2)
          fun v st_2 => outL false (st.length) (AOut.pan v) st_2
      else outL false (st.length) (AOut.ret (AV.bool false)) st_1)
  fun v st_1 => outL false (st.length) (AOut.pan v) st_1) = some r) :
    cw 14 [] st = some r := callW_of (Eq.trans (by kernel_rfl) h)
/-! stencil/stencillaw0.errors8 -/
theorem F15 (st : St) {r : AOut × St} (h : (callB (cw 35 [AV.int IntKind.i64 2203] st)
  (fun v st_1 =>
    (intV IntKind.i64 v).bind fun n =>
      if (n == 2203) = true then
        callB (cw 35 [AV.int IntKind.i64 2204] st_1)
          (fun v st_2 =>
            (intV IntKind.i64 v).bind fun n =>
              if (n == 2204) = true then
                callB (cw 35 [AV.int IntKind.i64 2205] st_2)
                  (fun v st_3 =>
                    (intV IntKind.i64 v).bind fun n =>
                      if (n == 2205) = true then
                        callB (cw 35 [AV.int IntKind.i64 2206] st_3)
                          (fun v st_4 =>
                            (intV IntKind.i64 v).bind fun n =>
                              if (n == 2206) = true then
                                callB (cw 35 [AV.int IntKind.i64 2207] st_4)
                                  (fun v st_5 =>
                                    (intV IntKind.i64 v).bind fun n =>
                                      if (n == 2207) = true then
                                        callB (cw 35 [AV.int IntKind.i64 2208] st_5)
                                          (fun v st_6 =>
                                            (intV IntKind.i64 v).bind fun n =>
                                              if (n == 2208) = true then
                                                callB (cw 35 [AV.int IntKind.i64 2300] st_6)
                                                  (fun v st_7 =>
                                                    (intV IntKind.i64 v).bind fun n =>
                                                      if (n == 2300) = true then
                                                        callB (cw 35 [AV.int IntKind.i64 2301] st_7)
                                                          (fun v st_8 =>
                                                            (intV IntKind.i64 v).bind fun n =>
                                                              if (n == 2301) = true then
                                                                callB (cw 35 [AV.int IntKind.i64 2302] st_8)
                                                                  (fun v st_9 =>
                                                                    (intV IntKind.i64 v).bind fun n =>
                                                                      if (n == 2302) = true then
                                                                        callB (cw 35 [AV.int IntKind.i64 2303] st_9)
                                                                          (fun v st_10 =>
                                                                            (intV IntKind.i64 v).bind fun n =>
                                                                              if (n == 2303) = true then
                                                                                callB (cw 35 [AV.int IntKind.i64 2304] st_10)
                                                                                  (fun v st_11 =>
                                                                                    (intV IntKind.i64 v).bind fun n =>
                                                                                      if (n == 2304) = true then
                                                                                        callB (cw 35 [AV.int IntKind.i64 2305] st_11)
                                                                                          (fun v st_12 =>
                                                                                            (intV IntKind.i64 v).bind fun n =>
                                                                                              if (n == 2305) = true then
                                                                                                callB (cw 35 [AV.int IntKind.i64 2600] st_12)
                                                                                                  (fun v st_13 =>
                                                                                                    (intV IntKind.i64 v).bind fun n =>
                                                                                                      if (n == 2600) = true then
                                                                                                        callB (cw 35 [AV.int IntKind.i64 2700] st_13)
                                                                                                          (fun v st_14 => (intV IntKind.i64 v).bind fun n => outL false (st.length) (AOut.ret (AV.bool (n == 2700))) st_14) fun v st_14 =>
                                                                                                          outL false (st.length) (AOut.pan v) st_14
                                                                                                      else outL false (st.length) (AOut.ret (AV.bool false)) st_13)
                                                                                                  fun v st_13 => outL false (st.length) (AOut.pan v) st_13
                                                                                              else outL false (st.length) (AOut.ret (AV.bool false)) st_12)
                                                                                          fun v st_12 => outL false (st.length) (AOut.pan v) st_12
                                                                                      else outL false (st.length) (AOut.ret (AV.bool false)) st_11)
                                                                                  fun v st_11 => outL false (st.length) (AOut.pan v) st_11
                                                                              else outL false (st.length) (AOut.ret (AV.bool false)) st_10)
                                                                          fun v st_10 => outL false (st.length) (AOut.pan v) st_10
                                                                      else outL false (st.length) (AOut.ret (AV.bool false)) st_9)
                                                                  fun v st_9 => outL false (st.length) (AOut.pan v) st_9
                                                              else outL false (st.length) (AOut.ret (AV.bool false)) st_8)
                                                          fun v st_8 => outL false (st.length) (AOut.pan v) st_8
                                                      else outL false (st.length) (AOut.ret (AV.bool false)) st_7)
                                                  fun v st_7 => outL false (st.length) (AOut.pan v) st_7
                                              else outL false (st.length) (AOut.ret (AV.bool false)) st_6)
                                          fun v st_6 => outL false (st.length) (AOut.pan v) st_6
                                      else outL false (st.length) (AOut.ret (AV.bool false)) st_5)
                                  fun v st_5 => outL false (st.length) (AOut.pan v) st_5
                              else outL false (st.length) (AOut.ret (AV.bool false)) st_4)
                          fun v st_4 => outL false (st.length) (AOut.pan v) st_4
                      else outL false (st.length) (AOut.ret (AV.bool false)) st_3)
                  fun v st_3 => outL false (st.length) (AOut.pan v) st_3
              else outL false (st.length) (AOut.ret (AV.bool false)) st_2)
          fun v st_2 => outL false (st.length) (AOut.pan v) st_2
      else outL false (st.length) (AOut.ret (AV.bool false)) st_1)
  fun v st_1 => outL false (st.length) (AOut.pan v) st_1) = some r) :
    cw 15 [] st = some r := callW_of (Eq.trans (by kernel_rfl) h)
/-! stencil/stencillaw0.errors9 -/
theorem F16 (st : St) {r : AOut × St} (h : (callB (cw 35 [AV.int IntKind.i64 2701] st)
  (fun v st_1 =>
    (intV IntKind.i64 v).bind fun n =>
      if (n == 2701) = true then
        callB (cw 35 [AV.int IntKind.i64 2702] st_1) (fun v st_2 => (intV IntKind.i64 v).bind fun n => outL false (st.length) (AOut.ret (AV.bool (n == 2702))) st_2) fun v st_2 =>
          outL false (st.length) (AOut.pan v) st_2
      else outL false (st.length) (AOut.ret (AV.bool false)) st_1)
  fun v st_1 => outL false (st.length) (AOut.pan v) st_1) = some r) :
    cw 16 [] st = some r := callW_of (Eq.trans (by kernel_rfl) h)
/-! stencil/stencillaw0.numbers1 -/
theorem F17 (st : St) {r : AOut × St} (h : (outL false (st.length) (AOut.ret (AV.bool true)) st) = some r) :
    cw 17 [] st = some r := callW_of (Eq.trans (by kernel_rfl) h)
/-! stencil/stencillaw0.numbers2 -/
theorem F18 (st : St) {r : AOut × St} (h : (outL false (st.length) (AOut.ret (AV.bool true)) st) = some r) :
    cw 18 [] st = some r := callW_of (Eq.trans (by kernel_rfl) h)
/-! stencil/stencillaw0.numbers3 -/
theorem F19 (st : St) {r : AOut × St} (h : (outL false (st.length) (AOut.ret (AV.bool true)) st) = some r) :
    cw 19 [] st = some r := callW_of (Eq.trans (by kernel_rfl) h)
/-! stencil/stencillaw0.numbers4 -/
theorem F20 (st : St) {r : AOut × St} (h : (outL false (st.length) (AOut.ret (AV.bool true)) st) = some r) :
    cw 20 [] st = some r := callW_of (Eq.trans (by kernel_rfl) h)
/-! stencil/stencillaw0.numbers5 -/
theorem F21 (st : St) {r : AOut × St} (h : (outL false (st.length) (AOut.ret (AV.bool true)) st) = some r) :
    cw 21 [] st = some r := callW_of (Eq.trans (by kernel_rfl) h)
/-! stencil/stencillaw0.numbers6 -/
theorem F22 (st : St) {r : AOut × St} (h : (outL false (st.length) (AOut.ret (AV.bool true)) st) = some r) :
    cw 22 [] st = some r := callW_of (Eq.trans (by kernel_rfl) h)
/-! stencil/stencillaw0.numbers7 -/
theorem F23 (st : St) {r : AOut × St} (h : (outL false (st.length) (AOut.ret (AV.bool true)) st) = some r) :
    cw 23 [] st = some r := callW_of (Eq.trans (by kernel_rfl) h)
/-! stencil/stencillaw0.numbers8 -/
theorem F24 (st : St) {r : AOut × St} (h : (outL false (st.length) (AOut.ret (AV.bool true)) st) = some r) :
    cw 24 [] st = some r := callW_of (Eq.trans (by kernel_rfl) h)
/-! stencil/stencillaw0.numbers9 -/
theorem F25 (st : St) {r : AOut × St} (h : (outL false (st.length) (AOut.ret (AV.bool true)) st) = some r) :
    cw 25 [] st = some r := callW_of (Eq.trans (by kernel_rfl) h)
/-! stencil/stencillaw0.numbers10 -/
theorem F26 (st : St) {r : AOut × St} (h : (outL false (st.length) (AOut.ret (AV.bool true)) st) = some r) :
    cw 26 [] st = some r := callW_of (Eq.trans (by kernel_rfl) h)
/-! stencil/leb.Put -/
abbrev p27_0 : List Dir := [.sr, .sr, .sl, .bk]
theorem F27 (x0 : Int) (st : St) {r : AOut × St} (h : (aw 27 (st.length) p27_0 ⟨[(0, AV.int IntKind.u64 x0), (3, AV.nils)], []⟩ (AObj.free 0 :: st)) = some r) :
    cw 27 [AV.int IntKind.u64 x0] st = some r := callW_of (Eq.trans (by kernel_rfl) h)
theorem F27_0 (x0 : Int) (out3 : AV) (base : Nat) (st : St) {r : AOut × St} (h : (if decide (x0 ≥ 128) = true then
  bind2 (appendL st (some (base + 0, false)) 1 0 out3 (AV.sl 0 [[AV.int IntKind.u8 (bits BinOp.or IntKind.u8 (IntKind.u8.wrap x0) 128)]] 0 1 Tok.exact)) fun v st =>
    aw 27 base p27_0 ⟨[(0, AV.int IntKind.u64 (x0.fdiv 128)), (3, v)], []⟩ st
else bind2 (appendL st (some (base + 0, false)) 1 0 out3 (AV.sl 0 [[AV.int IntKind.u8 (IntKind.u8.wrap x0)]] 0 1 Tok.exact)) fun v st => bind2 (freezeA st v) fun v st => outL false base (AOut.ret v) st) = some r) :
    aw 27 base p27_0 ⟨[(0, AV.int IntKind.u64 x0), (3, out3)], []⟩ st = some r := atW_of (Eq.trans (by kernel_rfl) h)
/-! stencil/leb.PutInt -/
theorem F28 (x0 : Int) (st : St) {r : AOut × St} (h : (callB (cw 27 [AV.int IntKind.u64 (bits BinOp.xor IntKind.u64 (IntKind.u64.wrap (IntKind.u64.wrap x0 * 2)) (IntKind.u64.wrap (x0.fdiv 9223372036854775808)))] st)
  (fun v st_1 => bind2 (freezeA st_1 v) fun v st_2 => outL false (st.length) (AOut.ret v) st_2) fun v st_1 => outL false (st.length) (AOut.pan v) st_1) = some r) :
    cw 28 [AV.int IntKind.i64 x0] st = some r := callW_of (Eq.trans (by kernel_rfl) h)
/-! stencil/stencillaw0.SameBytes -/
theorem F29 (a0 : AV) (b1 : AV) (st : St) {r : AOut × St} (h : ((strOf st a0).bind fun v => (strV v).bind fun s => (strOf st b1).bind fun v => (strV v).bind fun s_1 => (strA BinOp.eql s s_1).bind fun v => (boolV v).bind fun b => outL false (st.length) (AOut.ret (AV.bool b)) st) = some r) :
    cw 29 [a0, b1] st = some r := callW_of (Eq.trans (by kernel_rfl) h)
/-! stencil/stencilref2.Put -/
abbrev p30_0 : List Dir := [.sr, .sr, .sl, .bk]
theorem F30 (x0 : Int) (st : St) {r : AOut × St} (h : (aw 30 (st.length) p30_0 ⟨[(0, AV.int IntKind.u64 x0), (3, AV.nils)], []⟩ (AObj.free 0 :: st)) = some r) :
    cw 30 [AV.int IntKind.u64 x0] st = some r := callW_of (Eq.trans (by kernel_rfl) h)
theorem F30_0 (x0 : Int) (out3 : AV) (base : Nat) (st : St) {r : AOut × St} (h : (if decide (x0 ≥ 128) = true then
  bind2 (appendL st (some (base + 0, false)) 1 0 out3 (AV.sl 0 [[AV.int IntKind.u8 (IntKind.u8.wrap (IntKind.u64.wrap (128 + x0.tmod 128)))]] 0 1 Tok.exact)) fun v st =>
    aw 30 base p30_0 ⟨[(0, AV.int IntKind.u64 (IntKind.u64.wrap (x0.tdiv 128))), (3, v)], []⟩ st
else bind2 (appendL st (some (base + 0, false)) 1 0 out3 (AV.sl 0 [[AV.int IntKind.u8 (IntKind.u8.wrap x0)]] 0 1 Tok.exact)) fun v st => bind2 (freezeA st v) fun v st => outL false base (AOut.ret v) st) = some r) :
    aw 30 base p30_0 ⟨[(0, AV.int IntKind.u64 x0), (3, out3)], []⟩ st = some r := atW_of (Eq.trans (by kernel_rfl) h)
/-! stencil/stencilref2.PutInt -/
theorem F31 (x0 : Int) (st : St) {r : AOut × St} (h : (if decide (x0 < 0) = true then
  callB (cw 30 [AV.int IntKind.u64 (IntKind.u64.wrap (IntKind.u64.wrap (2 * IntKind.u64.wrap (IntKind.i64.wrap (0 - IntKind.i64.wrap (x0 + 1)))) + 1))] st)
    (fun v st_1 => bind2 (freezeA st_1 v) fun v st_2 => outL false (st.length) (AOut.ret v) st_2) fun v st_1 => outL false (st.length) (AOut.pan v) st_1
else
  callB (cw 30 [AV.int IntKind.u64 (IntKind.u64.wrap (2 * IntKind.u64.wrap x0))] st) (fun v st_1 => bind2 (freezeA st_1 v) fun v st_2 => outL false (st.length) (AOut.ret v) st_2) fun v st_1 =>
    outL false (st.length) (AOut.pan v) st_1) = some r) :
    cw 31 [AV.int IntKind.i64 x0] st = some r := callW_of (Eq.trans (by kernel_rfl) h)
/-! stencil/stencillaw0.SpoilBytes -/
abbrev p32_0 : List Dir := [.sr, .bk]
theorem F32 (a0 : AV) (st : St) {r : AOut × St} (h : (aw 32 (st.length) p32_0 ⟨[(0, a0), (2, AV.int IntKind.i64 0)], []⟩ st) = some r) :
    cw 32 [a0] st = some r := callW_of (Eq.trans (by kernel_rfl) h)
theorem F32_0 (a0 : AV) (i2 : Int) (base : Nat) (st : St) {r : AOut × St} (h : ((lenSl a0).bind fun v =>
  (intV IntKind.i64 v).bind fun n =>
    if decide (i2 < n) = true then
      (natA (AV.int IntKind.i64 i2)).bind fun j =>
        (idxSl st 0 a0 j).bind fun v =>
          (readA st v 1 false).bind fun v =>
            (intV IntKind.u8 v).bind fun n =>
              (natA (AV.int IntKind.i64 i2)).bind fun j =>
                (idxSl st 0 a0 j).bind fun v =>
                  (writeA st v [AV.int IntKind.u8 (bits BinOp.xor IntKind.u8 n 90)]).bind fun st => aw 32 base p32_0 ⟨[(0, a0), (2, AV.int IntKind.i64 (IntKind.i64.wrap (i2 + 1)))], []⟩ st
    else outL false base (AOut.ret (AV.tup [])) st) = some r) :
    aw 32 base p32_0 ⟨[(0, a0), (2, AV.int IntKind.i64 i2)], []⟩ st = some r := atW_of (Eq.trans (by kernel_rfl) h)
/-! stencil/leb.Take -/
abbrev p33_0 : List Dir := [.sr, .sr, .sr, .sl, .sr, .bk]
abbrev p33_1 : List Dir := [.sr, .sr, .sr, .sl, .sr, .bk, .lp 0, .sr, .sr, .sl, .bk, .sr, .sl, .bk, .sr]
theorem F33 (b0 : AV) (at1 : Int) (st : St) {r : AOut × St} (h : (if decide (at1 < 0) = true then outL false (st.length) (AOut.ret (AV.tup [AV.int IntKind.u64 0, AV.int IntKind.i64 0, AV.int IntKind.i64 200])) st
else
  (lenSl b0).bind fun v =>
    (intV IntKind.i64 v).bind fun n =>
      if decide (at1 > n) = true then outL false (st.length) (AOut.ret (AV.tup [AV.int IntKind.u64 0, AV.int IntKind.i64 0, AV.int IntKind.i64 200])) st
      else
        (sliceSl st 0 b0 (some (AV.int IntKind.i64 at1)) none none).bind fun v =>
          (lenSl v).bind fun v_1 =>
            (intV IntKind.i64 v_1).bind fun n =>
              aw 33 (st.length) p33_0 ⟨[(1, AV.int IntKind.i64 at1), (7, AV.int IntKind.u64 0), (20, v), (21, AV.int IntKind.i64 n), (22, AV.int IntKind.i64 0)], []⟩ st) = some r) :
    cw 33 [b0, AV.int IntKind.i64 at1] st = some r := callW_of (Eq.trans (by kernel_rfl) h)
theorem F33_0 (at1 : Int) (x7 : Int) (v20 : AV) (v21 : Int) (v22 : Int) (base : Nat) (st : St) {r : AOut × St} (h : (if decide (v22 < v21) = true then
  (natA (AV.int IntKind.i64 v22)).bind fun j =>
    (idxSl st 0 v20 j).bind fun v =>
      (readA st v 1 false).bind fun v =>
        (intV IntKind.u8 v).bind fun n =>
          if (v22 == 9) = true then
            if decide (n > 1) = true then outL false base (AOut.ret (AV.tup [AV.int IntKind.u64 0, AV.int IntKind.i64 0, AV.int IntKind.i64 201])) st
            else
              if (n == 0) = true then
                if decide (v22 > 0) = true then outL false base (AOut.ret (AV.tup [AV.int IntKind.u64 0, AV.int IntKind.i64 0, AV.int IntKind.i64 201])) st
                else
                  (if IntKind.u64.wrap (IntKind.i64.wrap (7 * v22)) < 0 then none
                      else some (AV.int IntKind.u64 (IntKind.u64.wrap (IntKind.u64.wrap (bits BinOp.and IntKind.u8 n 127) * 2 ^ min (IntKind.u64.wrap (IntKind.i64.wrap (7 * v22))).toNat 64)))).bind
                    fun v =>
                    (intV IntKind.u64 v).bind fun n_1 =>
                      if decide (n < 128) = true then
                        outL false base (AOut.ret (AV.tup [AV.int IntKind.u64 (bits BinOp.or IntKind.u64 x7 n_1), AV.int IntKind.i64 (IntKind.i64.wrap (IntKind.i64.wrap (at1 + v22) + 1)), AV.int IntKind.i64 0])) st
                      else
                        aw 33 base p33_0
                          ⟨[(1, AV.int IntKind.i64 at1), (7, AV.int IntKind.u64 (bits BinOp.or IntKind.u64 x7 n_1)), (20, v20), (21, AV.int IntKind.i64 v21), (22, AV.int IntKind.i64 (IntKind.i64.wrap (v22 + 1)))], []⟩ st
              else
                (if IntKind.u64.wrap (IntKind.i64.wrap (7 * v22)) < 0 then none
                    else some (AV.int IntKind.u64 (IntKind.u64.wrap (IntKind.u64.wrap (bits BinOp.and IntKind.u8 n 127) * 2 ^ min (IntKind.u64.wrap (IntKind.i64.wrap (7 * v22))).toNat 64)))).bind
                  fun v =>
                  (intV IntKind.u64 v).bind fun n_1 =>
                    if decide (n < 128) = true then
                      outL false base (AOut.ret (AV.tup [AV.int IntKind.u64 (bits BinOp.or IntKind.u64 x7 n_1), AV.int IntKind.i64 (IntKind.i64.wrap (IntKind.i64.wrap (at1 + v22) + 1)), AV.int IntKind.i64 0])) st
                    else
                      aw 33 base p33_0
                        ⟨[(1, AV.int IntKind.i64 at1), (7, AV.int IntKind.u64 (bits BinOp.or IntKind.u64 x7 n_1)), (20, v20), (21, AV.int IntKind.i64 v21), (22, AV.int IntKind.i64 (IntKind.i64.wrap (v22 + 1)))], []⟩ st
          else
            if (n == 0) = true then
              if decide (v22 > 0) = true then outL false base (AOut.ret (AV.tup [AV.int IntKind.u64 0, AV.int IntKind.i64 0, AV.int IntKind.i64 201])) st
              else
                (if IntKind.u64.wrap (IntKind.i64.wrap (7 * v22)) < 0 then none
                    else some (AV.int IntKind.u64 (IntKind.u64.wrap (IntKind.u64.wrap (bits BinOp.and IntKind.u8 n 127) * 2 ^ min (IntKind.u64.wrap (IntKind.i64.wrap (7 * v22))).toNat 64)))).bind
                  fun v =>
                  (intV IntKind.u64 v).bind fun n_1 =>
                    if decide (n < 128) = true then
                      outL false base (AOut.ret (AV.tup [AV.int IntKind.u64 (bits BinOp.or IntKind.u64 x7 n_1), AV.int IntKind.i64 (IntKind.i64.wrap (IntKind.i64.wrap (at1 + v22) + 1)), AV.int IntKind.i64 0])) st
                    else
                      aw 33 base p33_0
                        ⟨[(1, AV.int IntKind.i64 at1), (7, AV.int IntKind.u64 (bits BinOp.or IntKind.u64 x7 n_1)), (20, v20), (21, AV.int IntKind.i64 v21), (22, AV.int IntKind.i64 (IntKind.i64.wrap (v22 + 1)))], []⟩ st
            else
              (if IntKind.u64.wrap (IntKind.i64.wrap (7 * v22)) < 0 then none
                  else some (AV.int IntKind.u64 (IntKind.u64.wrap (IntKind.u64.wrap (bits BinOp.and IntKind.u8 n 127) * 2 ^ min (IntKind.u64.wrap (IntKind.i64.wrap (7 * v22))).toNat 64)))).bind
                fun v =>
                (intV IntKind.u64 v).bind fun n_1 =>
                  if decide (n < 128) = true then outL false base (AOut.ret (AV.tup [AV.int IntKind.u64 (bits BinOp.or IntKind.u64 x7 n_1), AV.int IntKind.i64 (IntKind.i64.wrap (IntKind.i64.wrap (at1 + v22) + 1)), AV.int IntKind.i64 0])) st
                  else
                    aw 33 base p33_0
                      ⟨[(1, AV.int IntKind.i64 at1), (7, AV.int IntKind.u64 (bits BinOp.or IntKind.u64 x7 n_1)), (20, v20), (21, AV.int IntKind.i64 v21), (22, AV.int IntKind.i64 (IntKind.i64.wrap (v22 + 1)))], []⟩ st
else outL false base (AOut.ret (AV.tup [AV.int IntKind.u64 0, AV.int IntKind.i64 0, AV.int IntKind.i64 200])) st) = some r) :
    aw 33 base p33_0 ⟨[(1, AV.int IntKind.i64 at1), (7, AV.int IntKind.u64 x7), (20, v20), (21, AV.int IntKind.i64 v21), (22, AV.int IntKind.i64 v22)], []⟩ st = some r := atW_of (Eq.trans (by kernel_rfl) h)
theorem F33_1 (at1 : Int) (x7 : Int) (k8 : Int) (c9 : Int) (v20 : AV) (v21 : Int) (v22 : Int) (v27 : Bool) (base : Nat) (st : St) {r : AOut × St} (h : (if v27 = true then outL false base (AOut.ret (AV.tup [AV.int IntKind.u64 0, AV.int IntKind.i64 0, AV.int IntKind.i64 201])) st
else
  (if IntKind.u64.wrap (IntKind.i64.wrap (7 * k8)) < 0 then none else some (AV.int IntKind.u64 (IntKind.u64.wrap (IntKind.u64.wrap (bits BinOp.and IntKind.u8 c9 127) * 2 ^ min (IntKind.u64.wrap (IntKind.i64.wrap (7 * k8))).toNat 64)))).bind
    fun v =>
    (intV IntKind.u64 v).bind fun n =>
      if decide (c9 < 128) = true then outL false base (AOut.ret (AV.tup [AV.int IntKind.u64 (bits BinOp.or IntKind.u64 x7 n), AV.int IntKind.i64 (IntKind.i64.wrap (IntKind.i64.wrap (at1 + k8) + 1)), AV.int IntKind.i64 0])) st
      else
        aw 33 base p33_0
          ⟨[(1, AV.int IntKind.i64 at1), (7, AV.int IntKind.u64 (bits BinOp.or IntKind.u64 x7 n)), (20, v20), (21, AV.int IntKind.i64 v21), (22, AV.int IntKind.i64 (IntKind.i64.wrap (v22 + 1)))], []⟩ st) = some r) :
    aw 33 base p33_1 ⟨[(1, AV.int IntKind.i64 at1), (7, AV.int IntKind.u64 x7), (8, AV.int IntKind.i64 k8), (9, AV.int IntKind.u8 c9), (20, v20), (21, AV.int IntKind.i64 v21), (22, AV.int IntKind.i64 v22), (27, AV.bool v27)], []⟩ st = some r := Eq.trans (by kernel_rfl) h
/-! stencil/leb.TakeInt -/
theorem F34 (b0 : AV) (at1 : Int) (st : St) {r : AOut × St} (h : (callB (cw 33 [b0, AV.int IntKind.i64 at1] st)
  (fun v st_1 =>
    (extractA 0 v).bind fun v_1 =>
      (intV IntKind.u64 v_1).bind fun n =>
        (extractA 1 v).bind fun v_2 =>
          (intV IntKind.i64 v_2).bind fun n_1 =>
            (extractA 2 v).bind fun v =>
              (intV IntKind.i64 v).bind fun n_2 =>
                if (n_2 != 0) = true then outL false (st.length) (AOut.ret (AV.tup [AV.int IntKind.i64 0, AV.int IntKind.i64 0, AV.int IntKind.i64 n_2])) st_1
                else
                  outL false (st.length)
                    (AOut.ret (AV.tup [AV.int IntKind.i64 (bits BinOp.xor IntKind.i64 (IntKind.i64.wrap (n.fdiv 2)) (IntKind.i64.wrap (0 - IntKind.i64.wrap (bits BinOp.and IntKind.u64 n 1)))), AV.int IntKind.i64 n_1, AV.int IntKind.i64 0]))
                    st_1)
  fun v st_1 => outL false (st.length) (AOut.pan v) st_1) = some r) :
    cw 34 [b0, AV.int IntKind.i64 at1] st = some r := callW_of (Eq.trans (by kernel_rfl) h)
/-! stencil/stencillaw0.Num -/
theorem F35 (e0 : Int) (st : St) {r : AOut × St} (h : (outL false (st.length) (AOut.ret (AV.int IntKind.i64 e0)) st) = some r) :
    cw 35 [AV.int IntKind.i64 e0] st = some r := callW_of (Eq.trans (by kernel_rfl) h)
/-! stencil/stencillaw2.awake -/
theorem F36 (st : St) {r : AOut × St} (h : (callB (cw 33 [AV.sl 0 [[AV.int IntKind.u8 9], [AV.int IntKind.u8 128], [AV.int IntKind.u8 1]] 0 3 Tok.exact, AV.int IntKind.i64 1] st)
  (fun v st_1 =>
    (extractA 0 v).bind fun v_1 =>
      (intV IntKind.u64 v_1).bind fun n =>
        (extractA 1 v).bind fun v_2 =>
          (intV IntKind.i64 v_2).bind fun n_1 =>
            (extractA 2 v).bind fun v =>
              (intV IntKind.i64 v).bind fun n_2 =>
                callB (cw 34 [AV.sl 0 [[AV.int IntKind.u8 3]] 0 1 Tok.exact, AV.int IntKind.i64 0] st_1)
                  (fun v st_2 =>
                    (extractA 0 v).bind fun v_3 =>
                      (intV IntKind.i64 v_3).bind fun n_3 =>
                        (extractA 1 v).bind fun v_4 =>
                          (intV IntKind.i64 v_4).bind fun n_4 =>
                            (extractA 2 v).bind fun v =>
                              (intV IntKind.i64 v).bind fun n_5 =>
                                callB (cw 35 [AV.int IntKind.i64 n_2] st_2)
                                  (fun v st_3 =>
                                    (intV IntKind.i64 v).bind fun n_6 =>
                                      if (n_6 == 0) = true then
                                        if (n == 128) = true then
                                          if (n_1 == 3) = true then
                                            callB (cw 35 [AV.int IntKind.i64 n_5] st_3)
                                              (fun v st_4 =>
                                                (intV IntKind.i64 v).bind fun n =>
                                                  if (n == 0) = true then
                                                    if (n_3 == -2) = true then
                                                      if (n_4 == 1) = true then
                                                        callB (cw 27 [AV.int IntKind.u64 127] st_4)
                                                          (fun v st_5 =>
                                                            (lenSl v).bind fun v =>
                                                              (intV IntKind.i64 v).bind fun n =>
                                                                if (n == 1) = true then
                                                                  callB (cw 28 [AV.int IntKind.i64 64] st_5)
                                                                    (fun v st_6 => (lenSl v).bind fun v => (intV IntKind.i64 v).bind fun n => outL false (st.length) (AOut.ret (AV.bool (n == 2))) st_6) fun v st_6 =>
                                                                    outL false (st.length) (AOut.pan v) st_6
                                                                else outL false (st.length) (AOut.ret (AV.bool false)) st_5)
                                                          fun v st_5 => outL false (st.length) (AOut.pan v) st_5
                                                      else outL false (st.length) (AOut.ret (AV.bool false)) st_4
                                                    else outL false (st.length) (AOut.ret (AV.bool false)) st_4
                                                  else outL false (st.length) (AOut.ret (AV.bool false)) st_4)
                                              fun v st_4 => outL false (st.length) (AOut.pan v) st_4
                                          else outL false (st.length) (AOut.ret (AV.bool false)) st_3
                                        else outL false (st.length) (AOut.ret (AV.bool false)) st_3
                                      else outL false (st.length) (AOut.ret (AV.bool false)) st_3)
                                  fun v st_3 => outL false (st.length) (AOut.pan v) st_3)
                  fun v st_2 => outL false (st.length) (AOut.pan v) st_2)
  fun v st_1 => outL false (st.length) (AOut.pan v) st_1) = some r) :
    cw 36 [] st = some r := callW_of (Eq.trans (by kernel_rfl) h)
/-! stencil/stencillaw0.LendBytes -/
theorem F37 (a0 : AV) (st : St) {r : AOut × St} (h : (callB (cw 41 [a0] (AObj.free 0 :: st))
  (fun v st_1 =>
    bind2 (appendL st_1 (some (st.length + 0, false)) 1 0 v (AV.sl 0 [[AV.int IntKind.u8 173], [AV.int IntKind.u8 77]] 0 2 Tok.exact)) fun v st_2 =>
      (lenSl a0).bind fun v_1 => (intV IntKind.i64 v_1).bind fun n => (sliceSl st_2 0 v none (some (AV.int IntKind.i64 n)) none).bind fun v => bind2 (freezeA st_2 v) fun v st_3 => outL false (st.length) (AOut.ret v) st_3)
  fun v st_1 => outL false (st.length) (AOut.pan v) st_1) = some r) :
    cw 37 [a0] st = some r := callW_of (Eq.trans (by kernel_rfl) h)
/-! stencil/stencilref2.Take -/
abbrev p38_0 : List Dir := [.sr, .sr, .sr, .sr, .sr, .bk]
theorem F38 (b0 : AV) (at1 : Int) (st : St) {r : AOut × St} (h : (if decide (at1 < 0) = true then outL false (st.length) (AOut.ret (AV.tup [AV.int IntKind.u64 0, AV.int IntKind.i64 0, AV.int IntKind.i64 200])) st
else
  (lenSl b0).bind fun v =>
    (intV IntKind.i64 v).bind fun n =>
      if decide (at1 > n) = true then outL false (st.length) (AOut.ret (AV.tup [AV.int IntKind.u64 0, AV.int IntKind.i64 0, AV.int IntKind.i64 200])) st
      else aw 38 (st.length) p38_0 ⟨[(0, b0), (1, AV.int IntKind.i64 at1), (7, AV.int IntKind.u64 0), (8, AV.int IntKind.u64 1), (9, AV.int IntKind.i64 0)], []⟩ st) = some r) :
    cw 38 [b0, AV.int IntKind.i64 at1] st = some r := callW_of (Eq.trans (by kernel_rfl) h)
theorem F38_0 (b0 : AV) (at1 : Int) (x7 : Int) (one8 : Int) (i9 : Int) (base : Nat) (st : St) {r : AOut × St} (h : ((lenSl b0).bind fun v =>
  (intV IntKind.i64 v).bind fun n =>
    if decide (IntKind.i64.wrap (at1 + i9) ≥ n) = true then outL false base (AOut.ret (AV.tup [AV.int IntKind.u64 0, AV.int IntKind.i64 0, AV.int IntKind.i64 200])) st
    else
      (natA (AV.int IntKind.i64 (IntKind.i64.wrap (at1 + i9)))).bind fun j =>
        (idxSl st 0 b0 j).bind fun v =>
          (readA st v 1 false).bind fun v =>
            (intV IntKind.u8 v).bind fun n =>
              if (i9 == 9) = true then
                if decide (IntKind.u64.wrap n > 1) = true then outL false base (AOut.ret (AV.tup [AV.int IntKind.u64 0, AV.int IntKind.i64 0, AV.int IntKind.i64 201])) st
                else
                  if decide (IntKind.u64.wrap n < 128) = true then
                    if (IntKind.u64.wrap n == 0) = true then
                      if decide (i9 > 0) = true then outL false base (AOut.ret (AV.tup [AV.int IntKind.u64 0, AV.int IntKind.i64 0, AV.int IntKind.i64 201])) st
                      else
                        outL false base
                          (AOut.ret
                            (AV.tup [AV.int IntKind.u64 (IntKind.u64.wrap (x7 + IntKind.u64.wrap (one8 * (IntKind.u64.wrap n).tmod 128))), AV.int IntKind.i64 (IntKind.i64.wrap (IntKind.i64.wrap (at1 + i9) + 1)), AV.int IntKind.i64 0]))
                          st
                    else
                      outL false base
                        (AOut.ret
                          (AV.tup [AV.int IntKind.u64 (IntKind.u64.wrap (x7 + IntKind.u64.wrap (one8 * (IntKind.u64.wrap n).tmod 128))), AV.int IntKind.i64 (IntKind.i64.wrap (IntKind.i64.wrap (at1 + i9) + 1)), AV.int IntKind.i64 0]))
                        st
                  else
                    aw 38 base p38_0
                      {
                        env :=
                          [(0, b0), (1, AV.int IntKind.i64 at1), (7, AV.int IntKind.u64 (IntKind.u64.wrap (x7 + IntKind.u64.wrap (one8 * (IntKind.u64.wrap n).tmod 128)))), (8, AV.int IntKind.u64 (IntKind.u64.wrap (one8 * 128))),
                            (9, AV.int IntKind.i64 (IntKind.i64.wrap (i9 + 1)))],
                        defers := [] }
                      st
              else
                if decide (IntKind.u64.wrap n < 128) = true then
                  if (IntKind.u64.wrap n == 0) = true then
                    if decide (i9 > 0) = true then outL false base (AOut.ret (AV.tup [AV.int IntKind.u64 0, AV.int IntKind.i64 0, AV.int IntKind.i64 201])) st
                    else
                      outL false base
                        (AOut.ret
                          (AV.tup [AV.int IntKind.u64 (IntKind.u64.wrap (x7 + IntKind.u64.wrap (one8 * (IntKind.u64.wrap n).tmod 128))), AV.int IntKind.i64 (IntKind.i64.wrap (IntKind.i64.wrap (at1 + i9) + 1)), AV.int IntKind.i64 0]))
                        st
                  else
                    outL false base
                      (AOut.ret (AV.tup [AV.int IntKind.u64 (IntKind.u64.wrap (x7 + IntKind.u64.wrap (one8 * (IntKind.u64.wrap n).tmod 128))), AV.int IntKind.i64 (IntKind.i64.wrap (IntKind.i64.wrap (at1 + i9) + 1)), AV.int IntKind.i64 0]))
                      st
                else
                  aw 38 base p38_0
                    {
                      env :=
                        [(0, b0), (1, AV.int IntKind.i64 at1), (7, AV.int IntKind.u64 (IntKind.u64.wrap (x7 + IntKind.u64.wrap (one8 * (IntKind.u64.wrap n).tmod 128)))), (8, AV.int IntKind.u64 (IntKind.u64.wrap (one8 * 128))),
                          (9, AV.int IntKind.i64 (IntKind.i64.wrap (i9 + 1)))],
                      defers := [] }
                    st) = some r) :
    aw 38 base p38_0 ⟨[(0, b0), (1, AV.int IntKind.i64 at1), (7, AV.int IntKind.u64 x7), (8, AV.int IntKind.u64 one8), (9, AV.int IntKind.i64 i9)], []⟩ st = some r := atW_of (Eq.trans (by kernel_rfl) h)
/-! stencil/stencilref2.TakeInt -/
theorem F39 (b0 : AV) (at1 : Int) (st : St) {r : AOut × St} (h : (callB (cw 38 [b0, AV.int IntKind.i64 at1] st)
  (fun v st_1 =>
    (extractA 0 v).bind fun v_1 =>
      (intV IntKind.u64 v_1).bind fun n =>
        (extractA 1 v).bind fun v_2 =>
          (intV IntKind.i64 v_2).bind fun n_1 =>
            (extractA 2 v).bind fun v =>
              (intV IntKind.i64 v).bind fun n_2 =>
                if (n_2 != 0) = true then outL false (st.length) (AOut.ret (AV.tup [AV.int IntKind.i64 0, AV.int IntKind.i64 0, AV.int IntKind.i64 n_2])) st_1
                else
                  if (n.tmod 2 == 0) = true then outL false (st.length) (AOut.ret (AV.tup [AV.int IntKind.i64 (IntKind.i64.wrap (IntKind.u64.wrap (n.tdiv 2))), AV.int IntKind.i64 n_1, AV.int IntKind.i64 0])) st_1
                  else outL false (st.length) (AOut.ret (AV.tup [AV.int IntKind.i64 (IntKind.i64.wrap (IntKind.i64.wrap (0 - IntKind.i64.wrap (IntKind.u64.wrap (n.tdiv 2))) - 1)), AV.int IntKind.i64 n_1, AV.int IntKind.i64 0])) st_1)
  fun v st_1 => outL false (st.length) (AOut.pan v) st_1) = some r) :
    cw 39 [b0, AV.int IntKind.i64 at1] st = some r := callW_of (Eq.trans (by kernel_rfl) h)
/-! stencil/stencillaw0.KeptBytes -/
theorem F40 (lent0 : AV) (a1 : AV) (st : St) {r : AOut × St} (h : ((lenSl lent0).bind fun v =>
  (intV IntKind.i64 v).bind fun n =>
    (sliceSl st 0 lent0 none (some (AV.int IntKind.i64 (IntKind.i64.wrap (n + 2)))) none).bind fun v =>
      callB (cw 29 [lent0, a1] st)
        (fun v_1 st_1 =>
          (boolV v_1).bind fun b =>
            if b = true then
              (lenSl a1).bind fun v_2 =>
                (intV IntKind.i64 v_2).bind fun n =>
                  (natA (AV.int IntKind.i64 n)).bind fun j =>
                    (idxSl st_1 0 v j).bind fun v_3 =>
                      (readA st_1 v_3 1 false).bind fun v_4 =>
                        (intV IntKind.u8 v_4).bind fun n =>
                          if (n == 173) = true then
                            (lenSl a1).bind fun v_5 =>
                              (intV IntKind.i64 v_5).bind fun n =>
                                (natA (AV.int IntKind.i64 (IntKind.i64.wrap (n + 1)))).bind fun j =>
                                  (idxSl st_1 0 v j).bind fun v => (readA st_1 v 1 false).bind fun v => (intV IntKind.u8 v).bind fun n => outL false (st.length) (AOut.ret (AV.bool (n == 77))) st_1
                          else outL false (st.length) (AOut.ret (AV.bool false)) st_1
            else outL false (st.length) (AOut.ret (AV.bool false)) st_1)
        fun v st_1 => outL false (st.length) (AOut.pan v) st_1) = some r) :
    cw 40 [lent0, a1] st = some r := callW_of (Eq.trans (by kernel_rfl) h)
/-! stencil/stencillaw0.CopyBytes -/
theorem F41 (a0 : AV) (st : St) {r : AOut × St} (h : (bind2 (appendL (AObj.free 0 :: st) (some (st.length + 0, false)) 1 0 (AV.sl 0 [] 0 0 Tok.exact) a0) fun v st_1 => bind2 (freezeA st_1 v) fun v st_2 => outL true (st.length) (AOut.ret v) st_2) = some r) :
    cw 41 [a0] st = some r := callW_of (Eq.trans (by kernel_rfl) h)
end Go.Abs
