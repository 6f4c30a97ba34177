/- What each function comes to, by value. Printed by a tool of this claim's author; each equation is checked by the kernel. -/
import Derived.Test.YtahpohhadcflfaaZHints
import Derived.Test.YtahpohhadcflfaaZC
import Derived.KernelRfl
namespace Go.Abs
open Go Go.Proofs
set_option linter.unusedVariables false
noncomputable abbrev cw := callW Try.prog tryhints
noncomputable abbrev aw := atW Try.prog tryhints
/-! stencil/stencillaw0.LendInts -/
theorem F9 (a0 : AV) (st : St) {r : AOut × St} (h : (callB (cw 21 [a0] (AObj.free 0 :: st))
  (fun v st_1 =>
    bind2 (appendL st_1 (some (st.length + 0, false)) 8 1 v (AV.sl 1 [[AV.int IntKind.i64 (-7777)], [AV.int IntKind.i64 (-8888)]] 0 2 Tok.exact)) fun v st_2 =>
      (lenSl a0).bind fun v_1 => (intV IntKind.i64 v_1).bind fun n => (sliceSl st_2 1 v none (some (AV.int IntKind.i64 n)) none).bind fun v => bind2 (freezeA st_2 v) fun v st_3 => outL false (st.length) (AOut.ret v) st_3)
  fun v st_1 => outL false (st.length) (AOut.pan v) st_1) = some r) :
    cw 9 [a0] st = some r := callW_of (Eq.trans (by kernel_rfl) h)
/-! stencil/lis.Longest -/
abbrev p10_0 : List Dir := [.sr, .sr, .sr, .sl, .sr, .bk]
abbrev p10_1 : List Dir := [.sr, .sr, .sr, .sr, .sr, .sl, .sr, .bk]
theorem F10 (xs0 : AV) (st : St) {r : AOut × St} (h : (callB (cw 32 [xs0] (AObj.free 0 :: st))
  (fun v st_1 =>
    (lenSl v).bind fun v_1 =>
      (intV IntKind.i64 v_1).bind fun n => aw 10 (st.length) p10_0 { env := [(0, xs0), (3, v), (4, AV.int IntKind.i64 0), (12, v), (13, AV.int IntKind.i64 n), (14, AV.int IntKind.i64 0)], defers := [] } st_1)
  fun v st_1 => outL true (st.length) (AOut.pan v) st_1) = some r) :
    cw 10 [xs0] st = some r := callW_of (Eq.trans (by kernel_rfl) h)
theorem F10_0 (xs0 : AV) (long3 : AV) (want4 : Int) (v12 : AV) (v13 : Int) (v14 : Int) (base : Nat) (st : St) {r : AOut × St} (h : (if decide (v14 < v13) = true then
  (natA (AV.int IntKind.i64 v14)).bind fun j =>
    (idxSl st 1 v12 j).bind fun v =>
      (readA st v 1 false).bind fun v =>
        (intV IntKind.i64 v).bind fun n =>
          aw 10 base p10_0
            { env := [(0, xs0), (3, long3), (4, AV.int IntKind.i64 (if n > want4 then n else want4)), (12, v12), (13, AV.int IntKind.i64 v13), (14, AV.int IntKind.i64 (IntKind.i64.wrap (v14 + 1)))], defers := [] } st
else
  (lenSl long3).bind fun v =>
    (intV IntKind.i64 v).bind fun n => aw 10 base p10_1 { env := [(0, xs0), (4, AV.int IntKind.i64 want4), (7, AV.nils), (22, long3), (23, AV.int IntKind.i64 n), (24, AV.int IntKind.i64 0)], defers := [] } st) = some r) :
    aw 10 base p10_0 { env := [(0, xs0), (3, long3), (4, AV.int IntKind.i64 want4), (12, v12), (13, AV.int IntKind.i64 v13), (14, AV.int IntKind.i64 v14)], defers := [] } st = some r := atW_of (Eq.trans (by kernel_rfl) h)
theorem F10_1 (xs0 : AV) (want4 : Int) (out7 : AV) (v22 : AV) (v23 : Int) (v24 : Int) (base : Nat) (st : St) {r : AOut × St} (h : (if decide (v24 < v23) = true then
  (natA (AV.int IntKind.i64 v24)).bind fun j =>
    (idxSl st 1 v22 j).bind fun v =>
      (readA st v 1 false).bind fun v =>
        (intV IntKind.i64 v).bind fun n =>
          if (n == want4) = true then
            if decide (want4 > 0) = true then
              (lenSl out7).bind fun v =>
                (intV IntKind.i64 v).bind fun n =>
                  if (n == 0) = true then
                    bind2 (appendL st (some (base + 0, true)) 8 1 out7 (AV.sl 1 [[AV.int IntKind.i64 v24]] 0 1 Tok.exact)) fun v st =>
                      aw 10 base p10_1
                        { env := [(0, xs0), (4, AV.int IntKind.i64 (IntKind.i64.wrap (want4 - 1))), (7, v), (22, v22), (23, AV.int IntKind.i64 v23), (24, AV.int IntKind.i64 (IntKind.i64.wrap (v24 + 1)))], defers := [] } st
                  else
                    (natA (AV.int IntKind.i64 v24)).bind fun j =>
                      (idxSl st 1 xs0 j).bind fun v =>
                        (readA st v 1 false).bind fun v =>
                          (intV IntKind.i64 v).bind fun n =>
                            (lenSl out7).bind fun v =>
                              (intV IntKind.i64 v).bind fun n_1 =>
                                (natA (AV.int IntKind.i64 (IntKind.i64.wrap (n_1 - 1)))).bind fun j =>
                                  (idxSl st 1 out7 j).bind fun v =>
                                    (readA st v 1 false).bind fun v =>
                                      (intV IntKind.i64 v).bind fun n_2 =>
                                        (natA (AV.int IntKind.i64 n_2)).bind fun j =>
                                          (idxSl st 1 xs0 j).bind fun v =>
                                            (readA st v 1 false).bind fun v =>
                                              (intV IntKind.i64 v).bind fun n_3 =>
                                                if decide (n > n_3) = true then
                                                  bind2 (appendL st (some (base + 0, true)) 8 1 out7 (AV.sl 1 [[AV.int IntKind.i64 v24]] 0 1 Tok.exact)) fun v st =>
                                                    aw 10 base p10_1
                                                      { env := [(0, xs0), (4, AV.int IntKind.i64 (IntKind.i64.wrap (want4 - 1))), (7, v), (22, v22), (23, AV.int IntKind.i64 v23), (24, AV.int IntKind.i64 (IntKind.i64.wrap (v24 + 1)))],
                                                        defers := [] }
                                                      st
                                                else
                                                  aw 10 base p10_1
                                                    { env := [(0, xs0), (4, AV.int IntKind.i64 want4), (7, out7), (22, v22), (23, AV.int IntKind.i64 v23), (24, AV.int IntKind.i64 (IntKind.i64.wrap (v24 + 1)))], defers := [] } st
            else aw 10 base p10_1 { env := [(0, xs0), (4, AV.int IntKind.i64 want4), (7, out7), (22, v22), (23, AV.int IntKind.i64 v23), (24, AV.int IntKind.i64 (IntKind.i64.wrap (v24 + 1)))], defers := [] } st
          else aw 10 base p10_1 { env := [(0, xs0), (4, AV.int IntKind.i64 want4), (7, out7), (22, v22), (23, AV.int IntKind.i64 v23), (24, AV.int IntKind.i64 (IntKind.i64.wrap (v24 + 1)))], defers := [] } st
else outL true base (AOut.ret out7) st) = some r) :
    aw 10 base p10_1 { env := [(0, xs0), (4, AV.int IntKind.i64 want4), (7, out7), (22, v22), (23, AV.int IntKind.i64 v23), (24, AV.int IntKind.i64 v24)], defers := [] } st = some r := atW_of (Eq.trans (by kernel_rfl) h)
/-! stencil/stencilref9.Longest -/
abbrev p11_0 : List Dir := [.sr, .sr, .sr, .sl, .sr, .bk]
abbrev p11_1 : List Dir := [.sr, .sr, .sr, .sl, .sr, .bk, .lp 0, .sr, .sl, .bk, .sr, .sl, .sr, .bk]
abbrev p11_2 : List Dir := [.sr, .sr, .sr, .sr, .sr, .sl, .sr, .bk]
theorem F11 (xs0 : AV) (st : St) {r : AOut × St} (h : ((lenSl xs0).bind fun v =>
  (intV IntKind.i64 v).bind fun n =>
    bind2 (makeSl (AObj.free 0 :: st) none 8 1 [AV.int IntKind.i64 0] (AV.int IntKind.i64 n) (AV.int IntKind.i64 n)) fun v st_1 =>
      (lenSl xs0).bind fun v_1 =>
        (intV IntKind.i64 v_1).bind fun n => aw 11 (st.length) p11_0 { env := [(0, xs0), (3, v), (4, AV.int IntKind.i64 0), (5, AV.int IntKind.i64 (IntKind.i64.wrap (n - 1)))], defers := [] } st_1) = some r) :
    cw 11 [xs0] st = some r := callW_of (Eq.trans (by kernel_rfl) h)
theorem F11_0 (xs0 : AV) (long3 : AV) (best4 : Int) (i5 : Int) (base : Nat) (st : St) {r : AOut × St} (h : (if decide (i5 ≥ 0) = true then
  (natA (AV.int IntKind.i64 i5)).bind fun j =>
    (idxSl st 1 long3 j).bind fun v =>
      (writeA st v [AV.int IntKind.i64 1]).bind fun st =>
        aw 11 base p11_1 { env := [(0, xs0), (3, long3), (4, AV.int IntKind.i64 best4), (5, AV.int IntKind.i64 i5), (6, AV.int IntKind.i64 (IntKind.i64.wrap (i5 + 1)))], defers := [] } st
else aw 11 base p11_2 { env := [(0, xs0), (3, long3), (4, AV.int IntKind.i64 best4), (7, AV.nils), (8, AV.int IntKind.i64 0)], defers := [] } st) = some r) :
    aw 11 base p11_0 { env := [(0, xs0), (3, long3), (4, AV.int IntKind.i64 best4), (5, AV.int IntKind.i64 i5)], defers := [] } st = some r := atW_of (Eq.trans (by kernel_rfl) h)
theorem F11_1 (xs0 : AV) (long3 : AV) (best4 : Int) (i5 : Int) (k6 : Int) (base : Nat) (st : St) {r : AOut × St} (h : ((lenSl xs0).bind fun v =>
  (intV IntKind.i64 v).bind fun n =>
    if decide (k6 < n) = true then
      (natA (AV.int IntKind.i64 k6)).bind fun j =>
        (idxSl st 1 xs0 j).bind fun v =>
          (readA st v 1 false).bind fun v =>
            (intV IntKind.i64 v).bind fun n =>
              (natA (AV.int IntKind.i64 i5)).bind fun j =>
                (idxSl st 1 xs0 j).bind fun v =>
                  (readA st v 1 false).bind fun v =>
                    (intV IntKind.i64 v).bind fun n_1 =>
                      if decide (n > n_1) = true then
                        (natA (AV.int IntKind.i64 k6)).bind fun j =>
                          (idxSl st 1 long3 j).bind fun v =>
                            (readA st v 1 false).bind fun v =>
                              (intV IntKind.i64 v).bind fun n =>
                                (natA (AV.int IntKind.i64 i5)).bind fun j =>
                                  (idxSl st 1 long3 j).bind fun v =>
                                    (readA st v 1 false).bind fun v =>
                                      (intV IntKind.i64 v).bind fun n_2 =>
                                        if decide (IntKind.i64.wrap (n + 1) > n_2) = true then
                                          (natA (AV.int IntKind.i64 k6)).bind fun j =>
                                            (idxSl st 1 long3 j).bind fun v =>
                                              (readA st v 1 false).bind fun v =>
                                                (intV IntKind.i64 v).bind fun n =>
                                                  (natA (AV.int IntKind.i64 i5)).bind fun j =>
                                                    (idxSl st 1 long3 j).bind fun v =>
                                                      (writeA st v [AV.int IntKind.i64 (IntKind.i64.wrap (n + 1))]).bind fun st =>
                                                        aw 11 base p11_1
                                                          { env := [(0, xs0), (3, long3), (4, AV.int IntKind.i64 best4), (5, AV.int IntKind.i64 i5), (6, AV.int IntKind.i64 (IntKind.i64.wrap (k6 + 1)))], defers := [] } st
                                        else
                                          aw 11 base p11_1 { env := [(0, xs0), (3, long3), (4, AV.int IntKind.i64 best4), (5, AV.int IntKind.i64 i5), (6, AV.int IntKind.i64 (IntKind.i64.wrap (k6 + 1)))], defers := [] } st
                      else aw 11 base p11_1 { env := [(0, xs0), (3, long3), (4, AV.int IntKind.i64 best4), (5, AV.int IntKind.i64 i5), (6, AV.int IntKind.i64 (IntKind.i64.wrap (k6 + 1)))], defers := [] } st
    else
      (natA (AV.int IntKind.i64 i5)).bind fun j =>
        (idxSl st 1 long3 j).bind fun v =>
          (readA st v 1 false).bind fun v =>
            (intV IntKind.i64 v).bind fun n =>
              aw 11 base p11_0 { env := [(0, xs0), (3, long3), (4, AV.int IntKind.i64 (if n > best4 then n else best4)), (5, AV.int IntKind.i64 (IntKind.i64.wrap (i5 - 1)))], defers := [] } st) = some r) :
    aw 11 base p11_1 { env := [(0, xs0), (3, long3), (4, AV.int IntKind.i64 best4), (5, AV.int IntKind.i64 i5), (6, AV.int IntKind.i64 k6)], defers := [] } st = some r := atW_of (Eq.trans (by kernel_rfl) h)
theorem F11_2 (xs0 : AV) (long3 : AV) (best4 : Int) (out7 : AV) (i8 : Int) (base : Nat) (st : St) {r : AOut × St} (h : ((lenSl xs0).bind fun v =>
  (intV IntKind.i64 v).bind fun n =>
    if decide (i8 < n) = true then
      if decide (best4 > 0) = true then
        (natA (AV.int IntKind.i64 i8)).bind fun j =>
          (idxSl st 1 long3 j).bind fun v =>
            (readA st v 1 false).bind fun v =>
              (intV IntKind.i64 v).bind fun n =>
                if (n == best4) = true then
                  (lenSl out7).bind fun v =>
                    (intV IntKind.i64 v).bind fun n =>
                      if (n == 0) = true then
                        bind2 (appendL st (some (base + 0, false)) 8 1 out7 (AV.sl 1 [[AV.int IntKind.i64 i8]] 0 1 Tok.exact)) fun v st =>
                          aw 11 base p11_2 { env := [(0, xs0), (3, long3), (4, AV.int IntKind.i64 (IntKind.i64.wrap (best4 - 1))), (7, v), (8, AV.int IntKind.i64 (IntKind.i64.wrap (i8 + 1)))], defers := [] } st
                      else
                        (natA (AV.int IntKind.i64 i8)).bind fun j =>
                          (idxSl st 1 xs0 j).bind fun v =>
                            (readA st v 1 false).bind fun v =>
                              (intV IntKind.i64 v).bind fun n =>
                                (lenSl out7).bind fun v =>
                                  (intV IntKind.i64 v).bind fun n_1 =>
                                    (natA (AV.int IntKind.i64 (IntKind.i64.wrap (n_1 - 1)))).bind fun j =>
                                      (idxSl st 1 out7 j).bind fun v =>
                                        (readA st v 1 false).bind fun v =>
                                          (intV IntKind.i64 v).bind fun n_2 =>
                                            (natA (AV.int IntKind.i64 n_2)).bind fun j =>
                                              (idxSl st 1 xs0 j).bind fun v =>
                                                (readA st v 1 false).bind fun v =>
                                                  (intV IntKind.i64 v).bind fun n_3 =>
                                                    if decide (n > n_3) = true then
                                                      bind2 (appendL st (some (base + 0, false)) 8 1 out7 (AV.sl 1 [[AV.int IntKind.i64 i8]] 0 1 Tok.exact)) fun v st =>
                                                        aw 11 base p11_2
                                                          { env := [(0, xs0), (3, long3), (4, AV.int IntKind.i64 (IntKind.i64.wrap (best4 - 1))), (7, v), (8, AV.int IntKind.i64 (IntKind.i64.wrap (i8 + 1)))], defers := [] } st
                                                    else aw 11 base p11_2 { env := [(0, xs0), (3, long3), (4, AV.int IntKind.i64 best4), (7, out7), (8, AV.int IntKind.i64 (IntKind.i64.wrap (i8 + 1)))], defers := [] } st
                else aw 11 base p11_2 { env := [(0, xs0), (3, long3), (4, AV.int IntKind.i64 best4), (7, out7), (8, AV.int IntKind.i64 (IntKind.i64.wrap (i8 + 1)))], defers := [] } st
      else bind2 (freezeA st out7) fun v st => outL false base (AOut.ret v) st
    else bind2 (freezeA st out7) fun v st => outL false base (AOut.ret v) st) = some r) :
    aw 11 base p11_2 { env := [(0, xs0), (3, long3), (4, AV.int IntKind.i64 best4), (7, out7), (8, AV.int IntKind.i64 i8)], defers := [] } st = some r := atW_of (Eq.trans (by kernel_rfl) h)
/-! stencil/stencillaw0.SameInts -/
abbrev p12_0 : List Dir := [.sr, .sr, .sl, .sr, .bk]
theorem F12 (a0 : AV) (b1 : AV) (st : St) {r : AOut × St} (h : ((lenSl a0).bind fun v =>
  (intV IntKind.i64 v).bind fun n =>
    (lenSl b1).bind fun v =>
      (intV IntKind.i64 v).bind fun n_1 =>
        if (n != n_1) = true then outL false (st.length) (AOut.ret (AV.bool false)) st else aw 12 (st.length) p12_0 { env := [(0, a0), (1, b1), (5, AV.int IntKind.i64 0)], defers := [] } st) = some r) :
    cw 12 [a0, b1] st = some r := callW_of (Eq.trans (by kernel_rfl) h)
theorem F12_0 (a0 : AV) (b1 : AV) (i5 : Int) (base : Nat) (st : St) {r : AOut × St} (h : ((lenSl a0).bind fun v =>
  (intV IntKind.i64 v).bind fun n =>
    if decide (i5 < n) = true then
      (natA (AV.int IntKind.i64 i5)).bind fun j =>
        (idxSl st 1 a0 j).bind fun v =>
          (readA st v 1 false).bind fun v =>
            (intV IntKind.i64 v).bind fun n =>
              (natA (AV.int IntKind.i64 i5)).bind fun j =>
                (idxSl st 1 b1 j).bind fun v =>
                  (readA st v 1 false).bind fun v =>
                    (intV IntKind.i64 v).bind fun n_1 =>
                      if (n != n_1) = true then outL false base (AOut.ret (AV.bool false)) st else aw 12 base p12_0 { env := [(0, a0), (1, b1), (5, AV.int IntKind.i64 (IntKind.i64.wrap (i5 + 1)))], defers := [] } st
    else outL false base (AOut.ret (AV.bool true)) st) = some r) :
    aw 12 base p12_0 { env := [(0, a0), (1, b1), (5, AV.int IntKind.i64 i5)], defers := [] } st = some r := atW_of (Eq.trans (by kernel_rfl) h)
/-! stencil/stencillaw0.KeptInts -/
theorem F13 (lent0 : AV) (a1 : AV) (st : St) {r : AOut × St} (h : ((lenSl lent0).bind fun v =>
  (intV IntKind.i64 v).bind fun n =>
    (sliceSl st 1 lent0 none (some (AV.int IntKind.i64 (IntKind.i64.wrap (n + 2)))) none).bind fun v =>
      callB (cw 12 [lent0, a1] st)
        (fun v_1 st_1 =>
          (boolV v_1).bind fun b =>
            if b = true then
              (lenSl a1).bind fun v_2 =>
                (intV IntKind.i64 v_2).bind fun n =>
                  (natA (AV.int IntKind.i64 n)).bind fun j =>
                    (idxSl st_1 1 v j).bind fun v_3 =>
                      (readA st_1 v_3 1 false).bind fun v_4 =>
                        (intV IntKind.i64 v_4).bind fun n =>
                          if (n == -7777) = true then
                            (lenSl a1).bind fun v_5 =>
                              (intV IntKind.i64 v_5).bind fun n =>
                                (natA (AV.int IntKind.i64 (IntKind.i64.wrap (n + 1)))).bind fun j =>
                                  (idxSl st_1 1 v j).bind fun v => (readA st_1 v 1 false).bind fun v => (intV IntKind.i64 v).bind fun n => outL false (st.length) (AOut.ret (AV.bool (n == -8888))) st_1
                          else outL false (st.length) (AOut.ret (AV.bool false)) st_1
            else outL false (st.length) (AOut.ret (AV.bool false)) st_1)
        fun v st_1 => outL false (st.length) (AOut.pan v) st_1) = some r) :
    cw 13 [lent0, a1] st = some r := callW_of (Eq.trans (by kernel_rfl) h)
/-! stencil/stencillaw0.SpoilInts -/
abbrev p14_0 : List Dir := [.sr, .bk]
theorem F14 (a0 : AV) (st : St) {r : AOut × St} (h : (aw 14 (st.length) p14_0 { env := [(0, a0), (2, AV.int IntKind.i64 0)], defers := [] } st) = some r) :
    cw 14 [a0] st = some r := callW_of (Eq.trans (by kernel_rfl) h)
theorem F14_0 (a0 : AV) (i2 : Int) (base : Nat) (st : St) {r : AOut × St} (h : ((lenSl a0).bind fun v =>
  (intV IntKind.i64 v).bind fun n =>
    if decide (i2 < n) = true then
      (natA (AV.int IntKind.i64 i2)).bind fun j =>
        (idxSl st 1 a0 j).bind fun v =>
          (readA st v 1 false).bind fun v =>
            (intV IntKind.i64 v).bind fun n =>
              (natA (AV.int IntKind.i64 i2)).bind fun j =>
                (idxSl st 1 a0 j).bind fun v =>
                  (writeA st v [AV.int IntKind.i64 (IntKind.i64.wrap (-9 - n))]).bind fun st => aw 14 base p14_0 { env := [(0, a0), (2, AV.int IntKind.i64 (IntKind.i64.wrap (i2 + 1)))], defers := [] } st
    else outL false base (AOut.ret (AV.tup [])) st) = some r) :
    aw 14 base p14_0 { env := [(0, a0), (2, AV.int IntKind.i64 i2)], defers := [] } st = some r := atW_of (Eq.trans (by kernel_rfl) h)
/-! stencil/stencillaw9.awake -/
theorem F15 (st : St) {r : AOut × St} (h : (callB (cw 10 [AV.sl 1 [[AV.int IntKind.i64 5], [AV.int IntKind.i64 1], [AV.int IntKind.i64 6], [AV.int IntKind.i64 2]] 0 4 Tok.exact] st)
  (fun v st_1 =>
    callB (cw 33 [AV.int IntKind.i64 1] st_1)
      (fun v_1 st_2 =>
        callB (cw 33 [AV.int IntKind.i64 2] st_2)
          (fun v_2 st_3 =>
            callB (cw 33 [AV.int IntKind.i64 3] st_3)
              (fun v_3 st_4 =>
                (cellsV 3 v_1).bind fun cs =>
                  (cellsV 3 v_2).bind fun cs_1 =>
                    (cellsV 3 v_3).bind fun cs_2 =>
                      callB (cw 33 [AV.int IntKind.i64 3] st_4)
                        (fun v_4 st_5 =>
                          callB (cw 33 [AV.int IntKind.i64 1] st_5)
                            (fun v_5 st_6 =>
                              callB (cw 33 [AV.int IntKind.i64 2] st_6)
                                (fun v_6 st_7 =>
                                  (cellsV 3 v_4).bind fun cs_3 =>
                                    (cellsV 3 v_5).bind fun cs_4 =>
                                      (cellsV 3 v_6).bind fun cs_5 =>
                                        callB
                                          (cw 17
                                            [AV.sl 3 [List.map AV.strip cs, List.map AV.strip cs_1, List.map AV.strip cs_2] 0 3 Tok.exact, AV.sl 3 [List.map AV.strip cs_3, List.map AV.strip cs_4, List.map AV.strip cs_5] 0 3 Tok.exact] st_7)
                                          (fun v_7 st_8 =>
                                            (extractA 0 v_7).bind fun v_8 =>
                                              (intV IntKind.i64 v_8).bind fun n =>
                                                (extractA 1 v_7).bind fun v_9 =>
                                                  (intV IntKind.i64 v_9).bind fun n_1 =>
                                                    (extractA 2 v_7).bind fun v_10 =>
                                                      (intV IntKind.i64 v_10).bind fun n_2 =>
                                                        callB (cw 12 [v, AV.sl 1 [[AV.int IntKind.i64 0], [AV.int IntKind.i64 2]] 0 2 Tok.exact] st_8)
                                                          (fun v st_9 =>
                                                            (boolV v).bind fun b =>
                                                              if b = true then
                                                                if (n == 3) = true then
                                                                  if (n_1 == 1) = true then
                                                                    callB (cw 19 [AV.int IntKind.i64 n_2] st_9)
                                                                      (fun v st_10 => (intV IntKind.i64 v).bind fun n => outL false (st.length) (AOut.ret (AV.bool (n == 0))) st_10) fun v st_10 =>
                                                                      outL false (st.length) (AOut.pan v) st_10
                                                                  else outL false (st.length) (AOut.ret (AV.bool false)) st_9
                                                                else outL false (st.length) (AOut.ret (AV.bool false)) st_9
                                                              else outL false (st.length) (AOut.ret (AV.bool false)) st_9)
                                                          fun v st_9 => outL false (st.length) (AOut.pan v) st_9)
                                          fun v st_8 => outL false (st.length) (AOut.pan v) st_8)
                                fun v st_7 => outL false (st.length) (AOut.pan v) st_7)
                            fun v st_6 => outL false (st.length) (AOut.pan v) st_6)
                        fun v st_5 => outL false (st.length) (AOut.pan v) st_5)
              fun v st_4 => outL false (st.length) (AOut.pan v) st_4)
          fun v st_3 => outL false (st.length) (AOut.pan v) st_3)
      fun v st_2 => outL false (st.length) (AOut.pan v) st_2)
  fun v st_1 => outL false (st.length) (AOut.pan v) st_1) = some r) :
    cw 15 [] st = some r := callW_of (Eq.trans (by kernel_rfl) h)
/-! stencil/stencillaw0.LendKeys -/
theorem F16 (a0 : AV) (st : St) {r : AOut × St} (h : (callB (cw 22 [a0] (AObj.free 0 :: st))
  (fun v st_1 =>
    (cellsV 3 (AV.agg [AV.int IntKind.i64 (-7), AV.int IntKind.i64 0, AV.str []])).bind fun cs =>
      (cellsV 3 (AV.agg [AV.int IntKind.i64 (-7), AV.int IntKind.i64 0, AV.str []])).bind fun cs_1 =>
        bind2 (appendL st_1 (some (st.length + 0, false)) 32 3 v (AV.sl 3 [List.map AV.strip cs, List.map AV.strip cs_1] 0 2 Tok.exact)) fun v st_2 =>
          (lenSl a0).bind fun v_1 => (intV IntKind.i64 v_1).bind fun n => (sliceSl st_2 3 v none (some (AV.int IntKind.i64 n)) none).bind fun v => bind2 (freezeA st_2 v) fun v st_3 => outL false (st.length) (AOut.ret v) st_3)
  fun v st_1 => outL false (st.length) (AOut.pan v) st_1) = some r) :
    cw 16 [a0] st = some r := callW_of (Eq.trans (by kernel_rfl) h)
/-! stencil/lis.Moves -/
abbrev p17_0 : List Dir := [.sr, .sr, .sr, .sr, .sr, .sl, .sr, .bk]
theorem F17 (olds0 : AV) (news1 : AV) (st : St) {r : AOut × St} (h : (callB (cw 34 [olds0] (AObj.free 0 :: st))
  (fun v st_1 =>
    (extractA 0 v).bind fun v_1 =>
      (extractA 1 v).bind fun v =>
        (boolV v).bind fun b =>
          callB (cw 34 [news1] st_1)
            (fun v st_2 =>
              (extractA 0 v).bind fun v_2 =>
                (extractA 1 v).bind fun v =>
                  (boolV v).bind fun b_1 =>
                    if (!b) = true then outL false (st.length) (AOut.ret (AV.tup [AV.int IntKind.i64 0, AV.int IntKind.i64 0, AV.int IntKind.i64 900])) st_2
                    else
                      if (!b_1) = true then outL false (st.length) (AOut.ret (AV.tup [AV.int IntKind.i64 0, AV.int IntKind.i64 0, AV.int IntKind.i64 900])) st_2
                      else
                        (lenSl news1).bind fun v =>
                          (intV IntKind.i64 v).bind fun n => aw 17 (st.length) p17_0 { env := [(7, v_1), (11, AV.nils), (32, news1), (33, AV.int IntKind.i64 n), (34, AV.int IntKind.i64 0)], defers := [] } st_2)
            fun v st_2 => outL false (st.length) (AOut.pan v) st_2)
  fun v st_1 => outL false (st.length) (AOut.pan v) st_1) = some r) :
    cw 17 [olds0, news1] st = some r := callW_of (Eq.trans (by kernel_rfl) h)
theorem F17_0 (at7 : AV) (xs11 : AV) (v32 : AV) (v33 : Int) (v34 : Int) (base : Nat) (st : St) {r : AOut × St} (h : (if decide (v34 < v33) = true then
  (natA (AV.int IntKind.i64 v34)).bind fun j =>
    (idxSl st 3 v32 j).bind fun v =>
      (readA st v 3 true).bind fun v =>
        (cellsV 3 v).bind fun cs =>
          (writeA (AObj.box 57 [AV.int IntKind.i64 0, AV.int IntKind.i64 0, AV.str []] :: st) (AV.bp (st.length) 0) cs).bind fun st_1 =>
            (readA st_1 (AV.bp (st.length) 0) 3 true).bind fun v =>
              (lookupA Try.prog st_1 59 at7 v true).bind fun v =>
                (extractA 0 v).bind fun v_1 =>
                  (intV IntKind.i64 v_1).bind fun n =>
                    (extractA 1 v).bind fun v =>
                      (boolV v).bind fun b =>
                        if b = true then
                          bind2 (appendL st_1 (some (base + 0, false)) 8 1 xs11 (AV.sl 1 [[AV.int IntKind.i64 n]] 0 1 Tok.exact)) fun v st_2 =>
                            (roundV (st.length) { env := [(7, at7), (11, v), (32, v32), (33, AV.int IntKind.i64 v33), (34, AV.int IntKind.i64 (IntKind.i64.wrap (v34 + 1)))], defers := [] } st_2).bind fun e =>
                              aw 17 base p17_0 e.fst e.snd
                        else
                          (roundV (st.length) { env := [(7, at7), (11, xs11), (32, v32), (33, AV.int IntKind.i64 v33), (34, AV.int IntKind.i64 (IntKind.i64.wrap (v34 + 1)))], defers := [] } st_1).bind fun e =>
                            aw 17 base p17_0 e.fst e.snd
else
  (lenSl xs11).bind fun v =>
    (intV IntKind.i64 v).bind fun n =>
      (lenSl xs11).bind fun v =>
        (intV IntKind.i64 v).bind fun n_1 =>
          callB (cw 10 [xs11] st)
            (fun v st => (lenSl v).bind fun v => (intV IntKind.i64 v).bind fun n_2 => outL false base (AOut.ret (AV.tup [AV.int IntKind.i64 n, AV.int IntKind.i64 (IntKind.i64.wrap (n_1 - n_2)), AV.int IntKind.i64 0])) st) fun v st =>
            outL false base (AOut.pan v) st) = some r) :
    aw 17 base (p17_0) { env := [(7, at7), (11, xs11), (32, v32), (33, AV.int IntKind.i64 v33), (34, AV.int IntKind.i64 v34)], defers := [] } st = some r := atW_of (Eq.trans (by kernel_rfl) h)
/-! stencil/stencilref9.Moves -/
abbrev p18_0 : List Dir := [.sr, .sr, .sr, .sl, .sr, .bk]
theorem F18 (olds0 : AV) (news1 : AV) (st : St) {r : AOut × St} (h : (callB (cw 35 [olds0] (AObj.free 0 :: st))
  (fun v st_1 =>
    (boolV v).bind fun b =>
      if b = true then outL false (st.length) (AOut.ret (AV.tup [AV.int IntKind.i64 0, AV.int IntKind.i64 0, AV.int IntKind.i64 900])) st_1
      else
        callB (cw 35 [news1] st_1)
          (fun v st_2 =>
            (boolV v).bind fun b =>
              if b = true then outL false (st.length) (AOut.ret (AV.tup [AV.int IntKind.i64 0, AV.int IntKind.i64 0, AV.int IntKind.i64 900])) st_2
              else aw 18 (st.length) p18_0 { env := [(0, olds0), (1, news1), (7, AV.nils), (8, AV.int IntKind.i64 0)], defers := [] } st_2)
          fun v st_2 => outL false (st.length) (AOut.pan v) st_2)
  fun v st_1 => outL false (st.length) (AOut.pan v) st_1) = some r) :
    cw 18 [olds0, news1] st = some r := callW_of (Eq.trans (by kernel_rfl) h)
theorem F18_0 (olds0 : AV) (news1 : AV) (at7 : AV) (i8 : Int) (base : Nat) (st : St) {r : AOut × St} (h : ((lenSl news1).bind fun v =>
  (intV IntKind.i64 v).bind fun n =>
    if decide (i8 < n) = true then
      (natA (AV.int IntKind.i64 i8)).bind fun j =>
        (idxSl st 3 news1 j).bind fun v =>
          (readA st v 3 true).bind fun v =>
            callB (cw 36 [olds0, v] st)
              (fun v st =>
                (intV IntKind.i64 v).bind fun n =>
                  if decide (n ≥ 0) = true then
                    bind2 (appendL st (some (base + 0, false)) 8 1 at7 (AV.sl 1 [[AV.int IntKind.i64 n]] 0 1 Tok.exact)) fun v st =>
                      aw 18 base p18_0 { env := [(0, olds0), (1, news1), (7, v), (8, AV.int IntKind.i64 (IntKind.i64.wrap (i8 + 1)))], defers := [] } st
                  else aw 18 base p18_0 { env := [(0, olds0), (1, news1), (7, at7), (8, AV.int IntKind.i64 (IntKind.i64.wrap (i8 + 1)))], defers := [] } st)
              fun v st => outL false base (AOut.pan v) st
    else
      (lenSl at7).bind fun v =>
        (intV IntKind.i64 v).bind fun n =>
          (lenSl at7).bind fun v =>
            (intV IntKind.i64 v).bind fun n_1 =>
              callB (cw 11 [at7] st)
                (fun v st => (lenSl v).bind fun v => (intV IntKind.i64 v).bind fun n_2 => outL false base (AOut.ret (AV.tup [AV.int IntKind.i64 n, AV.int IntKind.i64 (IntKind.i64.wrap (n_1 - n_2)), AV.int IntKind.i64 0])) st) fun v st =>
                outL false base (AOut.pan v) st) = some r) :
    aw 18 base p18_0 { env := [(0, olds0), (1, news1), (7, at7), (8, AV.int IntKind.i64 i8)], defers := [] } st = some r := atW_of (Eq.trans (by kernel_rfl) h)
/-! stencil/stencillaw0.Num -/
theorem F19 (e0 : Int) (st : St) {r : AOut × St} (h : (outL false (st.length) (AOut.ret (AV.int IntKind.i64 e0)) st) = some r) :
    cw 19 [AV.int IntKind.i64 e0] st = some r := callW_of (Eq.trans (by kernel_rfl) h)
/-! stencil/stencillaw0.KeptKeys -/
theorem F20 (lent0 : AV) (a1 : AV) (st : St) {r : AOut × St} (h : ((lenSl lent0).bind fun v =>
  (intV IntKind.i64 v).bind fun n =>
    (sliceSl st 3 lent0 none (some (AV.int IntKind.i64 (IntKind.i64.wrap (n + 2)))) none).bind fun v =>
      callB (cw 37 [lent0, a1] st)
        (fun v_1 st_1 =>
          (boolV v_1).bind fun b =>
            if b = true then
              (lenSl a1).bind fun v_2 =>
                (intV IntKind.i64 v_2).bind fun n =>
                  (natA (AV.int IntKind.i64 n)).bind fun j =>
                    (idxSl st_1 3 v j).bind fun v_3 =>
                      (readA st_1 v_3 3 true).bind fun v_4 =>
                        (binA Try.prog BinOp.eql 57 false v_4 (AV.agg [AV.int IntKind.i64 (-7), AV.int IntKind.i64 0, AV.str []])).bind fun v_5 =>
                          (boolV v_5).bind fun b =>
                            if b = true then
                              (lenSl a1).bind fun v_6 =>
                                (intV IntKind.i64 v_6).bind fun n =>
                                  (natA (AV.int IntKind.i64 (IntKind.i64.wrap (n + 1)))).bind fun j =>
                                    (idxSl st_1 3 v j).bind fun v =>
                                      (readA st_1 v 3 true).bind fun v =>
                                        (binA Try.prog BinOp.eql 57 false v (AV.agg [AV.int IntKind.i64 (-7), AV.int IntKind.i64 0, AV.str []])).bind fun v => (boolV v).bind fun b => outL false (st.length) (AOut.ret (AV.bool b)) st_1
                            else outL false (st.length) (AOut.ret (AV.bool false)) st_1
            else outL false (st.length) (AOut.ret (AV.bool false)) st_1)
        fun v st_1 => outL false (st.length) (AOut.pan v) st_1) = some r) :
    cw 20 [lent0, a1] st = some r := callW_of (Eq.trans (by kernel_rfl) h)
/-! stencil/stencillaw0.CopyInts -/
theorem F21 (a0 : AV) (st : St) {r : AOut × St} (h : (bind2 (appendL (AObj.free 0 :: st) (some (st.length + 0, false)) 8 1 (AV.sl 1 [] 0 0 Tok.exact) a0) fun v st_1 => bind2 (freezeA st_1 v) fun v st_2 => outL true (st.length) (AOut.ret v) st_2) = some r) :
    cw 21 [a0] st = some r := callW_of (Eq.trans (by kernel_rfl) h)
/-! stencil/stencillaw0.CopyKeys -/
theorem F22 (a0 : AV) (st : St) {r : AOut × St} (h : (bind2 (appendL (AObj.free 0 :: st) (some (st.length + 0, false)) 32 3 (AV.sl 3 [] 0 0 Tok.exact) a0) fun v st_1 => bind2 (freezeA st_1 v) fun v st_2 => outL true (st.length) (AOut.ret v) st_2) = some r) :
    cw 22 [a0] st = some r := callW_of (Eq.trans (by kernel_rfl) h)
/-! stencil/lis.lengths -/
abbrev p32_0 : List Dir := [.sr, .sr, .sr, .sl, .sr, .bk]
abbrev p32_1 : List Dir := [.sr, .sr, .sr, .sl, .sr, .bk, .lp 0, .sr, .sl, .bk, .sr, .sr]
theorem F32 (xs0 : AV) (st : St) {r : AOut × St} (h : ((cell1 xs0).bind fun c =>
  (readA (AObj.free 0 :: AObj.box 22 [c] :: st) (AV.bp (st.length) 0) 1 false).bind fun v =>
    (lenSl v).bind fun v =>
      (intV IntKind.i64 v).bind fun n =>
        bind2 (makeSl (AObj.free 0 :: AObj.box 22 [c] :: st) none 8 1 [AV.int IntKind.i64 0] (AV.int IntKind.i64 n) (AV.int IntKind.i64 n)) fun v st_1 =>
          (readA (AObj.free 0 :: AObj.box 22 [AV.nils] :: st_1) (AV.bp (st.length) 0) 1 false).bind fun v_1 =>
            (lenSl v_1).bind fun v_2 =>
              (intV IntKind.i64 v_2).bind fun n =>
                (writeA (AObj.box 3 [AV.int IntKind.i64 0] :: AObj.free 0 :: AObj.box 22 [AV.nils] :: st_1) (AV.bp (AObj.free 0 :: AObj.box 22 [AV.nils] :: st_1).length 0) [AV.int IntKind.i64 (IntKind.i64.wrap (n - 1))]).bind fun st_2 =>
                  aw 32 (st.length) p32_0 { env := [(1, AV.bp (st.length) 0), (3, v), (4, AV.bp (st_1.length) 0), (5, AV.bp (AObj.free 0 :: AObj.box 22 [AV.nils] :: st_1).length 0)], defers := [] } st_2) = some r) :
    cw 32 [xs0] st = some r := callW_of (Eq.trans (by kernel_rfl) h)
theorem F32_0 (xs1 : AV) (out3 : AV) (piles4 : AV) (i5 : AV) (base : Nat) (st : St) {r : AOut × St} (h : ((readA st i5 1 false).bind fun v =>
  (intV IntKind.i64 v).bind fun n =>
    if decide (n ≥ 0) = true then
      (readA st piles4 1 false).bind fun v =>
        (lenSl v).bind fun v =>
          (intV IntKind.i64 v).bind fun n =>
            callB (cw 55 [AV.int IntKind.i64 n, AV.fn 56 [piles4, xs1, i5]] st)
              (fun v st =>
                (intV IntKind.i64 v).bind fun n =>
                  (readA st piles4 1 false).bind fun v =>
                    (lenSl v).bind fun v =>
                      (intV IntKind.i64 v).bind fun n_1 =>
                        if (n == n_1) = true then
                          (readA st piles4 1 false).bind fun v =>
                            (readA st xs1 1 false).bind fun v_1 =>
                              (readA st i5 1 false).bind fun v_2 =>
                                (intV IntKind.i64 v_2).bind fun n_2 =>
                                  (natA (AV.int IntKind.i64 n_2)).bind fun j =>
                                    (idxSl st 1 v_1 j).bind fun v_3 =>
                                      (readA st v_3 1 false).bind fun v_4 =>
                                        (intV IntKind.i64 v_4).bind fun n_3 =>
                                          bind2
                                            (appendL st (homeV (fun t c => ((List.find? (fun x => x.fst == t) trycells).bind fun x => List.findIdx?.go (fun x => x == c) x.snd 0).getD 0) true st piles4) 8 1 v
                                              (AV.sl 1 [[AV.int IntKind.i64 n_3]] 0 1 Tok.exact))
                                            fun v_5 st_1 =>
                                            (cell1 v_5).bind fun c =>
                                              (writeA st_1 piles4 [c]).bind fun st_2 =>
                                                if
                                                    ((if isIp piles4 = true then true
                                                        else
                                                          (List.range.loop [st_2, st_1, st, st].length []).all fun s =>
                                                            if 0 ≤ s ∧ s ≤ 1 then
                                                              match [st_2, st_1, st, st][[st_2, st_1, st, st].length - 1 - s]? with
                                                              | some st =>
                                                                match Option.map (fun v => (Res.val v, st)) (ldA Try.prog st 22 piles4) with
                                                                | some (Res.val v', snd) => v.beq v'
                                                                | x => false
                                                              | none => false
                                                            else true) &&
                                                        true) =
                                                      true then
                                                  aw 32 base p32_1 { env := [(1, xs1), (3, out3), (4, piles4), (5, i5), (6, AV.int IntKind.i64 n)], defers := [] } st_2
                                                else none
                        else
                          (readA st piles4 1 false).bind fun v =>
                            (readA st xs1 1 false).bind fun v_1 =>
                              (readA st i5 1 false).bind fun v_2 =>
                                (intV IntKind.i64 v_2).bind fun n_2 =>
                                  (natA (AV.int IntKind.i64 n_2)).bind fun j =>
                                    (idxSl st 1 v_1 j).bind fun v_3 =>
                                      (readA st v_3 1 false).bind fun v_4 =>
                                        (intV IntKind.i64 v_4).bind fun n_3 =>
                                          (natA (AV.int IntKind.i64 n)).bind fun j =>
                                            (idxSl st 1 v j).bind fun v =>
                                              (writeA st v [AV.int IntKind.i64 n_3]).bind fun st => aw 32 base p32_1 { env := [(1, xs1), (3, out3), (4, piles4), (5, i5), (6, AV.int IntKind.i64 n)], defers := [] } st)
              fun v st => outL false base (AOut.pan v) st
    else bind2 (freezeA st out3) fun v st => outL false base (AOut.ret v) st) = some r) :
    aw 32 base p32_0 { env := [(1, xs1), (3, out3), (4, piles4), (5, i5)], defers := [] } st = some r := atW_of (Eq.trans (by kernel_rfl) h)
theorem F32_1 (xs1 : AV) (out3 : AV) (piles4 : AV) (i5 : AV) (k6 : Int) (base : Nat) (st : St) {r : AOut × St} (h : ((readA st i5 1 false).bind fun v =>
  (intV IntKind.i64 v).bind fun n =>
    (natA (AV.int IntKind.i64 n)).bind fun j =>
      (idxSl st 1 out3 j).bind fun v =>
        (writeA st v [AV.int IntKind.i64 (IntKind.i64.wrap (k6 + 1))]).bind fun st =>
          (readA st i5 1 false).bind fun v =>
            (intV IntKind.i64 v).bind fun n =>
              (writeA (AObj.box 3 [AV.int IntKind.i64 0] :: st) (AV.bp (st.length) 0) [AV.int IntKind.i64 n]).bind fun st_1 =>
                (readA st_1 (AV.bp (st.length) 0) 1 false).bind fun v =>
                  (intV IntKind.i64 v).bind fun n =>
                    (writeA st_1 (AV.bp (st.length) 0) [AV.int IntKind.i64 (IntKind.i64.wrap (n - 1))]).bind fun st_2 =>
                      aw 32 base p32_0 { env := [(1, xs1), (3, out3), (4, piles4), (5, AV.bp (st.length) 0)], defers := [] } st_2) = some r) :
    aw 32 base p32_1 { env := [(1, xs1), (3, out3), (4, piles4), (5, i5), (6, AV.int IntKind.i64 k6)], defers := [] } st = some r := Eq.trans (by kernel_rfl) h
/-! stencil/stencillaw9.key -/
theorem F33 (i0 : Int) (st : St) {r : AOut × St} (h : ((cellsV 3 (AV.agg [AV.int IntKind.i64 3, AV.int IntKind.i64 i0, AV.str []])).bind fun cs =>
  (writeA (AObj.box 57 [AV.int IntKind.i64 0, AV.int IntKind.i64 0, AV.str []] :: st) (AV.bp (st.length) 0) cs).bind fun st_1 =>
    ((ldA Try.prog st_1 57 (AV.bp (st.length) 0)).bind fun v => some [v]).bind fun vs => outL false (st.length) (AOut.ret (outV1 vs)) st_1) = some r) :
    cw 33 [AV.int IntKind.i64 i0] st = some r := callW_of (Eq.trans (by kernel_rfl) h)
/-! stencil/lis.places -/
abbrev p34_0 : List Dir := [.sr, .sr, .sl, .sr, .bk]
theorem F34 (keys0 : AV) (st : St) {r : AOut × St} (h : ((lenSl keys0).bind fun v =>
  (intV IntKind.i64 v).bind fun n => aw 34 (st.length) p34_0 { env := [(4, AV.mp (st.length)), (10, keys0), (11, AV.int IntKind.i64 n), (12, AV.int IntKind.i64 0)], defers := [] } (AObj.amap [] :: st)) = some r) :
    cw 34 [keys0] st = some r := callW_of (Eq.trans (by kernel_rfl) h)
theorem F34_0 (out4 : AV) (v10 : AV) (v11 : Int) (v12 : Int) (base : Nat) (st : St) {r : AOut × St} (h : (if decide (v12 < v11) = true then
  (natA (AV.int IntKind.i64 v12)).bind fun j =>
    (idxSl st 3 v10 j).bind fun v =>
      (readA st v 3 true).bind fun v =>
        (cellsV 3 v).bind fun cs =>
          (writeA (AObj.box 57 [AV.int IntKind.i64 0, AV.int IntKind.i64 0, AV.str []] :: st) (AV.bp (st.length) 0) cs).bind fun st_1 =>
            (readA st_1 (AV.bp (st.length) 0) 3 true).bind fun v =>
              (lookupA Try.prog st_1 59 out4 v true).bind fun v =>
                (extractA 0 v).bind fun v_1 =>
                  (intV IntKind.i64 v_1).bind fun n =>
                    (extractA 1 v).bind fun v =>
                      (boolV v).bind fun b =>
                        if b = true then outL true base (AOut.ret (AV.tup [AV.nilm, AV.bool false])) st_1
                        else
                          (readA st_1 (AV.bp (st.length) 0) 3 true).bind fun v =>
                            (mapUpdateA Try.prog st_1 59 out4 v (AV.int IntKind.i64 v12)).bind fun st_2 =>
                              (roundV (st.length) { env := [(4, out4), (10, v10), (11, AV.int IntKind.i64 v11), (12, AV.int IntKind.i64 (IntKind.i64.wrap (v12 + 1)))], defers := [] } st_2).bind fun e =>
                                aw 34 base p34_0 e.fst e.snd
else outL true base (AOut.ret (AV.tup [out4, AV.bool true])) st) = some r) :
    aw 34 base (p34_0) { env := [(4, out4), (10, v10), (11, AV.int IntKind.i64 v11), (12, AV.int IntKind.i64 v12)], defers := [] } st = some r := atW_of (Eq.trans (by kernel_rfl) h)
/-! stencil/stencilref9.twice -/
abbrev p35_0 : List Dir := [.sr, .sl, .sr, .bk]
theorem F35 (ks0 : AV) (st : St) {r : AOut × St} (h : (aw 35 (st.length) p35_0 { env := [(0, ks0), (3, AV.int IntKind.i64 0)], defers := [] } st) = some r) :
    cw 35 [ks0] st = some r := callW_of (Eq.trans (by kernel_rfl) h)
theorem F35_0 (ks0 : AV) (i3 : Int) (base : Nat) (st : St) {r : AOut × St} (h : ((lenSl ks0).bind fun v =>
  (intV IntKind.i64 v).bind fun n =>
    if decide (i3 < n) = true then
      (sliceSl st 3 ks0 none (some (AV.int IntKind.i64 i3)) none).bind fun v =>
        (natA (AV.int IntKind.i64 i3)).bind fun j =>
          (idxSl st 3 ks0 j).bind fun v_1 =>
            (readA st v_1 3 true).bind fun v_2 =>
              callB (cw 36 [v, v_2] st)
                (fun v st =>
                  (intV IntKind.i64 v).bind fun n =>
                    if decide (n ≥ 0) = true then outL false base (AOut.ret (AV.bool true)) st else aw 35 base p35_0 { env := [(0, ks0), (3, AV.int IntKind.i64 (IntKind.i64.wrap (i3 + 1)))], defers := [] } st)
                fun v st => outL false base (AOut.pan v) st
    else outL false base (AOut.ret (AV.bool false)) st) = some r) :
    aw 35 base p35_0 { env := [(0, ks0), (3, AV.int IntKind.i64 i3)], defers := [] } st = some r := atW_of (Eq.trans (by kernel_rfl) h)
/-! stencil/stencilref9.place -/
abbrev p36_0 : List Dir := [.sr, .sl, .sr, .bk]
theorem F36 (ks0 : AV) (k1_Kind : Int) (k1_Int : Int) (k1_Str : List UInt8) (st : St) {r : AOut × St} (h : ((cellsV 3 (AV.agg [AV.int IntKind.i64 k1_Kind, AV.int IntKind.i64 k1_Int, AV.str k1_Str])).bind fun cs =>
  aw 36 (st.length) p36_0 { env := [(0, ks0), (3, AV.bp (st.length) 0), (5, AV.int IntKind.i64 0)], defers := [] } (AObj.box 57 cs :: st)) = some r) :
    cw 36 [ks0, AV.agg [AV.int IntKind.i64 k1_Kind, AV.int IntKind.i64 k1_Int, AV.str k1_Str]] st = some r := callW_of (Eq.trans (by kernel_rfl) h)
theorem F36_0 (ks0 : AV) (k3 : AV) (i5 : Int) (base : Nat) (st : St) {r : AOut × St} (h : ((lenSl ks0).bind fun v =>
  (intV IntKind.i64 v).bind fun n =>
    if decide (i5 < n) = true then
      (natA (AV.int IntKind.i64 i5)).bind fun j =>
        (idxSl st 3 ks0 j).bind fun v =>
          (readA st v 3 true).bind fun v =>
            (readA st k3 3 true).bind fun v_1 =>
              (binA Try.prog BinOp.eql 57 false v v_1).bind fun v =>
                (boolV v).bind fun b =>
                  if b = true then outL false base (AOut.ret (AV.int IntKind.i64 i5)) st else aw 36 base p36_0 { env := [(0, ks0), (3, k3), (5, AV.int IntKind.i64 (IntKind.i64.wrap (i5 + 1)))], defers := [] } st
    else outL false base (AOut.ret (AV.int IntKind.i64 (-1))) st) = some r) :
    aw 36 base p36_0 { env := [(0, ks0), (3, k3), (5, AV.int IntKind.i64 i5)], defers := [] } st = some r := atW_of (Eq.trans (by kernel_rfl) h)
/-! stencil/stencillaw0.SameKeys -/
abbrev p37_0 : List Dir := [.sr, .sr, .sl, .sr, .bk]
theorem F37 (a0 : AV) (b1 : AV) (st : St) {r : AOut × St} (h : ((lenSl a0).bind fun v =>
  (intV IntKind.i64 v).bind fun n =>
    (lenSl b1).bind fun v =>
      (intV IntKind.i64 v).bind fun n_1 =>
        if (n != n_1) = true then outL false (st.length) (AOut.ret (AV.bool false)) st else aw 37 (st.length) p37_0 { env := [(0, a0), (1, b1), (5, AV.int IntKind.i64 0)], defers := [] } st) = some r) :
    cw 37 [a0, b1] st = some r := callW_of (Eq.trans (by kernel_rfl) h)
theorem F37_0 (a0 : AV) (b1 : AV) (i5 : Int) (base : Nat) (st : St) {r : AOut × St} (h : ((lenSl a0).bind fun v =>
  (intV IntKind.i64 v).bind fun n =>
    if decide (i5 < n) = true then
      (natA (AV.int IntKind.i64 i5)).bind fun j =>
        (idxSl st 3 a0 j).bind fun v =>
          (readA st v 3 true).bind fun v =>
            (natA (AV.int IntKind.i64 i5)).bind fun j =>
              (idxSl st 3 b1 j).bind fun v_1 =>
                (readA st v_1 3 true).bind fun v_2 =>
                  (binA Try.prog BinOp.neq 57 false v v_2).bind fun v =>
                    (boolV v).bind fun b =>
                      if b = true then outL false base (AOut.ret (AV.bool false)) st else aw 37 base p37_0 { env := [(0, a0), (1, b1), (5, AV.int IntKind.i64 (IntKind.i64.wrap (i5 + 1)))], defers := [] } st
    else outL false base (AOut.ret (AV.bool true)) st) = some r) :
    aw 37 base p37_0 { env := [(0, a0), (1, b1), (5, AV.int IntKind.i64 i5)], defers := [] } st = some r := atW_of (Eq.trans (by kernel_rfl) h)
/-! sort.Search -/
abbrev p55_0 : List Dir := [.sr, .sr, .sl, .bk]
theorem F55 (n0 : Int) (f1 : AV) (st : St) {r : AOut × St} (h : (aw 55 (st.length) p55_0 { env := [(1, f1), (5, AV.int IntKind.i64 0), (6, AV.int IntKind.i64 n0)], defers := [] } st) = some r) :
    cw 55 [AV.int IntKind.i64 n0, f1] st = some r := callW_of (Eq.trans (by kernel_rfl) h)
theorem F55_0 (f1 : AV) (i5 : Int) (j6 : Int) (base : Nat) (st : St) {r : AOut × St} (h : (if decide (i5 < j6) = true then
  (fnV f1).bind fun q =>
    callB (cw q.fst ([AV.int IntKind.i64 (IntKind.i64.wrap ((IntKind.u64.wrap (IntKind.i64.wrap (i5 + j6))).fdiv 2))] ++ q.snd) st)
      (fun v st_1 =>
        (boolV v).bind fun b =>
          if (!b) = true then
            (roundV (st.length) { env := [(1, f1), (5, AV.int IntKind.i64 (IntKind.i64.wrap (IntKind.i64.wrap ((IntKind.u64.wrap (IntKind.i64.wrap (i5 + j6))).fdiv 2) + 1))), (6, AV.int IntKind.i64 j6)], defers := [] } st_1).bind
              fun e => aw 55 base p55_0 e.fst e.snd
          else
            (roundV (st.length) { env := [(1, f1), (5, AV.int IntKind.i64 i5), (6, AV.int IntKind.i64 (IntKind.i64.wrap ((IntKind.u64.wrap (IntKind.i64.wrap (i5 + j6))).fdiv 2)))], defers := [] } st_1).bind fun e =>
              aw 55 base p55_0 e.fst e.snd)
      fun v st => outL false base (AOut.pan v) st
else outL false base (AOut.ret (AV.int IntKind.i64 i5)) st) = some r) :
    aw 55 base (p55_0) { env := [(1, f1), (5, AV.int IntKind.i64 i5), (6, AV.int IntKind.i64 j6)], defers := [] } st = some r := atW_of (Eq.trans (by kernel_rfl) h)
/-! stencil/lis.lengths$1 -/
theorem F56 (k0 : Int) (c0 : AV) (c1 : AV) (c2 : AV) (st : St) {r : AOut × St} (h : ((readA st c0 1 false).bind fun v =>
  (natA (AV.int IntKind.i64 k0)).bind fun j =>
    (idxSl st 1 v j).bind fun v =>
      (readA st v 1 false).bind fun v =>
        (intV IntKind.i64 v).bind fun n =>
          (readA st c1 1 false).bind fun v =>
            (readA st c2 1 false).bind fun v_1 =>
              (intV IntKind.i64 v_1).bind fun n_1 =>
                (natA (AV.int IntKind.i64 n_1)).bind fun j => (idxSl st 1 v j).bind fun v => (readA st v 1 false).bind fun v => (intV IntKind.i64 v).bind fun n_2 => outL false (st.length) (AOut.ret (AV.bool (decide (n ≤ n_2)))) st) = some r) :
    cw 56 [AV.int IntKind.i64 k0, c0, c1, c2] st = some r := callW_of (Eq.trans (by kernel_rfl) h)
end Go.Abs
