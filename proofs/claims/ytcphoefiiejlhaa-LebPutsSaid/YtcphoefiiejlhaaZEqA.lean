/- What each function comes to, by value. Printed by a tool of this claim's author; each equation is checked by the kernel. -/
import Derived.Test.YtcphoefiiejlhaaZHints
import Derived.Test.YtcphoefiiejlhaaZC
import Derived.KernelRfl
namespace Go.Abs
open Go Go.Proofs
set_option linter.unusedVariables false
noncomputable abbrev cw := callW Try.prog tryhints
noncomputable abbrev aw := atW Try.prog tryhints
/-! stencil/stencillaw2.LebPuts -/
theorem F4 (x0 : Int) (y1 : Int) (st : St) {r : AOut × St} (h : (callB (cw 27 [AV.int IntKind.u64 x0] st)
  (fun v st_1 =>
    callB (cw 27 [AV.int IntKind.u64 x0] st_1)
      (fun v_1 st_2 =>
        callB (cw 28 [AV.int IntKind.i64 y1] st_2)
          (fun v_2 st_3 =>
            callB (cw 28 [AV.int IntKind.i64 y1] st_3)
              (fun v_3 st_4 =>
                callB (cw 30 [AV.int IntKind.u64 x0] st_4)
                  (fun v_4 st_5 =>
                    callB (cw 29 [v, v_4] st_5)
                      (fun v_5 st_6 =>
                        (boolV v_5).bind fun b =>
                          if (!b) = true then outL false (st.length) (AOut.ret (AV.bool false)) st_6
                          else
                            callB (cw 31 [AV.int IntKind.i64 y1] st_6)
                              (fun v_6 st_7 =>
                                callB (cw 29 [v_2, v_6] st_7)
                                  (fun v_7 st_8 =>
                                    (boolV v_7).bind fun b =>
                                      if (!b) = true then outL false (st.length) (AOut.ret (AV.bool false)) st_8
                                      else
                                        callB (cw 32 [v] st_8)
                                          (fun v st_9 =>
                                            callB (cw 32 [v_2] st_9)
                                              (fun v st_10 =>
                                                callB (cw 30 [AV.int IntKind.u64 x0] st_10)
                                                  (fun v st_11 =>
                                                    callB (cw 29 [v_1, v] st_11)
                                                      (fun v st_12 =>
                                                        (boolV v).bind fun b =>
                                                          if (!b) = true then outL false (st.length) (AOut.ret (AV.bool false)) st_12
                                                          else
                                                            callB (cw 31 [AV.int IntKind.i64 y1] st_12)
                                                              (fun v st_13 =>
                                                                callB (cw 29 [v_3, v] st_13)
                                                                  (fun v st_14 =>
                                                                    (boolV v).bind fun b =>
                                                                      if (!b) = true then outL false (st.length) (AOut.ret (AV.bool false)) st_14
                                                                      else
                                                                        callB (cw 33 [v_1, AV.int IntKind.i64 0] st_14)
                                                                          (fun v st_15 =>
                                                                            (extractA 0 v).bind fun v_8 =>
                                                                              (intV IntKind.u64 v_8).bind fun n =>
                                                                                (extractA 1 v).bind fun v_9 =>
                                                                                  (intV IntKind.i64 v_9).bind fun n_1 =>
                                                                                    (extractA 2 v).bind fun v =>
                                                                                      (intV IntKind.i64 v).bind fun n_2 =>
                                                                                        callB (cw 34 [v_3, AV.int IntKind.i64 0] st_15)
                                                                                          (fun v st_16 =>
                                                                                            (extractA 0 v).bind fun v_10 =>
                                                                                              (intV IntKind.i64 v_10).bind fun n_3 =>
                                                                                                (extractA 1 v).bind fun v_11 =>
                                                                                                  (intV IntKind.i64 v_11).bind fun n_4 =>
                                                                                                    (extractA 2 v).bind fun v =>
                                                                                                      (intV IntKind.i64 v).bind fun n_5 =>
                                                                                                        callB (cw 35 [AV.int IntKind.i64 n_2] st_16)
                                                                                                          (fun v st_17 =>
                                                                                                            (intV IntKind.i64 v).bind fun n_6 =>
                                                                                                              if (n_6 == 0) = true then
                                                                                                                if (n == x0) = true then
                                                                                                                  (lenSl v_1).bind fun v =>
                                                                                                                    (intV IntKind.i64 v).bind fun n =>
                                                                                                                      if (n_1 == n) = true then
                                                                                                                        callB (cw 35 [AV.int IntKind.i64 n_5] st_17)
                                                                                                                          (fun v st_18 =>
                                                                                                                            (intV IntKind.i64 v).bind fun n =>
                                                                                                                              if (n == 0) = true then
                                                                                                                                if (n_3 == y1) = true then
                                                                                                                                  (lenSl v_3).bind fun v =>
                                                                                                                                    (intV IntKind.i64 v).bind fun n =>
                                                                                                                                      if (n_4 == n) = true then
                                                                                                                                        callB (cw 36 [] st_18)
                                                                                                                                          (fun v st_19 => (boolV v).bind fun b => outL false (st.length) (AOut.ret (AV.bool b)) st_19)
                                                                                                                                          fun v st_19 => outL false (st.length) (AOut.pan v) st_19
                                                                                                                                      else outL false (st.length) (AOut.ret (AV.bool false)) st_18
                                                                                                                                else outL false (st.length) (AOut.ret (AV.bool false)) st_18
                                                                                                                              else outL false (st.length) (AOut.ret (AV.bool false)) st_18)
                                                                                                                          fun v st_18 => outL false (st.length) (AOut.pan v) st_18
                                                                                                                      else outL false (st.length) (AOut.ret (AV.bool false)) st_17
                                                                                                                else outL false (st.length) (AOut.ret (AV.bool false)) st_17
                                                                                                              else outL false (st.length) (AOut.ret (AV.bool false)) st_17)
                                                                                                          fun v st_17 => outL false (st.length) (AOut.pan v) st_17)
                                                                                          fun v st_16 => outL false (st.length) (AOut.pan v) st_16)
                                                                          fun v st_15 => outL false (st.length) (AOut.pan v) st_15)
                                                                  fun v st_14 => outL false (st.length) (AOut.pan v) st_14)
                                                              fun v st_13 => outL false (st.length) (AOut.pan v) st_13)
                                                      fun v st_12 => outL false (st.length) (AOut.pan v) st_12)
                                                  fun v st_11 => outL false (st.length) (AOut.pan v) st_11)
                                              fun v st_10 => outL false (st.length) (AOut.pan v) st_10)
                                          fun v st_9 => outL false (st.length) (AOut.pan v) st_9)
                                  fun v st_8 => outL false (st.length) (AOut.pan v) st_8)
                              fun v st_7 => outL false (st.length) (AOut.pan v) st_7)
                      fun v st_6 => outL false (st.length) (AOut.pan v) st_6)
                  fun v st_5 => outL false (st.length) (AOut.pan v) st_5)
              fun v st_4 => outL false (st.length) (AOut.pan v) st_4)
          fun v st_3 => outL false (st.length) (AOut.pan v) st_3)
      fun v st_2 => outL false (st.length) (AOut.pan v) st_2)
  fun v st_1 => outL false (st.length) (AOut.pan v) st_1) = some r) :
    cw 4 [AV.int IntKind.u64 x0, AV.int IntKind.i64 y1] st = some r := callW_of (Eq.trans (by kernel_rfl) h)
/-! stencil/leb.Put -/
abbrev p27_0 : List Dir := [.sr, .sr, .sl, .bk]
theorem F27 (x0 : Int) (st : St) {r : AOut × St} (h : (aw 27 (st.length) p27_0 { env := [(0, AV.int IntKind.u64 x0), (3, AV.nils)], defers := [] } (AObj.free 0 :: st)) = some r) :
    cw 27 [AV.int IntKind.u64 x0] st = some r := callW_of (Eq.trans (by kernel_rfl) h)
theorem F27_0 (x0 : Int) (out3 : AV) (base : Nat) (st : St) {r : AOut × St} (h : (if decide (x0 ≥ 128) = true then
  bind2 (appendL st (some (base + 0, true)) 1 0 out3 (AV.sl 0 [[AV.int IntKind.u8 (bits BinOp.or IntKind.u8 (IntKind.u8.wrap x0) 128)]] 0 1 Tok.exact)) fun v st =>
    aw 27 base p27_0 { env := [(0, AV.int IntKind.u64 (x0.fdiv 128)), (3, v)], defers := [] } st
else bind2 (appendL st (some (base + 0, true)) 1 0 out3 (AV.sl 0 [[AV.int IntKind.u8 (IntKind.u8.wrap x0)]] 0 1 Tok.exact)) fun v st => outL true base (AOut.ret v) st) = some r) :
    aw 27 base p27_0 { env := [(0, AV.int IntKind.u64 x0), (3, out3)], defers := [] } st = some r := atW_of (Eq.trans (by kernel_rfl) h)
/-! stencil/leb.PutInt -/
theorem F28 (x0 : Int) (st : St) {r : AOut × St} (h : (callB (cw 27 [AV.int IntKind.u64 (bits BinOp.xor IntKind.u64 (IntKind.u64.wrap (IntKind.u64.wrap x0 * 2)) (IntKind.u64.wrap (x0.fdiv 9223372036854775808)))] st)
  (fun v st_1 => outL true (st.length) (AOut.ret v) st_1) fun v st_1 => outL true (st.length) (AOut.pan v) st_1) = some r) :
    cw 28 [AV.int IntKind.i64 x0] st = some r := callW_of (Eq.trans (by kernel_rfl) h)
/-! stencil/stencillaw0.SameBytes -/
theorem F29 (a0 : AV) (b1 : AV) (st : St) {r : AOut × St} (h : ((strOf st a0).bind fun v => (strV v).bind fun s => (strOf st b1).bind fun v => (strV v).bind fun s_1 => (strA BinOp.eql s s_1).bind fun v => (boolV v).bind fun b => outL false (st.length) (AOut.ret (AV.bool b)) st) = some r) :
    cw 29 [a0, b1] st = some r := callW_of (Eq.trans (by kernel_rfl) h)
/-! stencil/stencilref2.Put -/
abbrev p30_0 : List Dir := [.sr, .sr, .sl, .bk]
theorem F30 (x0 : Int) (st : St) {r : AOut × St} (h : (aw 30 (st.length) p30_0 { env := [(0, AV.int IntKind.u64 x0), (3, AV.nils)], defers := [] } (AObj.free 0 :: st)) = some r) :
    cw 30 [AV.int IntKind.u64 x0] st = some r := callW_of (Eq.trans (by kernel_rfl) h)
theorem F30_0 (x0 : Int) (out3 : AV) (base : Nat) (st : St) {r : AOut × St} (h : (if decide (x0 ≥ 128) = true then
  bind2 (appendL st (some (base + 0, false)) 1 0 out3 (AV.sl 0 [[AV.int IntKind.u8 (IntKind.u8.wrap (IntKind.u64.wrap (128 + x0.tmod 128)))]] 0 1 Tok.exact)) fun v st =>
    aw 30 base p30_0 { env := [(0, AV.int IntKind.u64 (IntKind.u64.wrap (x0.tdiv 128))), (3, v)], defers := [] } st
else bind2 (appendL st (some (base + 0, false)) 1 0 out3 (AV.sl 0 [[AV.int IntKind.u8 (IntKind.u8.wrap x0)]] 0 1 Tok.exact)) fun v st => bind2 (freezeA st v) fun v st => outL false base (AOut.ret v) st) = some r) :
    aw 30 base p30_0 { env := [(0, AV.int IntKind.u64 x0), (3, out3)], defers := [] } st = some r := atW_of (Eq.trans (by kernel_rfl) h)
/-! stencil/stencilref2.PutInt -/
theorem F31 (x0 : Int) (st : St) {r : AOut × St} (h : (if decide (x0 < 0) = true then
  callB (cw 30 [AV.int IntKind.u64 (IntKind.u64.wrap (IntKind.u64.wrap (2 * IntKind.u64.wrap (IntKind.i64.wrap (0 - IntKind.i64.wrap (x0 + 1)))) + 1))] st)
    (fun v st_1 => bind2 (freezeA st_1 v) fun v st_2 => outL false (st.length) (AOut.ret v) st_2) fun v st_1 => outL false (st.length) (AOut.pan v) st_1
else
  callB (cw 30 [AV.int IntKind.u64 (IntKind.u64.wrap (2 * IntKind.u64.wrap x0))] st) (fun v st_1 => bind2 (freezeA st_1 v) fun v st_2 => outL false (st.length) (AOut.ret v) st_2) fun v st_1 =>
    outL false (st.length) (AOut.pan v) st_1) = some r) :
    cw 31 [AV.int IntKind.i64 x0] st = some r := callW_of (Eq.trans (by kernel_rfl) h)
/-! stencil/stencillaw0.SpoilBytes -/
abbrev p32_0 : List Dir := [.sr, .bk]
theorem F32 (a0 : AV) (st : St) {r : AOut × St} (h : (aw 32 (st.length) p32_0 { env := [(0, a0), (2, AV.int IntKind.i64 0)], defers := [] } st) = some r) :
    cw 32 [a0] st = some r := callW_of (Eq.trans (by kernel_rfl) h)
theorem F32_0 (a0 : AV) (i2 : Int) (base : Nat) (st : St) {r : AOut × St} (h : ((lenSl a0).bind fun v =>
  (intV IntKind.i64 v).bind fun n =>
    if decide (i2 < n) = true then
      (natA (AV.int IntKind.i64 i2)).bind fun j =>
        (idxSl st 0 a0 j).bind fun v =>
          (readA st v 1 false).bind fun v =>
            (intV IntKind.u8 v).bind fun n =>
              (natA (AV.int IntKind.i64 i2)).bind fun j =>
                (idxSl st 0 a0 j).bind fun v =>
                  (writeA st v [AV.int IntKind.u8 (bits BinOp.xor IntKind.u8 n 90)]).bind fun st => aw 32 base p32_0 { env := [(0, a0), (2, AV.int IntKind.i64 (IntKind.i64.wrap (i2 + 1)))], defers := [] } st
    else outL false base (AOut.ret (AV.tup [])) st) = some r) :
    aw 32 base p32_0 { env := [(0, a0), (2, AV.int IntKind.i64 i2)], defers := [] } st = some r := atW_of (Eq.trans (by kernel_rfl) h)
/-! stencil/leb.Take -/
abbrev p33_0 : List Dir := [.sr, .sr, .sr, .sl, .sr, .bk]
abbrev p33_1 : List Dir := [.sr, .sr, .sr, .sl, .sr, .bk, .lp 0, .sr, .sr, .sl, .bk, .sr, .sl, .bk, .sr]
theorem F33 (b0 : AV) (at1 : Int) (st : St) {r : AOut × St} (h : (if decide (at1 < 0) = true then outL false (st.length) (AOut.ret (AV.tup [AV.int IntKind.u64 0, AV.int IntKind.i64 0, AV.int IntKind.i64 200])) st
else
  (lenSl b0).bind fun v =>
    (intV IntKind.i64 v).bind fun n =>
      if decide (at1 > n) = true then outL false (st.length) (AOut.ret (AV.tup [AV.int IntKind.u64 0, AV.int IntKind.i64 0, AV.int IntKind.i64 200])) st
      else
        (sliceSl st 0 b0 (some (AV.int IntKind.i64 at1)) none none).bind fun v =>
          (lenSl v).bind fun v_1 =>
            (intV IntKind.i64 v_1).bind fun n =>
              aw 33 (st.length) p33_0 ⟨[(1, AV.int IntKind.i64 at1), (7, AV.int IntKind.u64 0), (20, v), (21, AV.int IntKind.i64 n), (22, AV.int IntKind.i64 0)], []⟩ st) = some r) :
    cw 33 [b0, AV.int IntKind.i64 at1] st = some r := callW_of (Eq.trans (by kernel_rfl) h)
theorem F33_0 (at1 : Int) (x7 : Int) (v20 : AV) (v21 : Int) (v22 : Int) (base : Nat) (st : St) {r : AOut × St} (h : (if decide (v22 < v21) = true then
  (natA (AV.int IntKind.i64 v22)).bind fun j =>
    (idxSl st 0 v20 j).bind fun v =>
      (readA st v 1 false).bind fun v =>
        (intV IntKind.u8 v).bind fun n =>
          if (v22 == 9) = true then
            if decide (n > 1) = true then outL false base (AOut.ret (AV.tup [AV.int IntKind.u64 0, AV.int IntKind.i64 0, AV.int IntKind.i64 201])) st
            else
              if (n == 0) = true then
                if decide (v22 > 0) = true then outL false base (AOut.ret (AV.tup [AV.int IntKind.u64 0, AV.int IntKind.i64 0, AV.int IntKind.i64 201])) st
                else
                  (if IntKind.u64.wrap (IntKind.i64.wrap (7 * v22)) < 0 then none
                      else some (AV.int IntKind.u64 (IntKind.u64.wrap (IntKind.u64.wrap (bits BinOp.and IntKind.u8 n 127) * 2 ^ min (IntKind.u64.wrap (IntKind.i64.wrap (7 * v22))).toNat 64)))).bind
                    fun v =>
                    (intV IntKind.u64 v).bind fun n_1 =>
                      if decide (n < 128) = true then
                        outL false base (AOut.ret (AV.tup [AV.int IntKind.u64 (bits BinOp.or IntKind.u64 x7 n_1), AV.int IntKind.i64 (IntKind.i64.wrap (IntKind.i64.wrap (at1 + v22) + 1)), AV.int IntKind.i64 0])) st
                      else
                        aw 33 base p33_0
                          ⟨[(1, AV.int IntKind.i64 at1), (7, AV.int IntKind.u64 (bits BinOp.or IntKind.u64 x7 n_1)), (20, v20), (21, AV.int IntKind.i64 v21), (22, AV.int IntKind.i64 (IntKind.i64.wrap (v22 + 1)))], []⟩ st
              else
                (if IntKind.u64.wrap (IntKind.i64.wrap (7 * v22)) < 0 then none
                    else some (AV.int IntKind.u64 (IntKind.u64.wrap (IntKind.u64.wrap (bits BinOp.and IntKind.u8 n 127) * 2 ^ min (IntKind.u64.wrap (IntKind.i64.wrap (7 * v22))).toNat 64)))).bind
                  fun v =>
                  (intV IntKind.u64 v).bind fun n_1 =>
                    if decide (n < 128) = true then
                      outL false base (AOut.ret (AV.tup [AV.int IntKind.u64 (bits BinOp.or IntKind.u64 x7 n_1), AV.int IntKind.i64 (IntKind.i64.wrap (IntKind.i64.wrap (at1 + v22) + 1)), AV.int IntKind.i64 0])) st
                    else
                      aw 33 base p33_0
                        ⟨[(1, AV.int IntKind.i64 at1), (7, AV.int IntKind.u64 (bits BinOp.or IntKind.u64 x7 n_1)), (20, v20), (21, AV.int IntKind.i64 v21), (22, AV.int IntKind.i64 (IntKind.i64.wrap (v22 + 1)))], []⟩ st
          else
            if (n == 0) = true then
              if decide (v22 > 0) = true then outL false base (AOut.ret (AV.tup [AV.int IntKind.u64 0, AV.int IntKind.i64 0, AV.int IntKind.i64 201])) st
              else
                (if IntKind.u64.wrap (IntKind.i64.wrap (7 * v22)) < 0 then none
                    else some (AV.int IntKind.u64 (IntKind.u64.wrap (IntKind.u64.wrap (bits BinOp.and IntKind.u8 n 127) * 2 ^ min (IntKind.u64.wrap (IntKind.i64.wrap (7 * v22))).toNat 64)))).bind
                  fun v =>
                  (intV IntKind.u64 v).bind fun n_1 =>
                    if decide (n < 128) = true then
                      outL false base (AOut.ret (AV.tup [AV.int IntKind.u64 (bits BinOp.or IntKind.u64 x7 n_1), AV.int IntKind.i64 (IntKind.i64.wrap (IntKind.i64.wrap (at1 + v22) + 1)), AV.int IntKind.i64 0])) st
                    else
                      aw 33 base p33_0
                        ⟨[(1, AV.int IntKind.i64 at1), (7, AV.int IntKind.u64 (bits BinOp.or IntKind.u64 x7 n_1)), (20, v20), (21, AV.int IntKind.i64 v21), (22, AV.int IntKind.i64 (IntKind.i64.wrap (v22 + 1)))], []⟩ st
            else
              (if IntKind.u64.wrap (IntKind.i64.wrap (7 * v22)) < 0 then none
                  else some (AV.int IntKind.u64 (IntKind.u64.wrap (IntKind.u64.wrap (bits BinOp.and IntKind.u8 n 127) * 2 ^ min (IntKind.u64.wrap (IntKind.i64.wrap (7 * v22))).toNat 64)))).bind
                fun v =>
                (intV IntKind.u64 v).bind fun n_1 =>
                  if decide (n < 128) = true then outL false base (AOut.ret (AV.tup [AV.int IntKind.u64 (bits BinOp.or IntKind.u64 x7 n_1), AV.int IntKind.i64 (IntKind.i64.wrap (IntKind.i64.wrap (at1 + v22) + 1)), AV.int IntKind.i64 0])) st
                  else
                    aw 33 base p33_0
                      ⟨[(1, AV.int IntKind.i64 at1), (7, AV.int IntKind.u64 (bits BinOp.or IntKind.u64 x7 n_1)), (20, v20), (21, AV.int IntKind.i64 v21), (22, AV.int IntKind.i64 (IntKind.i64.wrap (v22 + 1)))], []⟩ st
else outL false base (AOut.ret (AV.tup [AV.int IntKind.u64 0, AV.int IntKind.i64 0, AV.int IntKind.i64 200])) st) = some r) :
    aw 33 base p33_0 ⟨[(1, AV.int IntKind.i64 at1), (7, AV.int IntKind.u64 x7), (20, v20), (21, AV.int IntKind.i64 v21), (22, AV.int IntKind.i64 v22)], []⟩ st = some r := atW_of (Eq.trans (by kernel_rfl) h)
theorem F33_1 (at1 : Int) (x7 : Int) (k8 : Int) (c9 : Int) (v20 : AV) (v21 : Int) (v22 : Int) (v27 : Bool) (base : Nat) (st : St) {r : AOut × St} (h : (if v27 = true then outL false base (AOut.ret (AV.tup [AV.int IntKind.u64 0, AV.int IntKind.i64 0, AV.int IntKind.i64 201])) st
else
  (if IntKind.u64.wrap (IntKind.i64.wrap (7 * k8)) < 0 then none else some (AV.int IntKind.u64 (IntKind.u64.wrap (IntKind.u64.wrap (bits BinOp.and IntKind.u8 c9 127) * 2 ^ min (IntKind.u64.wrap (IntKind.i64.wrap (7 * k8))).toNat 64)))).bind
    fun v =>
    (intV IntKind.u64 v).bind fun n =>
      if decide (c9 < 128) = true then outL false base (AOut.ret (AV.tup [AV.int IntKind.u64 (bits BinOp.or IntKind.u64 x7 n), AV.int IntKind.i64 (IntKind.i64.wrap (IntKind.i64.wrap (at1 + k8) + 1)), AV.int IntKind.i64 0])) st
      else
        aw 33 base p33_0
          ⟨[(1, AV.int IntKind.i64 at1), (7, AV.int IntKind.u64 (bits BinOp.or IntKind.u64 x7 n)), (20, v20), (21, AV.int IntKind.i64 v21), (22, AV.int IntKind.i64 (IntKind.i64.wrap (v22 + 1)))], []⟩ st) = some r) :
    aw 33 base p33_1 ⟨[(1, AV.int IntKind.i64 at1), (7, AV.int IntKind.u64 x7), (8, AV.int IntKind.i64 k8), (9, AV.int IntKind.u8 c9), (20, v20), (21, AV.int IntKind.i64 v21), (22, AV.int IntKind.i64 v22), (27, AV.bool v27)], []⟩ st = some r := Eq.trans (by kernel_rfl) h
/-! stencil/leb.TakeInt -/
theorem F34 (b0 : AV) (at1 : Int) (st : St) {r : AOut × St} (h : (callB (cw 33 [b0, AV.int IntKind.i64 at1] st)
  (fun v st_1 =>
    (extractA 0 v).bind fun v_1 =>
      (intV IntKind.u64 v_1).bind fun n =>
        (extractA 1 v).bind fun v_2 =>
          (intV IntKind.i64 v_2).bind fun n_1 =>
            (extractA 2 v).bind fun v =>
              (intV IntKind.i64 v).bind fun n_2 =>
                if (n_2 != 0) = true then outL false (st.length) (AOut.ret (AV.tup [AV.int IntKind.i64 0, AV.int IntKind.i64 0, AV.int IntKind.i64 n_2])) st_1
                else
                  outL false (st.length)
                    (AOut.ret (AV.tup [AV.int IntKind.i64 (bits BinOp.xor IntKind.i64 (IntKind.i64.wrap (n.fdiv 2)) (IntKind.i64.wrap (0 - IntKind.i64.wrap (bits BinOp.and IntKind.u64 n 1)))), AV.int IntKind.i64 n_1, AV.int IntKind.i64 0]))
                    st_1)
  fun v st_1 => outL false (st.length) (AOut.pan v) st_1) = some r) :
    cw 34 [b0, AV.int IntKind.i64 at1] st = some r := callW_of (Eq.trans (by kernel_rfl) h)
/-! stencil/stencillaw0.Num -/
theorem F35 (e0 : Int) (st : St) {r : AOut × St} (h : (outL false (st.length) (AOut.ret (AV.int IntKind.i64 e0)) st) = some r) :
    cw 35 [AV.int IntKind.i64 e0] st = some r := callW_of (Eq.trans (by kernel_rfl) h)
/-! stencil/stencillaw2.awake -/
theorem F36 (st : St) {r : AOut × St} (h : (callB (cw 33 [AV.sl 0 [[AV.int IntKind.u8 9], [AV.int IntKind.u8 128], [AV.int IntKind.u8 1]] 0 3 Tok.exact, AV.int IntKind.i64 1] st)
  (fun v st_1 =>
    (extractA 0 v).bind fun v_1 =>
      (intV IntKind.u64 v_1).bind fun n =>
        (extractA 1 v).bind fun v_2 =>
          (intV IntKind.i64 v_2).bind fun n_1 =>
            (extractA 2 v).bind fun v =>
              (intV IntKind.i64 v).bind fun n_2 =>
                callB (cw 34 [AV.sl 0 [[AV.int IntKind.u8 3]] 0 1 Tok.exact, AV.int IntKind.i64 0] st_1)
                  (fun v st_2 =>
                    (extractA 0 v).bind fun v_3 =>
                      (intV IntKind.i64 v_3).bind fun n_3 =>
                        (extractA 1 v).bind fun v_4 =>
                          (intV IntKind.i64 v_4).bind fun n_4 =>
                            (extractA 2 v).bind fun v =>
                              (intV IntKind.i64 v).bind fun n_5 =>
                                callB (cw 35 [AV.int IntKind.i64 n_2] st_2)
                                  (fun v st_3 =>
                                    (intV IntKind.i64 v).bind fun n_6 =>
                                      if (n_6 == 0) = true then
                                        if (n == 128) = true then
                                          if (n_1 == 3) = true then
                                            callB (cw 35 [AV.int IntKind.i64 n_5] st_3)
                                              (fun v st_4 =>
                                                (intV IntKind.i64 v).bind fun n =>
                                                  if (n == 0) = true then
                                                    if (n_3 == -2) = true then
                                                      if (n_4 == 1) = true then
                                                        callB (cw 27 [AV.int IntKind.u64 127] st_4)
                                                          (fun v st_5 =>
                                                            (lenSl v).bind fun v =>
                                                              (intV IntKind.i64 v).bind fun n =>
                                                                if (n == 1) = true then
                                                                  callB (cw 28 [AV.int IntKind.i64 64] st_5)
                                                                    (fun v st_6 => (lenSl v).bind fun v => (intV IntKind.i64 v).bind fun n => outL false (st.length) (AOut.ret (AV.bool (n == 2))) st_6) fun v st_6 =>
                                                                    outL false (st.length) (AOut.pan v) st_6
                                                                else outL false (st.length) (AOut.ret (AV.bool false)) st_5)
                                                          fun v st_5 => outL false (st.length) (AOut.pan v) st_5
                                                      else outL false (st.length) (AOut.ret (AV.bool false)) st_4
                                                    else outL false (st.length) (AOut.ret (AV.bool false)) st_4
                                                  else outL false (st.length) (AOut.ret (AV.bool false)) st_4)
                                              fun v st_4 => outL false (st.length) (AOut.pan v) st_4
                                          else outL false (st.length) (AOut.ret (AV.bool false)) st_3
                                        else outL false (st.length) (AOut.ret (AV.bool false)) st_3
                                      else outL false (st.length) (AOut.ret (AV.bool false)) st_3)
                                  fun v st_3 => outL false (st.length) (AOut.pan v) st_3)
                  fun v st_2 => outL false (st.length) (AOut.pan v) st_2)
  fun v st_1 => outL false (st.length) (AOut.pan v) st_1) = some r) :
    cw 36 [] st = some r := callW_of (Eq.trans (by kernel_rfl) h)
end Go.Abs
