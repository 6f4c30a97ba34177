/- What each function comes to, by value. Printed by a tool of this claim's author; each equation is checked by the kernel. -/
import Derived.Test.YtahpohhadcflfaaZHints
import Derived.Test.YtahpohhadcflfaaZC
import Derived.KernelRfl
import Derived.Test.YtahpohhadcflfaaZEqA
namespace Go.Abs
open Go Go.Proofs
set_option linter.unusedVariables false
/-! stencil/stencilref18.Least -/
abbrev p26_0 : List Dir := [.sr, .sr, .sr, .sr, .sl, .sr, .bk]
abbrev p26_1 : List Dir := [.sr, .sr, .sr, .sr, .sr, .sr, .sl, .sr, .bk]
abbrev p26_2 : List Dir := [.sr, .sr, .sr, .sr, .sr, .sr, .sr, .sr, .sr, .sr, .sr, .sr, .sl, .sr, .bk]
theorem F26 (olds0 : AV) (oldLoops1 : AV) (news2 : AV) (newLoops3 : AV) (st : St) {r : AOut × St} (h : (callB
  (cw 44 [olds0]
    (AObj.free 0 ::
      AObj.free 0 :: AObj.free 0 :: AObj.box 46 [AV.nils, AV.nils, AV.nils, AV.int IntKind.i64 0, AV.int IntKind.i64 0, AV.int IntKind.i64 0, AV.int IntKind.i64 0, AV.int IntKind.i64 0, AV.int IntKind.i64 0, AV.int IntKind.i64 0] :: st))
  (fun v st_1 =>
    (boolV v).bind fun b =>
      if (!b) = true then
        (cellsV 10 (AV.agg [AV.nils, AV.nils, AV.nils, AV.int IntKind.i64 0, AV.int IntKind.i64 0, AV.int IntKind.i64 0, AV.int IntKind.i64 0, AV.int IntKind.i64 0, AV.int IntKind.i64 0, AV.int IntKind.i64 0])).bind fun cs =>
          (writeA st_1 (AV.bp (st.length) 0) cs).bind fun st_2 => ((ldA Try.prog st_2 46 (AV.bp (st.length) 0)).bind fun v => some [v, AV.int IntKind.i64 1800]).bind fun vs => outL false (st.length) (AOut.ret (outV1 vs)) st_2
      else
        callB (cw 44 [news2] st_1)
          (fun v st_2 =>
            (boolV v).bind fun b =>
              if (!b) = true then
                (cellsV 10 (AV.agg [AV.nils, AV.nils, AV.nils, AV.int IntKind.i64 0, AV.int IntKind.i64 0, AV.int IntKind.i64 0, AV.int IntKind.i64 0, AV.int IntKind.i64 0, AV.int IntKind.i64 0, AV.int IntKind.i64 0])).bind fun cs =>
                  (writeA st_2 (AV.bp (st.length) 0) cs).bind fun st_3 =>
                    ((ldA Try.prog st_3 46 (AV.bp (st.length) 0)).bind fun v => some [v, AV.int IntKind.i64 1800]).bind fun vs => outL false (st.length) (AOut.ret (outV1 vs)) st_3
              else
                callB (cw 45 [oldLoops1] st_2)
                  (fun v st_3 =>
                    (boolV v).bind fun b =>
                      if (!b) = true then
                        (cellsV 10 (AV.agg [AV.nils, AV.nils, AV.nils, AV.int IntKind.i64 0, AV.int IntKind.i64 0, AV.int IntKind.i64 0, AV.int IntKind.i64 0, AV.int IntKind.i64 0, AV.int IntKind.i64 0, AV.int IntKind.i64 0])).bind
                          fun cs =>
                          (writeA st_3 (AV.bp (st.length) 0) cs).bind fun st_4 =>
                            ((ldA Try.prog st_4 46 (AV.bp (st.length) 0)).bind fun v => some [v, AV.int IntKind.i64 1800]).bind fun vs => outL false (st.length) (AOut.ret (outV1 vs)) st_4
                      else
                        callB (cw 45 [newLoops3] st_3)
                          (fun v st_4 =>
                            (boolV v).bind fun b =>
                              if (!b) = true then
                                (cellsV 10 (AV.agg [AV.nils, AV.nils, AV.nils, AV.int IntKind.i64 0, AV.int IntKind.i64 0, AV.int IntKind.i64 0, AV.int IntKind.i64 0, AV.int IntKind.i64 0, AV.int IntKind.i64 0, AV.int IntKind.i64 0])).bind
                                  fun cs =>
                                  (writeA st_4 (AV.bp (st.length) 0) cs).bind fun st_5 =>
                                    ((ldA Try.prog st_5 46 (AV.bp (st.length) 0)).bind fun v => some [v, AV.int IntKind.i64 1800]).bind fun vs => outL false (st.length) (AOut.ret (outV1 vs)) st_5
                              else
                                (lenSl olds0).bind fun v =>
                                  (intV IntKind.i64 v).bind fun n =>
                                    bind2 (makeSl st_4 none 8 1 [AV.int IntKind.i64 0] (AV.int IntKind.i64 n) (AV.int IntKind.i64 n)) fun v st_5 =>
                                      (lenSl news2).bind fun v_1 =>
                                        (intV IntKind.i64 v_1).bind fun n =>
                                          bind2 (makeSl st_5 none 8 1 [AV.int IntKind.i64 0] (AV.int IntKind.i64 n) (AV.int IntKind.i64 n)) fun v_2 st_6 =>
                                            aw 26 (st.length) p26_0
                                              { env := [(0, olds0), (1, oldLoops1), (2, news2), (3, newLoops3), (8, AV.bp (st.length) 0), (10, v), (11, v_2), (12, AV.int IntKind.i64 0)], defers := [] } st_6)
                          fun v st_4 => outL false (st.length) (AOut.pan v) st_4)
                  fun v st_3 => outL false (st.length) (AOut.pan v) st_3)
          fun v st_2 => outL false (st.length) (AOut.pan v) st_2)
  fun v st_1 => outL false (st.length) (AOut.pan v) st_1) = some r) :
    cw 26 [olds0, oldLoops1, news2, newLoops3] st = some r := callW_of (Eq.trans (by kernel_rfl) h)
theorem F26_0 (olds0 : AV) (oldLoops1 : AV) (news2 : AV) (newLoops3 : AV) (v8 : AV) (to10 : AV) (back11 : AV) (i12 : Int) (base : Nat) (st : St) {r : AOut × St} (h : ((lenSl news2).bind fun v =>
  (intV IntKind.i64 v).bind fun n =>
    if decide (i12 < n) = true then
      (natA (AV.int IntKind.i64 i12)).bind fun j =>
        (idxSl st 1 back11 j).bind fun v =>
          (writeA st v [AV.int IntKind.i64 (-1)]).bind fun st =>
            aw 26 base p26_0 { env := [(0, olds0), (1, oldLoops1), (2, news2), (3, newLoops3), (8, v8), (10, to10), (11, back11), (12, AV.int IntKind.i64 (IntKind.i64.wrap (i12 + 1)))], defers := [] } st
    else
      (cellsV 10 (AV.agg [AV.nils, AV.nils, AV.nils, AV.int IntKind.i64 0, AV.int IntKind.i64 0, AV.int IntKind.i64 0, AV.int IntKind.i64 0, AV.int IntKind.i64 0, AV.int IntKind.i64 0, AV.int IntKind.i64 0])).bind fun cs =>
        (writeA
              (AObj.free 0 ::
                AObj.free 0 ::
                  AObj.free 0 :: AObj.box 46 [AV.nils, AV.nils, AV.nils, AV.int IntKind.i64 0, AV.int IntKind.i64 0, AV.int IntKind.i64 0, AV.int IntKind.i64 0, AV.int IntKind.i64 0, AV.int IntKind.i64 0, AV.int IntKind.i64 0] :: st)
              (AV.bp (st.length) 0) cs).bind
          fun st_1 => aw 26 base p26_1 { env := [(0, olds0), (1, oldLoops1), (2, news2), (3, newLoops3), (8, v8), (10, to10), (11, back11), (13, AV.bp (st.length) 0), (14, AV.int IntKind.i64 0)], defers := [] } st_1) = some r) :
    aw 26 base p26_0 { env := [(0, olds0), (1, oldLoops1), (2, news2), (3, newLoops3), (8, v8), (10, to10), (11, back11), (12, AV.int IntKind.i64 i12)], defers := [] } st = some r := atW_of (Eq.trans (by kernel_rfl) h)
theorem F26_1 (olds0 : AV) (oldLoops1 : AV) (news2 : AV) (newLoops3 : AV) (v8 : AV) (to10 : AV) (back11 : AV) (p13 : AV) (i14 : Int) (base : Nat) (st : St) {r : AOut × St} (h : ((lenSl olds0).bind fun v =>
  (intV IntKind.i64 v).bind fun n =>
    if decide (i14 < n) = true then
      (natA (AV.int IntKind.i64 i14)).bind fun j =>
        (idxSl st 30 olds0 j).bind fun v =>
          (ptrAdd 0 v).bind fun v =>
            (readA st v 26 true).bind fun v =>
              callB (cw 46 [news2, v] st)
                (fun v st =>
                  (intV IntKind.i64 v).bind fun n =>
                    (natA (AV.int IntKind.i64 i14)).bind fun j =>
                      (idxSl st 1 to10 j).bind fun v =>
                        (writeA st v [AV.int IntKind.i64 n]).bind fun st =>
                          if decide (n < 0) = true then
                            (ptrAdd 3 p13).bind fun v =>
                              (ptrAdd 4 v).bind fun v =>
                                (readA st v 1 false).bind fun v =>
                                  (intV IntKind.i64 v).bind fun n =>
                                    (ptrAdd 3 p13).bind fun v =>
                                      (ptrAdd 4 v).bind fun v =>
                                        (writeA st v [AV.int IntKind.i64 (IntKind.i64.wrap (n + 1))]).bind fun st =>
                                          aw 26 base p26_1
                                            { env := [(0, olds0), (1, oldLoops1), (2, news2), (3, newLoops3), (8, v8), (10, to10), (11, back11), (13, p13), (14, AV.int IntKind.i64 (IntKind.i64.wrap (i14 + 1)))], defers := [] } st
                          else
                            (natA (AV.int IntKind.i64 n)).bind fun j =>
                              (idxSl st 30 news2 j).bind fun v =>
                                (ptrAdd 27 v).bind fun v =>
                                  (readA st v 1 false).bind fun v =>
                                    (strV v).bind fun s =>
                                      (natA (AV.int IntKind.i64 i14)).bind fun j =>
                                        (idxSl st 30 olds0 j).bind fun v =>
                                          (ptrAdd 27 v).bind fun v =>
                                            (readA st v 1 false).bind fun v =>
                                              (strV v).bind fun s_1 =>
                                                (strA BinOp.neq s s_1).bind fun v =>
                                                  (boolV v).bind fun b =>
                                                    if b = true then
                                                      (cellsV 10
                                                            (AV.agg
                                                              [AV.nils, AV.nils, AV.nils, AV.int IntKind.i64 0, AV.int IntKind.i64 0, AV.int IntKind.i64 0, AV.int IntKind.i64 0, AV.int IntKind.i64 0, AV.int IntKind.i64 0,
                                                                AV.int IntKind.i64 0])).bind
                                                        fun cs => (writeA st v8 cs).bind fun st => ((ldA Try.prog st 46 v8).bind fun v => some [v, AV.int IntKind.i64 1800]).bind fun vs => outL false base (AOut.ret (outV1 vs)) st
                                                    else
                                                      (natA (AV.int IntKind.i64 n)).bind fun j =>
                                                        (idxSl st 1 back11 j).bind fun v =>
                                                          (writeA st v [AV.int IntKind.i64 i14]).bind fun st =>
                                                            (ptrAdd 0 p13).bind fun v =>
                                                              (readA st v 1 false).bind fun v_1 =>
                                                                (cellsV 2 (AV.agg [AV.int IntKind.i64 i14, AV.int IntKind.i64 n])).bind fun cs =>
                                                                  bind2
                                                                    (appendL st (homeV (fun t c => ((List.find? (fun x => x.fst == t) trycells).bind fun x => List.findIdx?.go (fun x => x == c) x.snd 0).getD 0) false st v) 16 2 v_1
                                                                      (AV.sl 2 [List.map AV.strip cs] 0 1 Tok.exact))
                                                                    fun v st =>
                                                                    (ptrAdd 0 p13).bind fun v_2 =>
                                                                      (cell1 v).bind fun c =>
                                                                        (writeA st v_2 [c]).bind fun st =>
                                                                          (natA (AV.int IntKind.i64 i14)).bind fun j =>
                                                                            (idxSl st 30 olds0 j).bind fun v =>
                                                                              (ptrAdd 27 v).bind fun v =>
                                                                                (readA st v 1 false).bind fun v =>
                                                                                  (strV v).bind fun s =>
                                                                                    (strA BinOp.eql s []).bind fun v =>
                                                                                      (boolV v).bind fun b =>
                                                                                        if b = true then
                                                                                          (natA (AV.int IntKind.i64 i14)).bind fun j =>
                                                                                            (idxSl st 30 olds0 j).bind fun v =>
                                                                                              (ptrAdd 28 v).bind fun v =>
                                                                                                (readA st v 1 false).bind fun v =>
                                                                                                  (strV v).bind fun s =>
                                                                                                    (natA (AV.int IntKind.i64 n)).bind fun j =>
                                                                                                      (idxSl st 30 news2 j).bind fun v =>
                                                                                                        (ptrAdd 28 v).bind fun v =>
                                                                                                          (readA st v 1 false).bind fun v =>
                                                                                                            (strV v).bind fun s_2 =>
                                                                                                              (strA BinOp.neq s s_2).bind fun v =>
                                                                                                                (boolV v).bind fun b =>
                                                                                                                  if b = true then
                                                                                                                    (ptrAdd 3 p13).bind fun v =>
                                                                                                                      (ptrAdd 6 v).bind fun v =>
                                                                                                                        (readA st v 1 false).bind fun v =>
                                                                                                                          (intV IntKind.i64 v).bind fun n_1 =>
                                                                                                                            (ptrAdd 3 p13).bind fun v =>
                                                                                                                              (ptrAdd 6 v).bind fun v =>
                                                                                                                                (writeA st v [AV.int IntKind.i64 (IntKind.i64.wrap (n_1 + 1))]).bind fun st =>
                                                                                                                                  (natA (AV.int IntKind.i64 i14)).bind fun j =>
                                                                                                                                    (idxSl st 30 olds0 j).bind fun v =>
                                                                                                                                      (ptrAdd 27 v).bind fun v =>
                                                                                                                                        (readA st v 1 false).bind fun v =>
                                                                                                                                          (strV v).bind fun s =>
                                                                                                                                            (strA BinOp.neq s []).bind fun v =>
                                                                                                                                              (boolV v).bind fun b =>
                                                                                                                                                if b = true then
                                                                                                                                                  (ptrAdd 3 p13).bind fun v =>
                                                                                                                                                    (ptrAdd 5 v).bind fun v_3 =>
                                                                                                                                                      (readA st v_3 1 false).bind fun v_4 =>
                                                                                                                                                        (intV IntKind.i64 v_4).bind fun n_2 =>
                                                                                                                                                          (natA (AV.int IntKind.i64 i14)).bind fun j =>
                                                                                                                                                            (idxSl st 30 olds0 j).bind fun v_5 =>
                                                                                                                                                              (ptrAdd 29 v_5).bind fun v_6 =>
                                                                                                                                                                (readA st v_6 1 false).bind fun v_7 =>
                                                                                                                                                                  (natA (AV.int IntKind.i64 n)).bind fun j =>
                                                                                                                                                                    (idxSl st 30 news2 j).bind fun v_8 =>
                                                                                                                                                                      (ptrAdd 29 v_8).bind fun v_9 =>
                                                                                                                                                                        (readA st v_9 1 false).bind fun v_10 =>
                                                                                                                                                                          callB (cw 47 [v_7, v_10] st)
                                                                                                                                                                            (fun v_11 st_1 =>
                                                                                                                                                                              (intV IntKind.i64 v_11).bind fun n_3 =>
                                                                                                                                                                                (ptrAdd 3 p13).bind fun v_12 =>
                                                                                                                                                                                  (ptrAdd 5 v_12).bind fun v_13 =>
                                                                                                                                                                                    (writeA st_1 v_13
                                                                                                                                                                                          [AV.int IntKind.i64
                                                                                                                                                                                              (IntKind.i64.wrap (n_2 + n_3))]).bind
                                                                                                                                                                                      fun st_2 =>
                                                                                                                                                                                      if
                                                                                                                                                                                          ((if isIp v_3 = true then true
                                                                                                                                                                                              else
                                                                                                                                                                                                (List.range.loop [st_2, st_1, st].length []).all
                                                                                                                                                                                                  fun s =>
                                                                                                                                                                                                  if 0 ≤ s ∧ s ≤ 1 then
                                                                                                                                                                                                    match
                                                                                                                                                                                                      [st_2, st_1,
                                                                                                                                                                                                          st][[st_2, st_1, st].length - 1 -
                                                                                                                                                                                                          s]? with
                                                                                                                                                                                                    | some st =>
                                                                                                                                                                                                      match
                                                                                                                                                                                                        Option.map (fun v => (Res.val v, st))
                                                                                                                                                                                                          (ldA Try.prog st 3 v_3) with
                                                                                                                                                                                                      | some (Res.val v', snd) =>
                                                                                                                                                                                                        (AV.int IntKind.i64 n_2).beq v'
                                                                                                                                                                                                      | x => false
                                                                                                                                                                                                    | none => false
                                                                                                                                                                                                  else true) &&
                                                                                                                                                                                              true) =
                                                                                                                                                                                            true then
                                                                                                                                                                                        aw 26 base p26_1
                                                                                                                                                                                          {
                                                                                                                                                                                            env :=
                                                                                                                                                                                              [(0, olds0), (1, oldLoops1), (2, news2),
                                                                                                                                                                                                (3, newLoops3), (8, v8), (10, to10),
                                                                                                                                                                                                (11, back11), (13, p13),
                                                                                                                                                                                                (14,
                                                                                                                                                                                                  AV.int IntKind.i64
                                                                                                                                                                                                    (IntKind.i64.wrap (i14 + 1)))],
                                                                                                                                                                                            defers := [] }
                                                                                                                                                                                          st_2
                                                                                                                                                                                      else none)
                                                                                                                                                                            fun v_11 st_1 =>
                                                                                                                                                                            if
                                                                                                                                                                                ((if isIp v_3 = true then true
                                                                                                                                                                                    else
                                                                                                                                                                                      (List.range.loop [st].length []).all fun s =>
                                                                                                                                                                                        if 0 ≤ s ∧ s ≤ 1 then
                                                                                                                                                                                          match [st][[st].length - 1 - s]? with
                                                                                                                                                                                          | some st =>
                                                                                                                                                                                            match
                                                                                                                                                                                              Option.map (fun v => (Res.val v, st))
                                                                                                                                                                                                (ldA Try.prog st 3 v_3) with
                                                                                                                                                                                            | some (Res.val v', snd) =>
                                                                                                                                                                                              (AV.int IntKind.i64 n_2).beq v'
                                                                                                                                                                                            | x => false
                                                                                                                                                                                          | none => false
                                                                                                                                                                                        else true) &&
                                                                                                                                                                                    true) =
                                                                                                                                                                                  true then
                                                                                                                                                                              outL false base (AOut.pan v_11) st_1
                                                                                                                                                                            else none
                                                                                                                                                else
                                                                                                                                                  aw 26 base p26_1
                                                                                                                                                    {
                                                                                                                                                      env :=
                                                                                                                                                        [(0, olds0), (1, oldLoops1), (2, news2), (3, newLoops3), (8, v8), (10, to10),
                                                                                                                                                          (11, back11), (13, p13), (14, AV.int IntKind.i64 (IntKind.i64.wrap (i14 + 1)))],
                                                                                                                                                      defers := [] }
                                                                                                                                                    st
                                                                                                                  else
                                                                                                                    (natA (AV.int IntKind.i64 i14)).bind fun j =>
                                                                                                                      (idxSl st 30 olds0 j).bind fun v =>
                                                                                                                        (ptrAdd 27 v).bind fun v =>
                                                                                                                          (readA st v 1 false).bind fun v =>
                                                                                                                            (strV v).bind fun s =>
                                                                                                                              (strA BinOp.neq s []).bind fun v =>
                                                                                                                                (boolV v).bind fun b =>
                                                                                                                                  if b = true then
                                                                                                                                    (ptrAdd 3 p13).bind fun v =>
                                                                                                                                      (ptrAdd 5 v).bind fun v_3 =>
                                                                                                                                        (readA st v_3 1 false).bind fun v_4 =>
                                                                                                                                          (intV IntKind.i64 v_4).bind fun n_1 =>
                                                                                                                                            (natA (AV.int IntKind.i64 i14)).bind fun j =>
                                                                                                                                              (idxSl st 30 olds0 j).bind fun v_5 =>
                                                                                                                                                (ptrAdd 29 v_5).bind fun v_6 =>
                                                                                                                                                  (readA st v_6 1 false).bind fun v_7 =>
                                                                                                                                                    (natA (AV.int IntKind.i64 n)).bind fun j =>
                                                                                                                                                      (idxSl st 30 news2 j).bind fun v_8 =>
                                                                                                                                                        (ptrAdd 29 v_8).bind fun v_9 =>
                                                                                                                                                          (readA st v_9 1 false).bind fun v_10 =>
                                                                                                                                                            callB (cw 47 [v_7, v_10] st)
                                                                                                                                                              (fun v_11 st_1 =>
                                                                                                                                                                (intV IntKind.i64 v_11).bind fun n_2 =>
                                                                                                                                                                  (ptrAdd 3 p13).bind fun v_12 =>
                                                                                                                                                                    (ptrAdd 5 v_12).bind fun v_13 =>
                                                                                                                                                                      (writeA st_1 v_13
                                                                                                                                                                            [AV.int IntKind.i64 (IntKind.i64.wrap (n_1 + n_2))]).bind
                                                                                                                                                                        fun st_2 =>
                                                                                                                                                                        if
                                                                                                                                                                            ((if isIp v_3 = true then true
                                                                                                                                                                                else
                                                                                                                                                                                  (List.range.loop [st_2, st_1, st].length []).all fun s =>
                                                                                                                                                                                    if 0 ≤ s ∧ s ≤ 1 then
                                                                                                                                                                                      match
                                                                                                                                                                                        [st_2, st_1, st][[st_2, st_1, st].length - 1 - s]? with
                                                                                                                                                                                      | some st =>
                                                                                                                                                                                        match
                                                                                                                                                                                          Option.map (fun v => (Res.val v, st))
                                                                                                                                                                                            (ldA Try.prog st 3 v_3) with
                                                                                                                                                                                        | some (Res.val v', snd) =>
                                                                                                                                                                                          (AV.int IntKind.i64 n_1).beq v'
                                                                                                                                                                                        | x => false
                                                                                                                                                                                      | none => false
                                                                                                                                                                                    else true) &&
                                                                                                                                                                                true) =
                                                                                                                                                                              true then
                                                                                                                                                                          aw 26 base p26_1
                                                                                                                                                                            {
                                                                                                                                                                              env :=
                                                                                                                                                                                [(0, olds0), (1, oldLoops1), (2, news2), (3, newLoops3),
                                                                                                                                                                                  (8, v8), (10, to10), (11, back11), (13, p13),
                                                                                                                                                                                  (14, AV.int IntKind.i64 (IntKind.i64.wrap (i14 + 1)))],
                                                                                                                                                                              defers := [] }
                                                                                                                                                                            st_2
                                                                                                                                                                        else none)
                                                                                                                                                              fun v_11 st_1 =>
                                                                                                                                                              if
                                                                                                                                                                  ((if isIp v_3 = true then true
                                                                                                                                                                      else
                                                                                                                                                                        (List.range.loop [st].length []).all fun s =>
                                                                                                                                                                          if 0 ≤ s ∧ s ≤ 1 then
                                                                                                                                                                            match [st][[st].length - 1 - s]? with
                                                                                                                                                                            | some st =>
                                                                                                                                                                              match
                                                                                                                                                                                Option.map (fun v => (Res.val v, st))
                                                                                                                                                                                  (ldA Try.prog st 3 v_3) with
                                                                                                                                                                              | some (Res.val v', snd) => (AV.int IntKind.i64 n_1).beq v'
                                                                                                                                                                              | x => false
                                                                                                                                                                            | none => false
                                                                                                                                                                          else true) &&
                                                                                                                                                                      true) =
                                                                                                                                                                    true then
                                                                                                                                                                outL false base (AOut.pan v_11) st_1
                                                                                                                                                              else none
                                                                                                                                  else
                                                                                                                                    aw 26 base p26_1
                                                                                                                                      {
                                                                                                                                        env :=
                                                                                                                                          [(0, olds0), (1, oldLoops1), (2, news2), (3, newLoops3), (8, v8), (10, to10), (11, back11), (13, p13),
                                                                                                                                            (14, AV.int IntKind.i64 (IntKind.i64.wrap (i14 + 1)))],
                                                                                                                                        defers := [] }
                                                                                                                                      st
                                                                                        else
                                                                                          (natA (AV.int IntKind.i64 i14)).bind fun j =>
                                                                                            (idxSl st 30 olds0 j).bind fun v =>
                                                                                              (ptrAdd 27 v).bind fun v =>
                                                                                                (readA st v 1 false).bind fun v =>
                                                                                                  (strV v).bind fun s =>
                                                                                                    (strA BinOp.neq s []).bind fun v =>
                                                                                                      (boolV v).bind fun b =>
                                                                                                        if b = true then
                                                                                                          (ptrAdd 3 p13).bind fun v =>
                                                                                                            (ptrAdd 5 v).bind fun v_3 =>
                                                                                                              (readA st v_3 1 false).bind fun v_4 =>
                                                                                                                (intV IntKind.i64 v_4).bind fun n_1 =>
                                                                                                                  (natA (AV.int IntKind.i64 i14)).bind fun j =>
                                                                                                                    (idxSl st 30 olds0 j).bind fun v_5 =>
                                                                                                                      (ptrAdd 29 v_5).bind fun v_6 =>
                                                                                                                        (readA st v_6 1 false).bind fun v_7 =>
                                                                                                                          (natA (AV.int IntKind.i64 n)).bind fun j =>
                                                                                                                            (idxSl st 30 news2 j).bind fun v_8 =>
                                                                                                                              (ptrAdd 29 v_8).bind fun v_9 =>
                                                                                                                                (readA st v_9 1 false).bind fun v_10 =>
                                                                                                                                  callB (cw 47 [v_7, v_10] st)
                                                                                                                                    (fun v_11 st_1 =>
                                                                                                                                      (intV IntKind.i64 v_11).bind fun n_2 =>
                                                                                                                                        (ptrAdd 3 p13).bind fun v_12 =>
                                                                                                                                          (ptrAdd 5 v_12).bind fun v_13 =>
                                                                                                                                            (writeA st_1 v_13 [AV.int IntKind.i64 (IntKind.i64.wrap (n_1 + n_2))]).bind fun st_2 =>
                                                                                                                                              if
                                                                                                                                                  ((if isIp v_3 = true then true
                                                                                                                                                      else
                                                                                                                                                        (List.range.loop [st_2, st_1, st].length []).all fun s =>
                                                                                                                                                          if 0 ≤ s ∧ s ≤ 1 then
                                                                                                                                                            match [st_2, st_1, st][[st_2, st_1, st].length - 1 - s]? with
                                                                                                                                                            | some st =>
                                                                                                                                                              match Option.map (fun v => (Res.val v, st)) (ldA Try.prog st 3 v_3) with
                                                                                                                                                              | some (Res.val v', snd) => (AV.int IntKind.i64 n_1).beq v'
                                                                                                                                                              | x => false
                                                                                                                                                            | none => false
                                                                                                                                                          else true) &&
                                                                                                                                                      true) =
                                                                                                                                                    true then
                                                                                                                                                aw 26 base p26_1
                                                                                                                                                  {
                                                                                                                                                    env :=
                                                                                                                                                      [(0, olds0), (1, oldLoops1), (2, news2), (3, newLoops3), (8, v8), (10, to10),
                                                                                                                                                        (11, back11), (13, p13), (14, AV.int IntKind.i64 (IntKind.i64.wrap (i14 + 1)))],
                                                                                                                                                    defers := [] }
                                                                                                                                                  st_2
                                                                                                                                              else none)
                                                                                                                                    fun v_11 st_1 =>
                                                                                                                                    if
                                                                                                                                        ((if isIp v_3 = true then true
                                                                                                                                            else
                                                                                                                                              (List.range.loop [st].length []).all fun s =>
                                                                                                                                                if 0 ≤ s ∧ s ≤ 1 then
                                                                                                                                                  match [st][[st].length - 1 - s]? with
                                                                                                                                                  | some st =>
                                                                                                                                                    match Option.map (fun v => (Res.val v, st)) (ldA Try.prog st 3 v_3) with
                                                                                                                                                    | some (Res.val v', snd) => (AV.int IntKind.i64 n_1).beq v'
                                                                                                                                                    | x => false
                                                                                                                                                  | none => false
                                                                                                                                                else true) &&
                                                                                                                                            true) =
                                                                                                                                          true then
                                                                                                                                      outL false base (AOut.pan v_11) st_1
                                                                                                                                    else none
                                                                                                        else
                                                                                                          aw 26 base p26_1
                                                                                                            {
                                                                                                              env :=
                                                                                                                [(0, olds0), (1, oldLoops1), (2, news2), (3, newLoops3), (8, v8), (10, to10), (11, back11), (13, p13),
                                                                                                                  (14, AV.int IntKind.i64 (IntKind.i64.wrap (i14 + 1)))],
                                                                                                              defers := [] }
                                                                                                            st)
                fun v st => outL false base (AOut.pan v) st
    else
      callB (cw 48 [olds0, to10] st)
        (fun v st =>
          (ptrAdd 1 p13).bind fun v_1 =>
            (cell1 v).bind fun c =>
              (writeA st v_1 [c]).bind fun st =>
                callB (cw 48 [news2, back11] st)
                  (fun v st =>
                    (ptrAdd 2 p13).bind fun v_2 =>
                      (cell1 v).bind fun c =>
                        (writeA st v_2 [c]).bind fun st =>
                          (lenSl news2).bind fun v =>
                            (intV IntKind.i64 v).bind fun n =>
                              (ptrAdd 0 p13).bind fun v =>
                                (readA st v 1 false).bind fun v =>
                                  (lenSl v).bind fun v =>
                                    (intV IntKind.i64 v).bind fun n_1 =>
                                      (ptrAdd 3 p13).bind fun v =>
                                        (ptrAdd 0 v).bind fun v =>
                                          (writeA st v [AV.int IntKind.i64 (IntKind.i64.wrap (n - n_1))]).bind fun st =>
                                            (ptrAdd 2 p13).bind fun v =>
                                              (readA st v 1 false).bind fun v =>
                                                (lenSl v).bind fun v =>
                                                  (intV IntKind.i64 v).bind fun n =>
                                                    (ptrAdd 3 p13).bind fun v =>
                                                      (ptrAdd 1 v).bind fun v =>
                                                        (writeA st v [AV.int IntKind.i64 n]).bind fun st =>
                                                          (ptrAdd 1 p13).bind fun v =>
                                                            (readA st v 1 false).bind fun v =>
                                                              (lenSl v).bind fun v =>
                                                                (intV IntKind.i64 v).bind fun n =>
                                                                  (ptrAdd 3 p13).bind fun v =>
                                                                    (ptrAdd 3 v).bind fun v =>
                                                                      (writeA st v [AV.int IntKind.i64 n]).bind fun st =>
                                                                        aw 26 base p26_2 { env := [(1, oldLoops1), (3, newLoops3), (8, v8), (13, p13), (16, AV.int IntKind.i64 0)], defers := [] } st)
                  fun v st => outL false base (AOut.pan v) st)
        fun v st => outL false base (AOut.pan v) st) = some r) :
    aw 26 base p26_1 { env := [(0, olds0), (1, oldLoops1), (2, news2), (3, newLoops3), (8, v8), (10, to10), (11, back11), (13, p13), (14, AV.int IntKind.i64 i14)], defers := [] } st = some r := atW_of (Eq.trans (by kernel_rfl) h)
theorem F26_2 (oldLoops1 : AV) (newLoops3 : AV) (v8 : AV) (p13 : AV) (i16 : Int) (base : Nat) (st : St) {r : AOut × St} (h : ((lenSl oldLoops1).bind fun v =>
  (intV IntKind.i64 v).bind fun n =>
    if decide (i16 < n) = true then
      (natA (AV.int IntKind.i64 i16)).bind fun j =>
        (idxSl st 27 oldLoops1 j).bind fun v =>
          (ptrAdd 0 v).bind fun v =>
            (readA st v 26 true).bind fun v =>
              callB (cw 49 [newLoops3, v] st)
                (fun v st =>
                  (intV IntKind.i64 v).bind fun n =>
                    if decide (n ≥ 0) = true then
                      (natA (AV.int IntKind.i64 i16)).bind fun j =>
                        (idxSl st 27 oldLoops1 j).bind fun v =>
                          (ptrAdd 26 v).bind fun v =>
                            (readA st v 1 false).bind fun v =>
                              (natA (AV.int IntKind.i64 n)).bind fun j =>
                                (idxSl st 27 newLoops3 j).bind fun v_1 =>
                                  (ptrAdd 26 v_1).bind fun v_2 =>
                                    (readA st v_2 1 false).bind fun v_3 =>
                                      callB (cw 18 [v, v_3] st)
                                        (fun v st =>
                                          (extractA 0 v).bind fun v_4 =>
                                            (intV IntKind.i64 v_4).bind fun n =>
                                              (extractA 1 v).bind fun v_5 =>
                                                (intV IntKind.i64 v_5).bind fun n =>
                                                  (extractA 2 v).bind fun v =>
                                                    (intV IntKind.i64 v).bind fun n_1 =>
                                                      (ptrAdd 3 p13).bind fun v =>
                                                        (ptrAdd 2 v).bind fun v =>
                                                          (readA st v 1 false).bind fun v =>
                                                            (intV IntKind.i64 v).bind fun n_2 =>
                                                              (ptrAdd 3 p13).bind fun v =>
                                                                (ptrAdd 2 v).bind fun v =>
                                                                  (writeA st v [AV.int IntKind.i64 (IntKind.i64.wrap (n_2 + n))]).bind fun st =>
                                                                    aw 26 base p26_2 { env := [(1, oldLoops1), (3, newLoops3), (8, v8), (13, p13), (16, AV.int IntKind.i64 (IntKind.i64.wrap (i16 + 1)))], defers := [] } st)
                                        fun v st => outL false base (AOut.pan v) st
                    else aw 26 base p26_2 { env := [(1, oldLoops1), (3, newLoops3), (8, v8), (13, p13), (16, AV.int IntKind.i64 (IntKind.i64.wrap (i16 + 1)))], defers := [] } st)
                fun v st => outL false base (AOut.pan v) st
    else (readA st p13 10 true).bind fun v => (cellsV 10 v).bind fun cs => (writeA st v8 cs).bind fun st => ((ldA Try.prog st 46 v8).bind fun v => some [v, AV.int IntKind.i64 0]).bind fun vs => outL false base (AOut.ret (outV1 vs)) st) = some r) :
    aw 26 base p26_2 { env := [(1, oldLoops1), (3, newLoops3), (8, v8), (13, p13), (16, AV.int IntKind.i64 i16)], defers := [] } st = some r := atW_of (Eq.trans (by kernel_rfl) h)
end Go.Abs
