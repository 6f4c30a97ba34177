/- What each function comes to, by value. Printed by a tool of this claim's author; each equation is checked by the kernel. -/
import Derived.Test.YtahpohhadcflfaaZHints
import Derived.Test.YtahpohhadcflfaaZC
import Derived.KernelRfl
import Derived.Test.YtahpohhadcflfaaZEqA
namespace Go.Abs
open Go Go.Proofs
set_option linter.unusedVariables false
/-! stencil/patch.Least -/
abbrev p25_0 : List Dir := [.sr, .sr, .sr, .sr, .sl, .sr, .bk]
abbrev p25_1 : List Dir := [.sr, .sr, .sr, .sr, .sr, .sr, .sr, .sr, .sl, .sr, .bk]
theorem F25 (olds0 : AV) (oldLoops1 : AV) (news2 : AV) (newLoops3 : AV) (st : St) {r : AOut × St} (h : (callB
  (cw 40 [olds0, oldLoops1]
    (AObj.free 0 ::
      AObj.free 0 :: AObj.free 0 :: AObj.box 46 [AV.nils, AV.nils, AV.nils, AV.int IntKind.i64 0, AV.int IntKind.i64 0, AV.int IntKind.i64 0, AV.int IntKind.i64 0, AV.int IntKind.i64 0, AV.int IntKind.i64 0, AV.int IntKind.i64 0] :: st))
  (fun v st_1 =>
    callB (cw 40 [news2, newLoops3] st_1)
      (fun v_1 st_2 =>
        (binA Try.prog BinOp.eql 75 true v AV.nilp).bind fun v_2 =>
          (boolV v_2).bind fun b =>
            if b = true then
              (cellsV 10 (AV.agg [AV.nils, AV.nils, AV.nils, AV.int IntKind.i64 0, AV.int IntKind.i64 0, AV.int IntKind.i64 0, AV.int IntKind.i64 0, AV.int IntKind.i64 0, AV.int IntKind.i64 0, AV.int IntKind.i64 0])).bind fun cs =>
                (writeA st_2 (AV.bp (st.length) 0) cs).bind fun st_3 =>
                  ((ldA Try.prog st_3 46 (AV.bp (st.length) 0)).bind fun v => some [v, AV.int IntKind.i64 1800]).bind fun vs => outL true (st.length) (AOut.ret (outV1 vs)) st_3
            else
              (binA Try.prog BinOp.eql 75 true v_1 AV.nilp).bind fun v_3 =>
                (boolV v_3).bind fun b =>
                  if b = true then
                    (cellsV 10 (AV.agg [AV.nils, AV.nils, AV.nils, AV.int IntKind.i64 0, AV.int IntKind.i64 0, AV.int IntKind.i64 0, AV.int IntKind.i64 0, AV.int IntKind.i64 0, AV.int IntKind.i64 0, AV.int IntKind.i64 0])).bind fun cs =>
                      (writeA st_2 (AV.bp (st.length) 0) cs).bind fun st_3 =>
                        ((ldA Try.prog st_3 46 (AV.bp (st.length) 0)).bind fun v => some [v, AV.int IntKind.i64 1800]).bind fun vs => outL true (st.length) (AOut.ret (outV1 vs)) st_3
                  else
                    (lenSl olds0).bind fun v_4 =>
                      (intV IntKind.i64 v_4).bind fun n =>
                        aw 25 (st.length) p25_0
                          { env := [(0, olds0), (1, oldLoops1), (2, news2), (3, newLoops3), (8, AV.bp (st.length) 0), (10, v), (11, v_1), (12, AV.bp (st_2.length) 0), (38, AV.int IntKind.i64 n), (39, AV.int IntKind.i64 0)],
                            defers := [] }
                          (AObj.free 0 ::
                            AObj.free 0 ::
                              AObj.free 0 ::
                                AObj.box 46 [AV.nils, AV.nils, AV.nils, AV.int IntKind.i64 0, AV.int IntKind.i64 0, AV.int IntKind.i64 0, AV.int IntKind.i64 0, AV.int IntKind.i64 0, AV.int IntKind.i64 0, AV.int IntKind.i64 0] :: st_2))
      fun v st_2 => outL true (st.length) (AOut.pan v) st_2)
  fun v st_1 => outL true (st.length) (AOut.pan v) st_1) = some r) :
    cw 25 [olds0, oldLoops1, news2, newLoops3] st = some r := callW_of (Eq.trans (by kernel_rfl) h)
theorem F25_0 (olds0 : AV) (oldLoops1 : AV) (news2 : AV) (newLoops3 : AV) (v8 : AV) (a10 : AV) (b11 : AV) (p12 : AV) (v38 : Int) (v39 : Int) (base : Nat) (st : St) {r : AOut × St} (h : (if decide (v39 < v38) = true then
  (nilCheckA b11).bind fun v =>
    (ptrAdd 2 v).bind fun v =>
      (readA st v 1 false).bind fun v =>
        (natA (AV.int IntKind.i64 v39)).bind fun j =>
          (idxSl st 30 olds0 j).bind fun v_1 =>
            (ptrAdd 0 v_1).bind fun v_2 =>
              (readA st v_2 26 true).bind fun v_3 =>
                (lookupA Try.prog st 77 v v_3 true).bind fun v =>
                  (extractA 0 v).bind fun v_4 =>
                    (intV IntKind.i64 v_4).bind fun n =>
                      (extractA 1 v).bind fun v =>
                        (boolV v).bind fun b =>
                          if (!b) = true then
                            aw 25 base p25_0
                              { env := [(0, olds0), (1, oldLoops1), (2, news2), (3, newLoops3), (8, v8), (10, a10), (11, b11), (12, p12), (38, AV.int IntKind.i64 v38), (39, AV.int IntKind.i64 (IntKind.i64.wrap (v39 + 1)))], defers := [] }
                              st
                          else
                            (natA (AV.int IntKind.i64 v39)).bind fun j =>
                              (idxSl st 30 olds0 j).bind fun v =>
                                (natA (AV.int IntKind.i64 n)).bind fun j =>
                                  (idxSl st 30 news2 j).bind fun v_5 =>
                                    (nilCheckA v).bind fun v_6 =>
                                      (ptrAdd 27 v_6).bind fun v_7 =>
                                        (readA st v_7 1 false).bind fun v_8 =>
                                          (strV v_8).bind fun s =>
                                            (nilCheckA v_5).bind fun v_9 =>
                                              (ptrAdd 27 v_9).bind fun v_10 =>
                                                (readA st v_10 1 false).bind fun v_11 =>
                                                  (strV v_11).bind fun s_1 =>
                                                    (strA BinOp.neq s s_1).bind fun v_12 =>
                                                      (boolV v_12).bind fun b =>
                                                        if b = true then
                                                          (cellsV 10
                                                                (AV.agg
                                                                  [AV.nils, AV.nils, AV.nils, AV.int IntKind.i64 0, AV.int IntKind.i64 0, AV.int IntKind.i64 0, AV.int IntKind.i64 0, AV.int IntKind.i64 0, AV.int IntKind.i64 0,
                                                                    AV.int IntKind.i64 0])).bind
                                                            fun cs => (writeA st v8 cs).bind fun st => ((ldA Try.prog st 46 v8).bind fun v => some [v, AV.int IntKind.i64 1800]).bind fun vs => outL true base (AOut.ret (outV1 vs)) st
                                                        else
                                                          (ptrAdd 0 p12).bind fun v_13 =>
                                                            (readA st v_13 1 false).bind fun v_14 =>
                                                              (cellsV 2 (AV.agg [AV.int IntKind.i64 v39, AV.int IntKind.i64 n])).bind fun cs =>
                                                                bind2
                                                                  (appendL st (homeV (fun t c => ((List.find? (fun x => x.fst == t) trycells).bind fun x => List.findIdx?.go (fun x => x == c) x.snd 0).getD 0) true st v_13) 16 2 v_14
                                                                    (AV.sl 2 [List.map AV.strip cs] 0 1 Tok.exact))
                                                                  fun v_15 st =>
                                                                  (ptrAdd 0 p12).bind fun v_16 =>
                                                                    (cell1 v_15).bind fun c =>
                                                                      (writeA st v_16 [c]).bind fun st =>
                                                                        (nilCheckA v).bind fun v_17 =>
                                                                          (ptrAdd 28 v_17).bind fun v_18 =>
                                                                            (readA st v_18 1 false).bind fun v_19 =>
                                                                              (strV v_19).bind fun s =>
                                                                                (nilCheckA v_5).bind fun v_20 =>
                                                                                  (ptrAdd 28 v_20).bind fun v_21 =>
                                                                                    (readA st v_21 1 false).bind fun v_22 =>
                                                                                      (strV v_22).bind fun s_2 =>
                                                                                        (strA BinOp.neq s s_2).bind fun v_23 =>
                                                                                          (boolV v_23).bind fun b =>
                                                                                            if b = true then
                                                                                              (ptrAdd 3 p12).bind fun v_24 =>
                                                                                                (ptrAdd 6 v_24).bind fun v_25 =>
                                                                                                  (readA st v_25 1 false).bind fun v_26 =>
                                                                                                    (intV IntKind.i64 v_26).bind fun n =>
                                                                                                      (ptrAdd 3 p12).bind fun v_27 =>
                                                                                                        (ptrAdd 6 v_27).bind fun v_28 =>
                                                                                                          (writeA st v_28 [AV.int IntKind.i64 (IntKind.i64.wrap (n + 1))]).bind fun st =>
                                                                                                            (ptrAdd 3 p12).bind fun v_29 =>
                                                                                                              (ptrAdd 5 v_29).bind fun v_30 =>
                                                                                                                (readA st v_30 1 false).bind fun v_31 =>
                                                                                                                  (intV IntKind.i64 v_31).bind fun n =>
                                                                                                                    (nilCheckA v).bind fun v_32 =>
                                                                                                                      (ptrAdd 29 v_32).bind fun v_33 =>
                                                                                                                        (readA st v_33 1 false).bind fun v_34 =>
                                                                                                                          (nilCheckA v_5).bind fun v_35 =>
                                                                                                                            (ptrAdd 29 v_35).bind fun v_36 =>
                                                                                                                              (readA st v_36 1 false).bind fun v_37 =>
                                                                                                                                callB (cw 41 [v_34, v_37] st)
                                                                                                                                  (fun v_38 st_1 =>
                                                                                                                                    (intV IntKind.i64 v_38).bind fun n_1 =>
                                                                                                                                      (ptrAdd 3 p12).bind fun v_39 =>
                                                                                                                                        (ptrAdd 5 v_39).bind fun v_40 =>
                                                                                                                                          (writeA st_1 v_40 [AV.int IntKind.i64 (IntKind.i64.wrap (n + n_1))]).bind fun st_2 =>
                                                                                                                                            if
                                                                                                                                                ((if isIp v_30 = true then true
                                                                                                                                                    else
                                                                                                                                                      (List.range.loop [st_2, st_1, st].length []).all fun s =>
                                                                                                                                                        if 0 ≤ s ∧ s ≤ 1 then
                                                                                                                                                          match [st_2, st_1, st][[st_2, st_1, st].length - 1 - s]? with
                                                                                                                                                          | some st =>
                                                                                                                                                            match Option.map (fun v => (Res.val v, st)) (ldA Try.prog st 3 v_30) with
                                                                                                                                                            | some (Res.val v', snd) => (AV.int IntKind.i64 n).beq v'
                                                                                                                                                            | x => false
                                                                                                                                                          | none => false
                                                                                                                                                        else true) &&
                                                                                                                                                    true) =
                                                                                                                                                  true then
                                                                                                                                              aw 25 base p25_0
                                                                                                                                                {
                                                                                                                                                  env :=
                                                                                                                                                    [(0, olds0), (1, oldLoops1), (2, news2), (3, newLoops3), (8, v8), (10, a10), (11, b11),
                                                                                                                                                      (12, p12), (38, AV.int IntKind.i64 v38),
                                                                                                                                                      (39, AV.int IntKind.i64 (IntKind.i64.wrap (v39 + 1)))],
                                                                                                                                                  defers := [] }
                                                                                                                                                st_2
                                                                                                                                            else none)
                                                                                                                                  fun v_38 st_1 =>
                                                                                                                                  if
                                                                                                                                      ((if isIp v_30 = true then true
                                                                                                                                          else
                                                                                                                                            (List.range.loop [st].length []).all fun s =>
                                                                                                                                              if 0 ≤ s ∧ s ≤ 1 then
                                                                                                                                                match [st][[st].length - 1 - s]? with
                                                                                                                                                | some st =>
                                                                                                                                                  match Option.map (fun v => (Res.val v, st)) (ldA Try.prog st 3 v_30) with
                                                                                                                                                  | some (Res.val v', snd) => (AV.int IntKind.i64 n).beq v'
                                                                                                                                                  | x => false
                                                                                                                                                | none => false
                                                                                                                                              else true) &&
                                                                                                                                          true) =
                                                                                                                                        true then
                                                                                                                                    outL true base (AOut.pan v_38) st_1
                                                                                                                                  else none
                                                                                            else
                                                                                              (ptrAdd 3 p12).bind fun v_24 =>
                                                                                                (ptrAdd 5 v_24).bind fun v_25 =>
                                                                                                  (readA st v_25 1 false).bind fun v_26 =>
                                                                                                    (intV IntKind.i64 v_26).bind fun n =>
                                                                                                      (nilCheckA v).bind fun v_27 =>
                                                                                                        (ptrAdd 29 v_27).bind fun v_28 =>
                                                                                                          (readA st v_28 1 false).bind fun v_29 =>
                                                                                                            (nilCheckA v_5).bind fun v_30 =>
                                                                                                              (ptrAdd 29 v_30).bind fun v_31 =>
                                                                                                                (readA st v_31 1 false).bind fun v_32 =>
                                                                                                                  callB (cw 41 [v_29, v_32] st)
                                                                                                                    (fun v_33 st_1 =>
                                                                                                                      (intV IntKind.i64 v_33).bind fun n_1 =>
                                                                                                                        (ptrAdd 3 p12).bind fun v_34 =>
                                                                                                                          (ptrAdd 5 v_34).bind fun v_35 =>
                                                                                                                            (writeA st_1 v_35 [AV.int IntKind.i64 (IntKind.i64.wrap (n + n_1))]).bind fun st_2 =>
                                                                                                                              if
                                                                                                                                  ((if isIp v_25 = true then true
                                                                                                                                      else
                                                                                                                                        (List.range.loop [st_2, st_1, st].length []).all fun s =>
                                                                                                                                          if 0 ≤ s ∧ s ≤ 1 then
                                                                                                                                            match [st_2, st_1, st][[st_2, st_1, st].length - 1 - s]? with
                                                                                                                                            | some st =>
                                                                                                                                              match Option.map (fun v => (Res.val v, st)) (ldA Try.prog st 3 v_25) with
                                                                                                                                              | some (Res.val v', snd) => (AV.int IntKind.i64 n).beq v'
                                                                                                                                              | x => false
                                                                                                                                            | none => false
                                                                                                                                          else true) &&
                                                                                                                                      true) =
                                                                                                                                    true then
                                                                                                                                aw 25 base p25_0
                                                                                                                                  {
                                                                                                                                    env :=
                                                                                                                                      [(0, olds0), (1, oldLoops1), (2, news2), (3, newLoops3), (8, v8), (10, a10), (11, b11), (12, p12),
                                                                                                                                        (38, AV.int IntKind.i64 v38), (39, AV.int IntKind.i64 (IntKind.i64.wrap (v39 + 1)))],
                                                                                                                                    defers := [] }
                                                                                                                                  st_2
                                                                                                                              else none)
                                                                                                                    fun v_33 st_1 =>
                                                                                                                    if
                                                                                                                        ((if isIp v_25 = true then true
                                                                                                                            else
                                                                                                                              (List.range.loop [st].length []).all fun s =>
                                                                                                                                if 0 ≤ s ∧ s ≤ 1 then
                                                                                                                                  match [st][[st].length - 1 - s]? with
                                                                                                                                  | some st =>
                                                                                                                                    match Option.map (fun v => (Res.val v, st)) (ldA Try.prog st 3 v_25) with
                                                                                                                                    | some (Res.val v', snd) => (AV.int IntKind.i64 n).beq v'
                                                                                                                                    | x => false
                                                                                                                                  | none => false
                                                                                                                                else true) &&
                                                                                                                            true) =
                                                                                                                          true then
                                                                                                                      outL true base (AOut.pan v_33) st_1
                                                                                                                    else none
else
  callB (cw 42 [a10, b11] st)
    (fun v st =>
      (extractA 0 v).bind fun v_1 =>
        (extractA 1 v).bind fun v =>
          (intV IntKind.i64 v).bind fun n =>
            (ptrAdd 1 p12).bind fun v =>
              (cell1 v_1).bind fun c =>
                (writeA st v [c]).bind fun st =>
                  (ptrAdd 3 p12).bind fun v =>
                    (ptrAdd 4 v).bind fun v =>
                      (writeA st v [AV.int IntKind.i64 n]).bind fun st =>
                        callB (cw 42 [b11, a10] st)
                          (fun v st =>
                            (extractA 0 v).bind fun v_2 =>
                              (extractA 1 v).bind fun v =>
                                (intV IntKind.i64 v).bind fun n =>
                                  (ptrAdd 2 p12).bind fun v =>
                                    (cell1 v_2).bind fun c =>
                                      (writeA st v [c]).bind fun st =>
                                        (ptrAdd 3 p12).bind fun v =>
                                          (ptrAdd 0 v).bind fun v =>
                                            (writeA st v [AV.int IntKind.i64 n]).bind fun st =>
                                              (ptrAdd 1 p12).bind fun v =>
                                                (readA st v 1 false).bind fun v =>
                                                  (lenSl v).bind fun v =>
                                                    (intV IntKind.i64 v).bind fun n =>
                                                      (ptrAdd 2 p12).bind fun v =>
                                                        (readA st v 1 false).bind fun v =>
                                                          (lenSl v).bind fun v =>
                                                            (intV IntKind.i64 v).bind fun n_1 =>
                                                              (ptrAdd 3 p12).bind fun v =>
                                                                (ptrAdd 3 v).bind fun v =>
                                                                  (writeA st v [AV.int IntKind.i64 n]).bind fun st =>
                                                                    (ptrAdd 3 p12).bind fun v =>
                                                                      (ptrAdd 1 v).bind fun v =>
                                                                        (writeA st v [AV.int IntKind.i64 n_1]).bind fun st =>
                                                                          (lenSl oldLoops1).bind fun v =>
                                                                            (intV IntKind.i64 v).bind fun n =>
                                                                              aw 25 base p25_1
                                                                                { env := [(1, oldLoops1), (3, newLoops3), (8, v8), (11, b11), (12, p12), (141, AV.int IntKind.i64 n), (142, AV.int IntKind.i64 0)], defers := [] } st)
                          fun v st => outL true base (AOut.pan v) st)
    fun v st => outL true base (AOut.pan v) st) = some r) :
    aw 25 base p25_0 { env := [(0, olds0), (1, oldLoops1), (2, news2), (3, newLoops3), (8, v8), (10, a10), (11, b11), (12, p12), (38, AV.int IntKind.i64 v38), (39, AV.int IntKind.i64 v39)], defers := [] } st = some r := atW_of (Eq.trans (by kernel_rfl) h)
theorem F25_1 (oldLoops1 : AV) (newLoops3 : AV) (v8 : AV) (b11 : AV) (p12 : AV) (v141 : Int) (v142 : Int) (base : Nat) (st : St) {r : AOut × St} (h : (if decide (v142 < v141) = true then
  (nilCheckA b11).bind fun v =>
    (ptrAdd 3 v).bind fun v =>
      (readA st v 1 false).bind fun v =>
        (natA (AV.int IntKind.i64 v142)).bind fun j =>
          (idxSl st 27 oldLoops1 j).bind fun v_1 =>
            (ptrAdd 0 v_1).bind fun v_2 =>
              (readA st v_2 26 true).bind fun v_3 =>
                (lookupA Try.prog st 77 v v_3 true).bind fun v =>
                  (extractA 0 v).bind fun v_4 =>
                    (intV IntKind.i64 v_4).bind fun n =>
                      (extractA 1 v).bind fun v =>
                        (boolV v).bind fun b =>
                          if b = true then
                            (natA (AV.int IntKind.i64 v142)).bind fun j =>
                              (idxSl st 27 oldLoops1 j).bind fun v =>
                                (ptrAdd 26 v).bind fun v =>
                                  (readA st v 1 false).bind fun v =>
                                    (natA (AV.int IntKind.i64 n)).bind fun j =>
                                      (idxSl st 27 newLoops3 j).bind fun v_5 =>
                                        (ptrAdd 26 v_5).bind fun v_6 =>
                                          (readA st v_6 1 false).bind fun v_7 =>
                                            callB (cw 17 [v, v_7] st)
                                              (fun v st =>
                                                (extractA 0 v).bind fun v_8 =>
                                                  (intV IntKind.i64 v_8).bind fun n =>
                                                    (extractA 1 v).bind fun v_9 =>
                                                      (intV IntKind.i64 v_9).bind fun n =>
                                                        (extractA 2 v).bind fun v =>
                                                          (intV IntKind.i64 v).bind fun n_1 =>
                                                            (ptrAdd 3 p12).bind fun v =>
                                                              (ptrAdd 2 v).bind fun v =>
                                                                (readA st v 1 false).bind fun v =>
                                                                  (intV IntKind.i64 v).bind fun n_2 =>
                                                                    (ptrAdd 3 p12).bind fun v =>
                                                                      (ptrAdd 2 v).bind fun v =>
                                                                        (writeA st v [AV.int IntKind.i64 (IntKind.i64.wrap (n_2 + n))]).bind fun st =>
                                                                          aw 25 base p25_1
                                                                            { env := [(1, oldLoops1), (3, newLoops3), (8, v8), (11, b11), (12, p12), (141, AV.int IntKind.i64 v141), (142, AV.int IntKind.i64 (IntKind.i64.wrap (v142 + 1)))],
                                                                              defers := [] }
                                                                            st)
                                              fun v st => outL true base (AOut.pan v) st
                          else
                            aw 25 base p25_1
                              { env := [(1, oldLoops1), (3, newLoops3), (8, v8), (11, b11), (12, p12), (141, AV.int IntKind.i64 v141), (142, AV.int IntKind.i64 (IntKind.i64.wrap (v142 + 1)))], defers := [] } st
else
  (ptrAdd 1 p12).bind fun v =>
    (readA st v 1 false).bind fun v_1 =>
      callB (cw 43 [v_1] st)
        (fun v_2 st_1 =>
          (ptrAdd 2 p12).bind fun v_3 =>
            (readA st_1 v_3 1 false).bind fun v_4 =>
              callB (cw 43 [v_4] st_1)
                (fun v_5 st_2 =>
                  (ptrAdd 1 p12).bind fun v_6 =>
                    (cell1 v_2).bind fun c =>
                      (writeA st_2 v_6 [c]).bind fun st_3 =>
                        (ptrAdd 2 p12).bind fun v_7 =>
                          (cell1 v_5).bind fun c =>
                            (writeA st_3 v_7 [c]).bind fun st_4 =>
                              if
                                  ((if isIp v_3 = true then true
                                      else
                                        (List.range.loop [st_4, st_3, st_2, st_1, st].length []).all fun s =>
                                          if 0 ≤ s ∧ s ≤ 1 then
                                            match [st_4, st_3, st_2, st_1, st][[st_4, st_3, st_2, st_1, st].length - 1 - s]? with
                                            | some st =>
                                              match Option.map (fun v => (Res.val v, st)) (ldA Try.prog st 22 v_3) with
                                              | some (Res.val v', snd) => v_4.beq v'
                                              | x => false
                                            | none => false
                                          else true) &&
                                      true) =
                                    true then
                                (readA st_4 p12 10 true).bind fun v =>
                                  (cellsV 10 v).bind fun cs => (writeA st_4 v8 cs).bind fun st => ((ldA Try.prog st 46 v8).bind fun v => some [v, AV.int IntKind.i64 0]).bind fun vs => outL true base (AOut.ret (outV1 vs)) st
                              else none)
                fun v_5 st_2 =>
                if
                    ((if isIp v_3 = true then true
                        else
                          (List.range.loop [st_1, st].length []).all fun s =>
                            if 0 ≤ s ∧ s ≤ 1 then
                              match [st_1, st][[st_1, st].length - 1 - s]? with
                              | some st =>
                                match Option.map (fun v => (Res.val v, st)) (ldA Try.prog st 22 v_3) with
                                | some (Res.val v', snd) => v_4.beq v'
                                | x => false
                              | none => false
                            else true) &&
                        true) =
                      true then
                  none
                else none)
        fun v st => none) = some r) :
    aw 25 base p25_1 { env := [(1, oldLoops1), (3, newLoops3), (8, v8), (11, b11), (12, p12), (141, AV.int IntKind.i64 v141), (142, AV.int IntKind.i64 v142)], defers := [] } st = some r := atW_of (Eq.trans (by kernel_rfl) h)
end Go.Abs
