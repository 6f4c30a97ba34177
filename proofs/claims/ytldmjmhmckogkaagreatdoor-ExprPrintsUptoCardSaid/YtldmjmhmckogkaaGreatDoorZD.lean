/- ExprPrints returns true for every expression of bulk at most 1048576 and leaves it as it was: where the package-level variables that the row lists stand as it lists them. -/
import Derived.Test.YtldmjmhmckogkaaGreatDoorZC
import Derived.Lib.DecodeNEq
import Derived.Laws.BitsLemmas
set_option linter.unusedVariables false
set_option linter.unusedSimpArgs false
set_option linter.unusedSectionVars false
open Option (bind_some bind_eq_some_iff map_eq_some_iff map_some)
open UInt8 (ofNat)
namespace Go.Abs
open Go Go.Proofs
set_option maxRecDepth 100000
abbrev IW:List Dir:=[.sr]
abbrev GL:List Dir:=[.sr,.sc,.sr,.sr,.sr,.sl,.sr,.bk]
theorem F39 (r0:AV) (of1:AV) (nest2:Int) (st:St) {r:zd×St} (h:((zL of1).bind fun v=>(zm IntKind.i64 v).bind fun n=>bif n==0 then zg (cw 76 [r0,AV.int .i64 nest2] (zh.free 0::zh.box 24 [AV.int .i64 0,AV.int .i64 0,AV.str [],AV.nils]::st)) (fun v st_1=>(zq 4 v).bind fun cs=>(zl st_1 (AV.bp (st.length) 0) cs).bind fun st_2=>((ldA Tryz.prog st_2 24 (AV.bp (st.length) 0)).bind fun v=>some [v]).bind fun vs=>ze false (st.length) (zd.ret (qG vs)) st_2) fun v st_1=>ze false (st.length) (zd.pan v) st_1 else (je (zh.free 0::zh.box 24 [AV.int .i64 0,AV.int .i64 0,AV.str [],AV.nils]::st) 1 of1 (some (AV.int .i64 1)) none none).bind fun v=>zg (cw 39 [r0,v,AV.int .i64 nest2] (zh.free 0::zh.box 24 [AV.int .i64 0,AV.int .i64 0,AV.str [],AV.nils]::st)) (fun v st_1=>(zq 4 v).bind fun cs=>(zl (zh.free 0::zh.box 24 [AV.int .i64 0,AV.int .i64 0,AV.str [],AV.nils]::st_1) (AV.bp (st_1.length) 0) cs).bind fun st_2=>(zt st_2 1 of1 0).bind fun v=>(zf st_2 v 1 false).bind fun v=>(zL v).bind fun v_1=>(zm IntKind.i64 v_1).bind fun n=>aw 39 (st.length) GL {env:=[(0,r0),(1,of1),(2,AV.int .i64 nest2),(6,AV.bp (st.length) 0),(7,AV.bp (st_1.length) 0),(23,v),(24,AV.int .i64 n),(25,AV.int .i64 0)],defers:=[]} st_2) fun v st_1=>ze false (st.length) (zd.pan v) st_1)=some r):cw 39 [r0,of1,AV.int .i64 nest2] st=some r:=zw (Eq.trans (by kernel_rfl) h)
theorem zbt (r0:AV) (of1:AV) (nest2:Int) (v6:AV) (left7:AV) (p9:AV) (v23:AV) (v24:Int) (v25:Int) (v32:Bool) (base:Nat) (st:St) {r:zd×St} (h:((zt st 1 of1 0).bind fun v=>(zf st v 1 false).bind fun v=>(zL v).bind fun v_1=>(zm IntKind.i64 v_1).bind fun n=>aw 39 base GL {env:=[(0,r0),(1,of1),(2,AV.int .i64 nest2),(6,v6),(7,left7),(23,v),(24,AV.int .i64 n),(25,AV.int .i64 0)],defers:=[]} st)=some r):gw 39 base (IW) 0 {env:=[(0,r0),(1,of1),(2,AV.int .i64 nest2),(6,v6),(7,left7),(9,p9),(23,v23),(24,AV.int .i64 v24),(25,AV.int .i64 v25),(32,AV.bool v32)],defers:=[]} st=some r:=zar (Eq.trans (by kernel_rfl) h)
theorem IO (r0:AV) (of1:AV) (nest2:Int) (v6:AV) (left7:AV) (v23:AV) (v24:Int) (v25:Int) (base:Nat) (st:St) {r:zd×St} (h:(bif decide (v25<v24) then (zJ (AV.int .i64 v25)).bind fun j=>(zt st 2 v23 j).bind fun v=>(zf st v 2 true).bind fun v=>(zq 2 v).bind fun cs=>(zl (zh.box 93 [AV.str [],AV.int .i64 0]::st) (AV.bp (st.length) 0) cs).bind fun st_1=>(zf st_1 (AV.bp (st.length) 0) 1 false).bind fun v=>(zA v).bind fun s=>zg (cw 41 [r0,AV.str s] st_1) (fun v st_2=>(zB v).bind fun b=>bif b then zg (cw 17 [r0] st_2) (fun v st_3=>(zf st_3 (AV.bp (st.length) 1) 1 false).bind fun v=>(zm IntKind.i64 v).bind fun n=>(zf st_3 left7 4 true).bind fun v=>(je st_3 1 of1 (some (AV.int .i64 1)) none none).bind fun v_1=>zg (cw 39 [r0,v_1,AV.int .i64 nest2] st_3) (fun v_2 st_4=>(zq 4 v).bind fun cs=>(zq 4 v_2).bind fun cs_1=>(zq 4 (AV.agg [AV.int .i64 n,AV.int .i64 0,AV.str [],AV.sl 4 [List.map AV.strip cs,List.map AV.strip cs_1] 0 2 Tok.exact])).bind fun cs_2=>(zl st_4 left7 cs_2).bind fun st_5=>if ((rkA [st_5,st_4,st_3] 3 (AV.bp (st.length) 1) (AV.int .i64 n) 0 1)&&((rkA [st_5,st_4,st_3] 24 left7 v 0 1)&&true))=true then gw 39 base IW 0 {env:=[(0,r0),(1,of1),(2,AV.int .i64 nest2),(6,v6),(7,left7),(9,AV.bp (st.length) 0),(23,v23),(24,AV.int .i64 v24),(25,AV.int .i64 v25),(32,AV.bool true)],defers:=[]} st_5 else none) fun v_2 st_4=>if ((rkA [st_3] 3 (AV.bp (st.length) 1) (AV.int .i64 n) 0 1)&&((rkA [st_3] 24 left7 v 0 1)&&true))=true then ze false base (zd.pan v_2) st_4 else none) fun v st=>ze false base (zd.pan v) st else (Zl (st.length) {env:=[(0,r0),(1,of1),(2,AV.int .i64 nest2),(6,v6),(7,left7),(23,v23),(24,AV.int .i64 v24),(25,AV.int .i64 (IntKind.i64.wrap (v25+1)))],defers:=[]} st_2).bind fun e=>aw 39 base GL e.fst e.snd) fun v st=>ze false base (zd.pan v) st
else (zf st left7 4 true).bind fun v=>(zq 4 v).bind fun cs=>(zl st v6 cs).bind fun st=>((ldA Tryz.prog st 24 v6).bind fun v=>some [v]).bind fun vs=>ze false base (zd.ret (qG vs)) st)=some r):aw 39 base (GL) {env:=[(0,r0),(1,of1),(2,AV.int .i64 nest2),(6,v6),(7,left7),(23,v23),(24,AV.int .i64 v24),(25,AV.int .i64 v25)],defers:=[]} st=some r:=ql (Eq.trans (by kernel_rfl) h)
theorem F42 (r0:AV) (s1:List UInt8) (st:St) {r:zd×St} (h:(zg (cw 41 [r0,AV.str s1] st) (fun v st_1=>(zB v).bind fun b=>bif !b then zg (cw 19 [r0] st_1) (fun v st_2=>zg (cw 17 [r0] st_2) (fun v st_3=>ze false (st.length) (zd.ret (AV.tup [])) st_3) fun v st_3=>ze false (st.length) (zd.pan v) st_3) fun v st_2=>ze false (st.length) (zd.pan v) st_2 else zg (cw 17 [r0] st_1) (fun v st_2=>ze false (st.length) (zd.ret (AV.tup [])) st_2) fun v st_2=>ze false (st.length) (zd.pan v) st_2) fun v st_1=>ze false (st.length) (zd.pan v) st_1)=some r):cw 42 [r0,AV.str s1] st=some r:=zw (Eq.trans (by kernel_rfl) h)
abbrev DF:List Dir:=[.sr,.sr,.sr,.sr,.sl,.sr,.bk]
abbrev DK:List Dir:=[.sr,.sr,.sr,.sr,.sr,.sr,.sr,.sr,.sr,.sr,.sl,.bk]
abbrev XK:List Dir:=[.sr,.sr,.sr,.sr,.sr,.sr,.sr,.sr,.sr,.sr,.sr,.sr,.sl,.bk]
abbrev BT:List Dir:=[.sr,.sr,.sr,.sr,.sr,.sr,.sr,.sr,.sr,.sr,.sr,.sr,.sl,.bk,.lp 0,.sr,.bk,.sr,.sr,.sr,.sr,.sl,.bk]
theorem F84 (s0:List UInt8) (st:St) {r:zd×St} (h:(aw 84 (st.length) DF {env:=[(0,AV.str s0),(3,AV.int .i64 0),(4,AV.int .i64 1),(5,AV.int .u8 0),(6,AV.int .i64 0)],defers:=[]} st)=some r):cw 84 [AV.str s0] st=some r:=zw (Eq.trans (by kernel_rfl) h)
theorem za0 (s0:List UInt8) (n3:Int) (wasSpace4:Int) (setBits5:Int) (i6:Int) (base:Nat) (st:St) {r:zd×St} (h:(bif decide (i6<(s0.length:Int)) then (zJ (AV.int .i64 i6)).bind fun j=>(Option.map (fun b=>AV.int .u8 (b.toNat:Int)) s0[j]?).bind fun v=>(zm IntKind.u8 v).bind fun n=>(zJ (AV.int .u8 n)).bind fun j=>if j<256 then (zf st (AV.ip YH (0+j*1)) 1 false).bind fun v=>(zm IntKind.u8 v).bind fun n_1=>aw 84 base DF {env:=[(0,AV.str s0),(3,AV.int .i64 (IntKind.i64.wrap (n3+bits BinOp.and IntKind.i64 wasSpace4 (bits BinOp.xor IntKind.i64 (-1) (IntKind.i64.wrap n_1))))),(4,AV.int .i64 (IntKind.i64.wrap n_1)),(5,AV.int .u8 (bits BinOp.or IntKind.u8 setBits5 n)),(6,AV.int .i64 (IntKind.i64.wrap (i6+1)))],defers:=[]} st else none
else bif decide (setBits5≥128) then zg (cw 101 [AV.str s0,AV.fn 102 []] st) (fun v st=>zX (qN st v) fun v st=>ze false base (zd.ret v) st) fun v st=>ze false base (zd.pan v) st else zX (Ui st none 16 1 [AV.str []] (AV.int .i64 n3) (AV.int .i64 n3)) fun v st=>aw 84 base DK {env:=[(0,AV.str s0),(9,v),(10,AV.int .i64 0),(12,AV.int .i64 0)],defers:=[]} st)=some r):aw 84 base DF {env:=[(0,AV.str s0),(3,AV.int .i64 n3),(4,AV.int .i64 wasSpace4),(5,AV.int .u8 setBits5),(6,AV.int .i64 i6)],defers:=[]} st=some r:=ql (Eq.trans (by kernel_rfl) h)
theorem zbd (s0:List UInt8) (a9:AV) (na10:Int) (i12:Int) (base:Nat) (st:St) {r:zd×St} (h:(bif decide (i12<(s0.length:Int)) then (zJ (AV.int .i64 i12)).bind fun j=>(Option.map (fun b=>AV.int .u8 (b.toNat:Int)) s0[j]?).bind fun v=>(zm IntKind.u8 v).bind fun n=>(zJ (AV.int .u8 n)).bind fun j=>if j<256 then (zf st (AV.ip YH (0+j*1)) 1 false).bind fun v=>(zm IntKind.u8 v).bind fun n=>bif n != 0 then aw 84 base DK {env:=[(0,AV.str s0),(9,a9),(10,AV.int .i64 na10),(12,AV.int .i64 (IntKind.i64.wrap (i12+1)))],defers:=[]} st else aw 84 base XK {env:=[(0,AV.str s0),(9,a9),(10,AV.int .i64 na10),(11,AV.int .i64 i12),(12,AV.int .i64 i12)],defers:=[]} st else none
else aw 84 base XK {env:=[(0,AV.str s0),(9,a9),(10,AV.int .i64 na10),(11,AV.int .i64 i12),(12,AV.int .i64 i12)],defers:=[]} st)=some r):aw 84 base DK {env:=[(0,AV.str s0),(9,a9),(10,AV.int .i64 na10),(12,AV.int .i64 i12)],defers:=[]} st=some r:=ql (Eq.trans (by kernel_rfl) h)
theorem CC (s0:List UInt8) (a9:AV) (na10:Int) (fieldStart11:Int) (i12:Int) (base:Nat) (st:St) {r:zd×St} (h:(bif decide (i12<(s0.length:Int)) then (zJ (AV.int .i64 i12)).bind fun j=>(Option.map (fun b=>AV.int .u8 (b.toNat:Int)) s0[j]?).bind fun v=>(zm IntKind.u8 v).bind fun n=>(zJ (AV.int .u8 n)).bind fun j=>if j<256 then (zf st (AV.ip YH (0+j*1)) 1 false).bind fun v=>(zm IntKind.u8 v).bind fun n=>bif n==0 then aw 84 base XK {env:=[(0,AV.str s0),(9,a9),(10,AV.int .i64 na10),(11,AV.int .i64 fieldStart11),(12,AV.int .i64 (IntKind.i64.wrap (i12+1)))],defers:=[]} st else (qA (AV.str s0) (some (AV.int .i64 fieldStart11)) (some (AV.int .i64 i12))).bind fun v=>(zA v).bind fun s=>(zJ (AV.int .i64 na10)).bind fun j=>(zt st 1 a9 j).bind fun v=>(zl st v [AV.str s]).bind fun st=>aw 84 base BT {env:=[(0,AV.str s0),(9,a9),(10,AV.int .i64 (IntKind.i64.wrap (na10+1))),(12,AV.int .i64 (IntKind.i64.wrap (i12+1)))],defers:=[]} st else none
else bif decide (fieldStart11<(s0.length:Int)) then (qA (AV.str s0) (some (AV.int .i64 fieldStart11)) none).bind fun v=>(zA v).bind fun s=>(zJ (AV.int .i64 na10)).bind fun j=>(zt st 1 a9 j).bind fun v=>(zl st v [AV.str s]).bind fun st=>zX (qN st a9) fun v st=>ze false base (zd.ret v) st else zX (qN st a9) fun v st=>ze false base (zd.ret v) st)=some r):aw 84 base XK {env:=[(0,AV.str s0),(9,a9),(10,AV.int .i64 na10),(11,AV.int .i64 fieldStart11),(12,AV.int .i64 i12)],defers:=[]} st=some r:=ql (Eq.trans (by kernel_rfl) h)
theorem zby (s0:List UInt8) (a9:AV) (na10:Int) (i12:Int) (base:Nat) (st:St) {r:zd×St} (h:(bif decide (i12<(s0.length:Int)) then (zJ (AV.int .i64 i12)).bind fun j=>(Option.map (fun b=>AV.int .u8 (b.toNat:Int)) s0[j]?).bind fun v=>(zm IntKind.u8 v).bind fun n=>(zJ (AV.int .u8 n)).bind fun j=>if j<256 then (zf st (AV.ip YH (0+j*1)) 1 false).bind fun v=>(zm IntKind.u8 v).bind fun n=>bif n != 0 then aw 84 base BT {env:=[(0,AV.str s0),(9,a9),(10,AV.int .i64 na10),(12,AV.int .i64 (IntKind.i64.wrap (i12+1)))],defers:=[]} st else aw 84 base XK {env:=[(0,AV.str s0),(9,a9),(10,AV.int .i64 na10),(11,AV.int .i64 i12),(12,AV.int .i64 i12)],defers:=[]} st else none
else aw 84 base XK {env:=[(0,AV.str s0),(9,a9),(10,AV.int .i64 na10),(11,AV.int .i64 i12),(12,AV.int .i64 i12)],defers:=[]} st)=some r):aw 84 base BT {env:=[(0,AV.str s0),(9,a9),(10,AV.int .i64 na10),(12,AV.int .i64 i12)],defers:=[]} st=some r:=ql (Eq.trans (by kernel_rfl) h)
abbrev Nk:List Dir:=[.sr,.sl,.sr,.bk]
theorem F85 (s0:List UInt8) (st:St) {r:zd×St} (h:(zX (ZI Tryz.prog st 9 (AV.str s0)) fun v st_1=>aw 85 (st.length) Nk {env:=[(0,AV.str s0),(9,v)],defers:=[]} st_1)=some r):cw 85 [AV.str s0] st=some r:=zw (Eq.trans (by kernel_rfl) h)
theorem DW (s0:List UInt8) (v9:AV) (base:Nat) (st:St) {r:zd×St} (h:(zX (YZ st true v9) fun v st=>(zK 0 v).bind fun v_1=>(zB v_1).bind fun b=>bif b then (zK 1 v).bind fun v_2=>(zm IntKind.i64 v_2).bind fun n=>(zK 2 v).bind fun v=>(zm IntKind.i32 v).bind fun n_1=>bif n_1==65533 then (qA (AV.str s0) (some (AV.int .i64 n)) none).bind fun v=>(zA v).bind fun s=>zg (cw 72 [AV.str s] st) (fun v st=>(zK 0 v).bind fun v_3=>(zm IntKind.i32 v_3).bind fun n_2=>(zK 1 v).bind fun v=>(zm IntKind.i64 v).bind fun n_3=>bif n_3==1 then ze false base (zd.ret (AV.tup [AV.int .i64 n,AV.int .i64 300])) st else aw 85 base Nk {env:=[(0,AV.str s0),(9,v9)],defers:=[]} st) fun v st=>ze false base (zd.pan v) st else aw 85 base Nk {env:=[(0,AV.str s0),(9,v9)],defers:=[]} st else ze false base (zd.ret (AV.tup [AV.int .i64 0,AV.int .i64 0])) st)=some r):aw 85 base Nk {env:=[(0,AV.str s0),(9,v9)],defers:=[]} st=some r:=ql (Eq.trans (by kernel_rfl) h)
abbrev Vi:List Dir:=[.sr,.sl,.sr,.bk]
theorem F86 (s0:List UInt8) (other1:Int) (st:St) {r:zd×St} (h:(aw 86 (st.length) Vi {env:=[(0,AV.str s0),(1,AV.int .u8 other1),(9,AV.int .i64 (s0.length:Int)),(10,AV.int .i64 0)],defers:=[]} st)=some r):cw 86 [AV.str s0,AV.int .u8 other1] st=some r:=zw (Eq.trans (by kernel_rfl) h)
theorem IQ (s0:List UInt8) (other1:Int) (v9:Int) (v10:Int) (base:Nat) (st:St) {r:zd×St} (h:(bif decide (v10<v9) then (zJ (AV.int .i64 v10)).bind fun j=>(Option.map (fun b=>AV.int .u8 (b.toNat:Int)) s0[j]?).bind fun v=>(zm IntKind.u8 v).bind fun n=>bif decide (n≥97) then bif !decide (n≤122) then bif v10==0 then ze false base (zd.ret (AV.bool false)) st else bif n != other1 then bif decide (n<48) then ze false base (zd.ret (AV.bool false)) st else bif decide (n>57) then ze false base (zd.ret (AV.bool false)) st else aw 86 base Vi {env:=[(0,AV.str s0),(1,AV.int .u8 other1),(9,AV.int .i64 v9),(10,AV.int .i64 (IntKind.i64.wrap (v10+1)))],defers:=[]} st else aw 86 base Vi {env:=[(0,AV.str s0),(1,AV.int .u8 other1),(9,AV.int .i64 v9),(10,AV.int .i64 (IntKind.i64.wrap (v10+1)))],defers:=[]} st else aw 86 base Vi {env:=[(0,AV.str s0),(1,AV.int .u8 other1),(9,AV.int .i64 v9),(10,AV.int .i64 (IntKind.i64.wrap (v10+1)))],defers:=[]} st else bif v10==0 then ze false base (zd.ret (AV.bool false)) st else bif n != other1 then bif decide (n<48) then ze false base (zd.ret (AV.bool false)) st else bif decide (n>57) then ze false base (zd.ret (AV.bool false)) st else aw 86 base Vi {env:=[(0,AV.str s0),(1,AV.int .u8 other1),(9,AV.int .i64 v9),(10,AV.int .i64 (IntKind.i64.wrap (v10+1)))],defers:=[]} st else aw 86 base Vi {env:=[(0,AV.str s0),(1,AV.int .u8 other1),(9,AV.int .i64 v9),(10,AV.int .i64 (IntKind.i64.wrap (v10+1)))],defers:=[]} st
else bif decide ((s0.length:Int)>0) then ze false base (zd.ret (AV.bool (decide ((s0.length:Int)≤32)))) st else ze false base (zd.ret (AV.bool false)) st)=some r):aw 86 base Vi {env:=[(0,AV.str s0),(1,AV.int .u8 other1),(9,AV.int .i64 v9),(10,AV.int .i64 v10)],defers:=[]} st=some r:=ql (Eq.trans (by kernel_rfl) h)
theorem F87 (b0:AV) (st:St) {r:zd×St} (h:((zb b0).bind fun v=>(zc 0 v).bind fun v=>(zf st v 1 false).bind fun v=>(XJ Tryz.prog BinOp.eql 65 true v AV.nilp).bind fun v=>(zB v).bind fun b=>bif b then zX (JS Tryz.prog st none 65 131 b0) fun v st_1=>(JA [v]).bind fun v=>zX (JS Tryz.prog st_1 none 131 65 v) fun v st_2=>(zb b0).bind fun v_1=>(zc 0 v_1).bind fun v_2=>(cell1 v).bind fun c=>(zl st_2 v_2 [c]).bind fun st_3=>ze false (st.length) (zd.ret (AV.tup [])) st_3 else (zb b0).bind fun v=>(zc 0 v).bind fun v=>(zf st v 1 false).bind fun v=>(XJ Tryz.prog BinOp.neq 65 false v b0).bind fun v=>(zB v).bind fun b=>bif b then none else ze false (st.length) (zd.ret (AV.tup [])) st)=some r):cw 87 [b0] st=some r:=zw (Eq.trans (by kernel_rfl) h)
theorem F88 (i0:Int) (st:St) {r:zd×St} (h:(zg (cw 104 [AV.int .i64 i0] st) (fun v st_1=>(zA v).bind fun s=>ze false (st.length) (zd.ret (AV.str s)) st_1) fun v st_1=>ze false (st.length) (zd.pan v) st_1)=some r):cw 88 [AV.int .i64 i0] st=some r:=zw (Eq.trans (by kernel_rfl) h)
theorem F67 (s0:List UInt8) (c1:Int) (st:St) {r:zd×St} (h:((ZN [AV.str s0,AV.int .u8 c1]).bind fun v=>(zm IntKind.i64 v).bind fun n=>ze false (st.length) (zd.ret (AV.int .i64 n)) st)=some r):cw 67 [AV.str s0,AV.int .u8 c1] st=some r:=zw (Eq.trans (by kernel_rfl) h)
theorem F68 (s0:List UInt8) (st:St) {r:zd×St} (h:(zg (cw 92 [AV.str s0] st) (fun v st_1=>(zB v).bind fun b=>bif !b then ze false (st.length) (zd.ret (AV.tup [AV.int .i64 0,AV.int .i64 104])) st_1 else zg (cw 93 [AV.str s0] st_1) (fun v st_2=>(zK 0 v).bind fun v_1=>(zm IntKind.i64 v_1).bind fun n=>(zK 1 v).bind fun v=>(XJ Tryz.prog BinOp.neq 95 true v AV.nili).bind fun v=>(zB v).bind fun b=>bif b then ze false (st.length) (zd.ret (AV.tup [AV.int .i64 0,AV.int .i64 100])) st_2 else ze false (st.length) (zd.ret (AV.tup [AV.int .i64 n,AV.int .i64 0])) st_2) fun v st_2=>ze false (st.length) (zd.pan v) st_2) fun v st_1=>ze false (st.length) (zd.pan v) st_1)=some r):cw 68 [AV.str s0] st=some r:=zw (Eq.trans (by kernel_rfl) h)
abbrev DI:List Dir:=[.sr,.sr,.sl,.sr,.bk]
theorem F69 (r0:AV) (wanted1:AV) (st:St) {r:zd×St} (h:((zb r0).bind fun v=>(zc 1 v).bind fun v=>(zf st v 1 false).bind fun v=>(zm IntKind.i64 v).bind fun n=>(zb r0).bind fun v=>(zc 1 v).bind fun v=>(zf st v 1 false).bind fun v=>(zm IntKind.i64 v).bind fun n_1=>(zb r0).bind fun v=>(zc 1 v).bind fun v=>(zl st v [AV.int .i64 (IntKind.i64.wrap (n_1+1))]).bind fun st_1=>aw 69 (st.length) DI {env:=[(0,r0),(1,wanted1),(5,AV.int .i64 n)],defers:=[]} st_1)=some r):cw 69 [r0,wanted1] st=some r:=zw (Eq.trans (by kernel_rfl) h)
theorem za5 (r0:AV) (wanted1:AV) (from5:Int) (base:Nat) (st:St) {r:zd×St} (h:((zb r0).bind fun v=>(zc 1 v).bind fun v=>(zf st v 1 false).bind fun v=>(zm IntKind.i64 v).bind fun n=>(zb r0).bind fun v=>(zc 0 v).bind fun v=>(zf st v 1 false).bind fun v=>(zA v).bind fun s=>bif decide (n<(s.length:Int)) then (zb r0).bind fun v=>(zc 0 v).bind fun v=>(zf st v 1 false).bind fun v=>(zA v).bind fun s=>(zb r0).bind fun v=>(zc 1 v).bind fun v=>(zf st v 1 false).bind fun v=>(zm IntKind.i64 v).bind fun n=>(zJ (AV.int .i64 n)).bind fun j=>(Option.map (fun b=>AV.int .u8 (b.toNat:Int)) s[j]?).bind fun v=>(zm IntKind.u8 v).bind fun n=>(fnV wanted1).bind fun q=>if (if q.fst=103 then some JA else if q.fst=91 then some ZN else none).isSome=true then none else zg (cw q.fst ([AV.int .u8 n]++q.snd) st) (fun v st_1=>(zB v).bind fun b=>bif b then (zb r0).bind fun v=>(zc 1 v).bind fun v=>(zf st_1 v 1 false).bind fun v=>(zm IntKind.i64 v).bind fun n=>(zb r0).bind fun v=>(zc 1 v).bind fun v=>(zl st_1 v [AV.int .i64 (IntKind.i64.wrap (n+1))]).bind fun st_2=>(Zl (st.length) {env:=[(0,r0),(1,wanted1),(5,AV.int .i64 from5)],defers:=[]} st_2).bind fun e=>aw 69 base DI e.fst e.snd else (zb r0).bind fun v=>(zc 0 v).bind fun v=>(zf st_1 v 1 false).bind fun v=>(zA v).bind fun s=>(zb r0).bind fun v=>(zc 1 v).bind fun v=>(zf st_1 v 1 false).bind fun v=>(zm IntKind.i64 v).bind fun n=>(qA (AV.str s) (some (AV.int .i64 from5)) (some (AV.int .i64 n))).bind fun v=>(zA v).bind fun s=>ze false base (zd.ret (AV.str s)) st_1) fun v st=>ze false base (zd.pan v) st else (zb r0).bind fun v=>(zc 0 v).bind fun v=>(zf st v 1 false).bind fun v=>(zA v).bind fun s=>(zb r0).bind fun v=>(zc 1 v).bind fun v=>(zf st v 1 false).bind fun v=>(zm IntKind.i64 v).bind fun n=>(qA (AV.str s) (some (AV.int .i64 from5)) (some (AV.int .i64 n))).bind fun v=>(zA v).bind fun s=>ze false base (zd.ret (AV.str s)) st)=some r):aw 69 base (DI) {env:=[(0,r0),(1,wanted1),(5,AV.int .i64 from5)],defers:=[]} st=some r:=ql (Eq.trans (by kernel_rfl) h)
theorem F70 (c0:Int) (st:St) {r:zd×St} (h:(bif decide (c0≥48) then ze false (st.length) (zd.ret (AV.bool (decide (c0≤57)))) st else ze false (st.length) (zd.ret (AV.bool false)) st)=some r):cw 70 [AV.int .u8 c0] st=some r:=zw (Eq.trans (by kernel_rfl) h)
theorem F71 (c0:Int) (st:St) {r:zd×St} (h:(zg (cw 70 [AV.int .u8 c0] st) (fun v st_1=>(zB v).bind fun b=>bif b then ze false (st.length) (zd.ret (AV.bool true)) st_1 else bif decide (c0≥97) then bif decide (c0≤122) then ze false (st.length) (zd.ret (AV.bool true)) st_1 else ze false (st.length) (zd.ret (AV.bool (c0==95))) st_1 else ze false (st.length) (zd.ret (AV.bool (c0==95))) st_1) fun v st_1=>ze false (st.length) (zd.pan v) st_1)=some r):cw 71 [AV.int .u8 c0] st=some r:=zw (Eq.trans (by kernel_rfl) h)
theorem F72 (s0:List UInt8) (st:St) {r:zd×St} (h:((zQ BinOp.neq s0 []).bind fun v=>(zB v).bind fun b=>bif b then (Option.map (fun b=>AV.int .u8 (b.toNat:Int)) s0[0]?).bind fun v=>(zm IntKind.u8 v).bind fun n=>bif decide (n<128) then (Option.map (fun b=>AV.int .u8 (b.toNat:Int)) s0[0]?).bind fun v=>(zm IntKind.u8 v).bind fun n=>ze false (st.length) (zd.ret (AV.tup [AV.int .i32 (IntKind.i32.wrap n),AV.int .i64 1])) st else zg (cw 94 [AV.str s0] st) (fun v st_1=>(zK 0 v).bind fun v_1=>(zm IntKind.i32 v_1).bind fun n=>(zK 1 v).bind fun v=>(zm IntKind.i64 v).bind fun n_1=>ze false (st.length) (zd.ret (AV.tup [AV.int .i32 n,AV.int .i64 n_1])) st_1) fun v st_1=>ze false (st.length) (zd.pan v) st_1 else zg (cw 94 [AV.str s0] st) (fun v st_1=>(zK 0 v).bind fun v_1=>(zm IntKind.i32 v_1).bind fun n=>(zK 1 v).bind fun v=>(zm IntKind.i64 v).bind fun n_1=>ze false (st.length) (zd.ret (AV.tup [AV.int .i32 n,AV.int .i64 n_1])) st_1) fun v st_1=>ze false (st.length) (zd.pan v) st_1)=some r):cw 72 [AV.str s0] st=some r:=zw (Eq.trans (by kernel_rfl) h)
theorem F73 (p0:AV) (r1:Int) (st:St) {r:zd×St} (h:(bif decide (IntKind.u32.wrap r1≤127) then zX (zR (zh.free 0::st) (some (st.length+0,true)) 1 0 p0 (AV.sl 0 [[AV.int .u8 (IntKind.u8.wrap r1)]] 0 1 Tok.exact)) fun v st_1=>ze true (st.length) (zd.ret v) st_1
else zg (cw 95 [p0,AV.int .i32 r1] (zh.free 0::st)) (fun v st_1=>ze true (st.length) (zd.ret v) st_1) fun v st_1=>ze true (st.length) (zd.pan v) st_1)=some r):cw 73 [p0,AV.int .i32 r1] st=some r:=zw (Eq.trans (by kernel_rfl) h)
theorem F75 (s0:List UInt8) (prefix1:List UInt8) (st:St) {r:zd×St} (h:(zg (cw 96 [AV.str s0,AV.str prefix1] st) (fun v st_1=>(zB v).bind fun b=>ze false (st.length) (zd.ret (AV.bool b)) st_1) fun v st_1=>ze false (st.length) (zd.pan v) st_1)=some r):cw 75 [AV.str s0,AV.str prefix1] st=some r:=zw (Eq.trans (by kernel_rfl) h)
theorem F76 (r0:AV) (nest1:Int) (st:St) {r:zd×St} (h:((zb r0).bind fun v=>(zc 3 v).bind fun v=>(zc 0 v).bind fun v=>(zf (zh.free 0::zh.box 24 [AV.int .i64 0,AV.int .i64 0,AV.str [],AV.nils]::st) v 1 false).bind fun v=>(zm IntKind.i64 v).bind fun n=>bif n != 0 then bif decide (nest1>32) then (zb r0).bind fun v=>(zc 3 v).bind fun v=>(zc 3 v).bind fun v=>(zf (zh.free 0::zh.box 24 [AV.int .i64 0,AV.int .i64 0,AV.str [],AV.nils]::st) v 1 false).bind fun v=>(zm IntKind.i64 v).bind fun n=>zg (cw 38 [AV.int .i64 1001,AV.int .i64 n] (zh.free 0::zh.box 24 [AV.int .i64 0,AV.int .i64 0,AV.str [],AV.nils]::st)) (fun v st_1=>zg (cw 41 [r0,AV.str [ofNat 45]] st_1) (fun v st_2=>(zB v).bind fun b=>bif b then zg (cw 17 [r0] st_2) (fun v st_3=>zg (cw 76 [r0,AV.int .i64 (IntKind.i64.wrap (nest1+1))] st_3) (fun v st_4=>(zq 4 v).bind fun cs=>(zq 4 (AV.agg [AV.int .i64 10,AV.int .i64 0,AV.str [],AV.sl 4 [List.map AV.strip cs] 0 1 Tok.exact])).bind fun cs=>(zl st_4 (AV.bp (st.length) 0) cs).bind fun st_5=>((ldA Tryz.prog st_5 24 (AV.bp (st.length) 0)).bind fun v=>some [v]).bind fun vs=>ze false (st.length) (zd.ret (qG vs)) st_5) fun v st_4=>ze false (st.length) (zd.pan v) st_4) fun v st_3=>ze false (st.length) (zd.pan v) st_3 else zg (cw 41 [r0,AV.str [ofNat 33]] st_2) (fun v st_3=>(zB v).bind fun b=>bif b then zg (cw 17 [r0] st_3) (fun v st_4=>zg (cw 76 [r0,AV.int .i64 (IntKind.i64.wrap (nest1+1))] st_4) (fun v st_5=>(zq 4 v).bind fun cs=>(zq 4 (AV.agg [AV.int .i64 11,AV.int .i64 0,AV.str [],AV.sl 4 [List.map AV.strip cs] 0 1 Tok.exact])).bind fun cs=>(zl st_5 (AV.bp (st.length) 0) cs).bind fun st_6=>((ldA Tryz.prog st_6 24 (AV.bp (st.length) 0)).bind fun v=>some [v]).bind fun vs=>ze false (st.length) (zd.ret (qG vs)) st_6) fun v st_5=>ze false (st.length) (zd.pan v) st_5) fun v st_4=>ze false (st.length) (zd.pan v) st_4 else zg (cw 97 [r0,AV.int .i64 nest1] st_3) (fun v st_4=>(zq 4 v).bind fun cs=>(zl st_4 (AV.bp (st.length) 0) cs).bind fun st_5=>((ldA Tryz.prog st_5 24 (AV.bp (st.length) 0)).bind fun v=>some [v]).bind fun vs=>ze false (st.length) (zd.ret (qG vs)) st_5) fun v st_4=>ze false (st.length) (zd.pan v) st_4) fun v st_3=>ze false (st.length) (zd.pan v) st_3) fun v st_2=>ze false (st.length) (zd.pan v) st_2) fun v st_1=>ze false (st.length) (zd.pan v) st_1 else zg (cw 41 [r0,AV.str [ofNat 45]] (zh.free 0::zh.box 24 [AV.int .i64 0,AV.int .i64 0,AV.str [],AV.nils]::st)) (fun v st_1=>(zB v).bind fun b=>bif b then zg (cw 17 [r0] st_1) (fun v st_2=>zg (cw 76 [r0,AV.int .i64 (IntKind.i64.wrap (nest1+1))] st_2) (fun v st_3=>(zq 4 v).bind fun cs=>(zq 4 (AV.agg [AV.int .i64 10,AV.int .i64 0,AV.str [],AV.sl 4 [List.map AV.strip cs] 0 1 Tok.exact])).bind fun cs=>(zl st_3 (AV.bp (st.length) 0) cs).bind fun st_4=>((ldA Tryz.prog st_4 24 (AV.bp (st.length) 0)).bind fun v=>some [v]).bind fun vs=>ze false (st.length) (zd.ret (qG vs)) st_4) fun v st_3=>ze false (st.length) (zd.pan v) st_3) fun v st_2=>ze false (st.length) (zd.pan v) st_2 else zg (cw 41 [r0,AV.str [ofNat 33]] st_1) (fun v st_2=>(zB v).bind fun b=>bif b then zg (cw 17 [r0] st_2) (fun v st_3=>zg (cw 76 [r0,AV.int .i64 (IntKind.i64.wrap (nest1+1))] st_3) (fun v st_4=>(zq 4 v).bind fun cs=>(zq 4 (AV.agg [AV.int .i64 11,AV.int .i64 0,AV.str [],AV.sl 4 [List.map AV.strip cs] 0 1 Tok.exact])).bind fun cs=>(zl st_4 (AV.bp (st.length) 0) cs).bind fun st_5=>((ldA Tryz.prog st_5 24 (AV.bp (st.length) 0)).bind fun v=>some [v]).bind fun vs=>ze false (st.length) (zd.ret (qG vs)) st_5) fun v st_4=>ze false (st.length) (zd.pan v) st_4) fun v st_3=>ze false (st.length) (zd.pan v) st_3 else zg (cw 97 [r0,AV.int .i64 nest1] st_2) (fun v st_3=>(zq 4 v).bind fun cs=>(zl st_3 (AV.bp (st.length) 0) cs).bind fun st_4=>((ldA Tryz.prog st_4 24 (AV.bp (st.length) 0)).bind fun v=>some [v]).bind fun vs=>ze false (st.length) (zd.ret (qG vs)) st_4) fun v st_3=>ze false (st.length) (zd.pan v) st_3) fun v st_2=>ze false (st.length) (zd.pan v) st_2) fun v st_1=>ze false (st.length) (zd.pan v) st_1 else zg (cw 41 [r0,AV.str [ofNat 45]] (zh.free 0::zh.box 24 [AV.int .i64 0,AV.int .i64 0,AV.str [],AV.nils]::st)) (fun v st_1=>(zB v).bind fun b=>bif b then zg (cw 17 [r0] st_1) (fun v st_2=>zg (cw 76 [r0,AV.int .i64 (IntKind.i64.wrap (nest1+1))] st_2) (fun v st_3=>(zq 4 v).bind fun cs=>(zq 4 (AV.agg [AV.int .i64 10,AV.int .i64 0,AV.str [],AV.sl 4 [List.map AV.strip cs] 0 1 Tok.exact])).bind fun cs=>(zl st_3 (AV.bp (st.length) 0) cs).bind fun st_4=>((ldA Tryz.prog st_4 24 (AV.bp (st.length) 0)).bind fun v=>some [v]).bind fun vs=>ze false (st.length) (zd.ret (qG vs)) st_4) fun v st_3=>ze false (st.length) (zd.pan v) st_3) fun v st_2=>ze false (st.length) (zd.pan v) st_2 else zg (cw 41 [r0,AV.str [ofNat 33]] st_1) (fun v st_2=>(zB v).bind fun b=>bif b then zg (cw 17 [r0] st_2) (fun v st_3=>zg (cw 76 [r0,AV.int .i64 (IntKind.i64.wrap (nest1+1))] st_3) (fun v st_4=>(zq 4 v).bind fun cs=>(zq 4 (AV.agg [AV.int .i64 11,AV.int .i64 0,AV.str [],AV.sl 4 [List.map AV.strip cs] 0 1 Tok.exact])).bind fun cs=>(zl st_4 (AV.bp (st.length) 0) cs).bind fun st_5=>((ldA Tryz.prog st_5 24 (AV.bp (st.length) 0)).bind fun v=>some [v]).bind fun vs=>ze false (st.length) (zd.ret (qG vs)) st_5) fun v st_4=>ze false (st.length) (zd.pan v) st_4) fun v st_3=>ze false (st.length) (zd.pan v) st_3 else zg (cw 97 [r0,AV.int .i64 nest1] st_2) (fun v st_3=>(zq 4 v).bind fun cs=>(zl st_3 (AV.bp (st.length) 0) cs).bind fun st_4=>((ldA Tryz.prog st_4 24 (AV.bp (st.length) 0)).bind fun v=>some [v]).bind fun vs=>ze false (st.length) (zd.ret (qG vs)) st_4) fun v st_3=>ze false (st.length) (zd.pan v) st_3) fun v st_2=>ze false (st.length) (zd.pan v) st_2) fun v st_1=>ze false (st.length) (zd.pan v) st_1)=some r):cw 76 [r0,AV.int .i64 nest1] st=some r:=zw (Eq.trans (by kernel_rfl) h)
theorem zbC (i0:Int) (st:St) {r:zd×St} (h:(zg (cw 118 [AV.int .i64 i0,AV.int .i64 10] st) (fun v st_1=>(zA v).bind fun s=>ze false (st.length) (zd.ret (AV.str s)) st_1) fun v st_1=>ze false (st.length) (zd.pan v) st_1)=some r):cw 104 [AV.int .i64 i0] st=some r:=zw (Eq.trans (by kernel_rfl) h)
abbrev GQ:List Dir:=[.sr,.sr,.sr,.sl,.sr,.bk]
theorem F92 (s0:List UInt8) (st:St) {r:zd×St} (h:((zQ BinOp.eql s0 [ofNat 48]).bind fun v=>(zB v).bind fun b=>bif b then ze false (st.length) (zd.ret (AV.bool true)) st else bif decide ((s0.length:Int)>0) then (Option.map (fun b=>AV.int .u8 (b.toNat:Int)) s0[0]?).bind fun v=>(zm IntKind.u8 v).bind fun n=>bif n==45 then (qA (AV.str s0) (some (AV.int .i64 1)) none).bind fun v=>(zA v).bind fun s=>aw 92 (st.length) GQ {env:=[(0,AV.str s),(17,AV.int .i64 (s.length:Int)),(18,AV.int .i64 0)],defers:=[]} st else aw 92 (st.length) GQ {env:=[(0,AV.str s0),(17,AV.int .i64 (s0.length:Int)),(18,AV.int .i64 0)],defers:=[]} st else aw 92 (st.length) GQ {env:=[(0,AV.str s0),(17,AV.int .i64 (s0.length:Int)),(18,AV.int .i64 0)],defers:=[]} st)=some r):cw 92 [AV.str s0] st=some r:=zw (Eq.trans (by kernel_rfl) h)
theorem IP (s0:List UInt8) (v17:Int) (v18:Int) (base:Nat) (st:St) {r:zd×St} (h:(bif decide (v18<v17) then (zJ (AV.int .i64 v18)).bind fun j=>(Option.map (fun b=>AV.int .u8 (b.toNat:Int)) s0[j]?).bind fun v=>(zm IntKind.u8 v).bind fun n=>bif decide (n<48) then ze false base (zd.ret (AV.bool false)) st else (zJ (AV.int .i64 v18)).bind fun j=>(Option.map (fun b=>AV.int .u8 (b.toNat:Int)) s0[j]?).bind fun v=>(zm IntKind.u8 v).bind fun n=>bif decide (n>57) then ze false base (zd.ret (AV.bool false)) st else aw 92 base GQ {env:=[(0,AV.str s0),(17,AV.int .i64 v17),(18,AV.int .i64 (IntKind.i64.wrap (v18+1)))],defers:=[]} st
else bif decide ((s0.length:Int)>0) then (Option.map (fun b=>AV.int .u8 (b.toNat:Int)) s0[0]?).bind fun v=>(zm IntKind.u8 v).bind fun n=>ze false base (zd.ret (AV.bool (n != 48))) st else ze false base (zd.ret (AV.bool false)) st)=some r):aw 92 base GQ {env:=[(0,AV.str s0),(17,AV.int .i64 v17),(18,AV.int .i64 v18)],defers:=[]} st=some r:=ql (Eq.trans (by kernel_rfl) h)
theorem F94 (s0:List UInt8) (st:St) {r:zd×St} (h:(bif decide ((s0.length:Int)<1) then ze false (st.length) (zd.ret (AV.tup [AV.int .i32 65533,AV.int .i64 0])) st
else (Option.map (fun b=>AV.int .u8 (b.toNat:Int)) s0[0]?).bind fun v=>(zm IntKind.u8 v).bind fun n=>(zJ (AV.int .u8 n)).bind fun j=>if j<256 then (zf st (AV.ip Kz (0+j*1)) 1 false).bind fun v=>(zm IntKind.u8 v).bind fun n_1=>bif decide (n_1≥240) then (Option.map (fun b=>AV.int .u8 (b.toNat:Int)) s0[0]?).bind fun v=>(zm IntKind.u8 v).bind fun n=>ze false (st.length) (zd.ret (AV.tup [AV.int .i32 (bits BinOp.or IntKind.i32 (bits BinOp.andNot IntKind.i32 (IntKind.i32.wrap n) ((IntKind.i32.wrap (IntKind.i32.wrap n_1*2^31)).fdiv (2^31))) (bits BinOp.and IntKind.i32 65533 ((IntKind.i32.wrap (IntKind.i32.wrap n_1*2^31)).fdiv (2^31)))),AV.int .i64 1])) st else (zJ (AV.int .u8 (n_1.fdiv 16))).bind fun j=>if j<16 then (zf st (AV.ip [AV.int .u8 128,AV.int .u8 191,AV.int .u8 160,AV.int .u8 191,AV.int .u8 128,AV.int .u8 159,AV.int .u8 144,AV.int .u8 191,AV.int .u8 128,AV.int .u8 143,AV.int .u8 0,AV.int .u8 0,AV.int .u8 0,AV.int .u8 0,AV.int .u8 0,AV.int .u8 0,AV.int .u8 0,AV.int .u8 0,AV.int .u8 0,AV.int .u8 0,AV.int .u8 0,AV.int .u8 0,AV.int .u8 0,AV.int .u8 0,AV.int .u8 0,AV.int .u8 0,AV.int .u8 0,AV.int .u8 0,AV.int .u8 0,AV.int .u8 0,AV.int .u8 0,AV.int .u8 0] (0+j*2)) 2 true).bind fun v=>(zq 2 v).bind fun cs=>(zl (zh.box 136 [AV.int .u8 0,AV.int .u8 0]::st) (AV.bp (st.length) 0) cs).bind fun st_1=>bif decide ((s0.length:Int)<IntKind.i64.wrap (bits BinOp.and IntKind.u8 n_1 7)) then ze false (st.length) (zd.ret (AV.tup [AV.int .i32 65533,AV.int .i64 1])) st_1 else (Option.map (fun b=>AV.int .u8 (b.toNat:Int)) s0[1]?).bind fun v=>(zm IntKind.u8 v).bind fun n_2=>(zf st_1 (AV.bp (st.length) 0) 1 false).bind fun v=>(zm IntKind.u8 v).bind fun n_3=>bif decide (n_2<n_3) then ze false (st.length) (zd.ret (AV.tup [AV.int .i32 65533,AV.int .i64 1])) st_1 else (zf st_1 (AV.bp (st.length) 1) 1 false).bind fun v=>(zm IntKind.u8 v).bind fun n_4=>bif decide (n_4<n_2) then ze false (st.length) (zd.ret (AV.tup [AV.int .i32 65533,AV.int .i64 1])) st_1 else bif decide (IntKind.i64.wrap (bits BinOp.and IntKind.u8 n_1 7)≤2) then ze false (st.length) (zd.ret (AV.tup [AV.int .i32 (bits BinOp.or IntKind.i32 (IntKind.i32.wrap (IntKind.i32.wrap (bits BinOp.and IntKind.u8 n 31)*64)) (IntKind.i32.wrap (bits BinOp.and IntKind.u8 n_2 63))),AV.int .i64 2])) st_1 else (Option.map (fun b=>AV.int .u8 (b.toNat:Int)) s0[2]?).bind fun v=>(zm IntKind.u8 v).bind fun n_5=>bif decide (n_5<128) then ze false (st.length) (zd.ret (AV.tup [AV.int .i32 65533,AV.int .i64 1])) st_1 else bif decide (191<n_5) then ze false (st.length) (zd.ret (AV.tup [AV.int .i32 65533,AV.int .i64 1])) st_1 else bif decide (IntKind.i64.wrap (bits BinOp.and IntKind.u8 n_1 7)≤3) then ze false (st.length) (zd.ret (AV.tup [AV.int .i32 (bits BinOp.or IntKind.i32 (bits BinOp.or IntKind.i32 (IntKind.i32.wrap (IntKind.i32.wrap (bits BinOp.and IntKind.u8 n 15)*4096)) (IntKind.i32.wrap (IntKind.i32.wrap (bits BinOp.and IntKind.u8 n_2 63)*64))) (IntKind.i32.wrap (bits BinOp.and IntKind.u8 n_5 63))),AV.int .i64 3])) st_1 else (Option.map (fun b=>AV.int .u8 (b.toNat:Int)) s0[3]?).bind fun v=>(zm IntKind.u8 v).bind fun n_6=>bif decide (n_6<128) then ze false (st.length) (zd.ret (AV.tup [AV.int .i32 65533,AV.int .i64 1])) st_1 else bif decide (191<n_6) then ze false (st.length) (zd.ret (AV.tup [AV.int .i32 65533,AV.int .i64 1])) st_1 else ze false (st.length) (zd.ret (AV.tup [AV.int .i32 (bits BinOp.or IntKind.i32 (bits BinOp.or IntKind.i32 (bits BinOp.or IntKind.i32 (IntKind.i32.wrap (IntKind.i32.wrap (bits BinOp.and IntKind.u8 n 7)*2^18)) (IntKind.i32.wrap (IntKind.i32.wrap (bits BinOp.and IntKind.u8 n_2 63)*4096))) (IntKind.i32.wrap (IntKind.i32.wrap (bits BinOp.and IntKind.u8 n_5 63)*64))) (IntKind.i32.wrap (bits BinOp.and IntKind.u8 n_6 63))),AV.int .i64 4])) st_1 else none else none)=some r):cw 94 [AV.str s0] st=some r:=zw (Eq.trans (by kernel_rfl) h)
theorem F95 (p0:AV) (r1:Int) (st:St) {r:zd×St} (h:(bif decide (IntKind.u32.wrap r1≤2047) then zX (zR (zh.free 0::st) (some (st.length+0,true)) 1 0 p0 (AV.sl 0 [[AV.int .u8 (bits BinOp.or IntKind.u8 192 (IntKind.u8.wrap (r1.fdiv 64)))],[AV.int .u8 (bits BinOp.or IntKind.u8 128 (bits BinOp.and IntKind.u8 (IntKind.u8.wrap r1) 63))]] 0 2 Tok.exact)) fun v st_1=>ze true (st.length) (zd.ret v) st_1
else bif decide (IntKind.u32.wrap r1<55296) then zX (zR (zh.free 0::st) (some (st.length+0,true)) 1 0 p0 (AV.sl 0 [[AV.int .u8 (bits BinOp.or IntKind.u8 224 (IntKind.u8.wrap (r1.fdiv 4096)))],[AV.int .u8 (bits BinOp.or IntKind.u8 128 (bits BinOp.and IntKind.u8 (IntKind.u8.wrap (r1.fdiv 64)) 63))],[AV.int .u8 (bits BinOp.or IntKind.u8 128 (bits BinOp.and IntKind.u8 (IntKind.u8.wrap r1) 63))]] 0 3 Tok.exact)) fun v st_1=>ze true (st.length) (zd.ret v) st_1 else bif decide (57343<IntKind.u32.wrap r1) then bif decide (IntKind.u32.wrap r1≤65535) then zX (zR (zh.free 0::st) (some (st.length+0,true)) 1 0 p0 (AV.sl 0 [[AV.int .u8 (bits BinOp.or IntKind.u8 224 (IntKind.u8.wrap (r1.fdiv 4096)))],[AV.int .u8 (bits BinOp.or IntKind.u8 128 (bits BinOp.and IntKind.u8 (IntKind.u8.wrap (r1.fdiv 64)) 63))],[AV.int .u8 (bits BinOp.or IntKind.u8 128 (bits BinOp.and IntKind.u8 (IntKind.u8.wrap r1) 63))]] 0 3 Tok.exact)) fun v st_1=>ze true (st.length) (zd.ret v) st_1 else bif decide (IntKind.u32.wrap r1>65535) then bif decide (IntKind.u32.wrap r1≤1114111) then zX (zR (zh.free 0::st) (some (st.length+0,true)) 1 0 p0 (AV.sl 0 [[AV.int .u8 (bits BinOp.or IntKind.u8 240 (IntKind.u8.wrap (r1.fdiv (2^18))))],[AV.int .u8 (bits BinOp.or IntKind.u8 128 (bits BinOp.and IntKind.u8 (IntKind.u8.wrap (r1.fdiv 4096)) 63))],[AV.int .u8 (bits BinOp.or IntKind.u8 128 (bits BinOp.and IntKind.u8 (IntKind.u8.wrap (r1.fdiv 64)) 63))],[AV.int .u8 (bits BinOp.or IntKind.u8 128 (bits BinOp.and IntKind.u8 (IntKind.u8.wrap r1) 63))]] 0 4 Tok.exact)) fun v st_1=>ze true (st.length) (zd.ret v) st_1 else zX (zR (zh.free 0::st) (some (st.length+0,true)) 1 0 p0 (AV.sl 0 [[AV.int .u8 239],[AV.int .u8 191],[AV.int .u8 189]] 0 3 Tok.exact)) fun v st_1=>ze true (st.length) (zd.ret v) st_1 else zX (zR (zh.free 0::st) (some (st.length+0,true)) 1 0 p0 (AV.sl 0 [[AV.int .u8 239],[AV.int .u8 191],[AV.int .u8 189]] 0 3 Tok.exact)) fun v st_1=>ze true (st.length) (zd.ret v) st_1 else bif decide (IntKind.u32.wrap r1>65535) then bif decide (IntKind.u32.wrap r1≤1114111) then zX (zR (zh.free 0::st) (some (st.length+0,true)) 1 0 p0 (AV.sl 0 [[AV.int .u8 (bits BinOp.or IntKind.u8 240 (IntKind.u8.wrap (r1.fdiv (2^18))))],[AV.int .u8 (bits BinOp.or IntKind.u8 128 (bits BinOp.and IntKind.u8 (IntKind.u8.wrap (r1.fdiv 4096)) 63))],[AV.int .u8 (bits BinOp.or IntKind.u8 128 (bits BinOp.and IntKind.u8 (IntKind.u8.wrap (r1.fdiv 64)) 63))],[AV.int .u8 (bits BinOp.or IntKind.u8 128 (bits BinOp.and IntKind.u8 (IntKind.u8.wrap r1) 63))]] 0 4 Tok.exact)) fun v st_1=>ze true (st.length) (zd.ret v) st_1 else zX (zR (zh.free 0::st) (some (st.length+0,true)) 1 0 p0 (AV.sl 0 [[AV.int .u8 239],[AV.int .u8 191],[AV.int .u8 189]] 0 3 Tok.exact)) fun v st_1=>ze true (st.length) (zd.ret v) st_1 else zX (zR (zh.free 0::st) (some (st.length+0,true)) 1 0 p0 (AV.sl 0 [[AV.int .u8 239],[AV.int .u8 191],[AV.int .u8 189]] 0 3 Tok.exact)) fun v st_1=>ze true (st.length) (zd.ret v) st_1)=some r):cw 95 [p0,AV.int .i32 r1] st=some r:=zw (Eq.trans (by kernel_rfl) h)
theorem F96 (s0:List UInt8) (prefix1:List UInt8) (st:St) {r:zd×St} (h:(bif decide ((s0.length:Int)≥(prefix1.length:Int)) then (qA (AV.str s0) none (some (AV.int .i64 (prefix1.length:Int)))).bind fun v=>(zA v).bind fun s=>(zQ BinOp.eql s prefix1).bind fun v=>(zB v).bind fun b=>ze false (st.length) (zd.ret (AV.bool b)) st
else ze false (st.length) (zd.ret (AV.bool false)) st)=some r):cw 96 [AV.str s0,AV.str prefix1] st=some r:=zw (Eq.trans (by kernel_rfl) h)
abbrev Vg:List Dir:=[.sr,.sr,.bk]
theorem F97 (r0:AV) (nest1:Int) (st:St) {r:zd×St} (h:(zg (cw 112 [r0,AV.int .i64 nest1] (zh.free 0::zh.box 24 [AV.int .i64 0,AV.int .i64 0,AV.str [],AV.nils]::st)) (fun v st_1=>(zq 4 v).bind fun cs=>(zl (zh.free 0::zh.box 24 [AV.int .i64 0,AV.int .i64 0,AV.str [],AV.nils]::st_1) (AV.bp (st_1.length) 0) cs).bind fun st_2=>aw 97 (st.length) Vg {env:=[(0,r0),(1,AV.int .i64 nest1),(4,AV.bp (st.length) 0),(5,AV.bp (st_1.length) 0)],defers:=[]} st_2) fun v st_1=>ze false (st.length) (zd.pan v) st_1)=some r):cw 97 [r0,AV.int .i64 nest1] st=some r:=zw (Eq.trans (by kernel_rfl) h)
theorem zbw (r0:AV) (nest1:Int) (v4:AV) (e5:AV) (base:Nat) (st:St) {r:zd×St} (h:(zg (cw 41 [r0,AV.str [ofNat 46]] st) (fun v st=>(zB v).bind fun b=>bif b then zg (cw 17 [r0] st) (fun v st=>(zb r0).bind fun v=>(zc 3 v).bind fun v=>(zc 0 v).bind fun v=>(zf st v 1 false).bind fun v=>(zm IntKind.i64 v).bind fun n=>bif n != 3 then zg (cw 19 [r0] st) (fun v st=>(zb r0).bind fun v=>(zc 3 v).bind fun v=>(zc 1 v).bind fun v=>(zf st v 1 false).bind fun v=>(zA v).bind fun s=>(zf st e5 4 true).bind fun v=>(zq 4 v).bind fun cs=>(zq 4 (AV.agg [AV.int .i64 7,AV.int .i64 0,AV.str s,AV.sl 4 [List.map AV.strip cs] 0 1 Tok.exact])).bind fun cs=>(zl st e5 cs).bind fun st=>zg (cw 17 [r0] st) (fun v st=>aw 97 base Vg {env:=[(0,r0),(1,AV.int .i64 nest1),(4,v4),(5,e5)],defers:=[]} st) fun v st=>ze false base (zd.pan v) st) fun v st=>ze false base (zd.pan v) st else (zb r0).bind fun v=>(zc 3 v).bind fun v=>(zc 1 v).bind fun v=>(zf st v 1 false).bind fun v=>(zA v).bind fun s=>(zf st e5 4 true).bind fun v=>(zq 4 v).bind fun cs=>(zq 4 (AV.agg [AV.int .i64 7,AV.int .i64 0,AV.str s,AV.sl 4 [List.map AV.strip cs] 0 1 Tok.exact])).bind fun cs=>(zl st e5 cs).bind fun st=>zg (cw 17 [r0] st) (fun v st=>aw 97 base Vg {env:=[(0,r0),(1,AV.int .i64 nest1),(4,v4),(5,e5)],defers:=[]} st) fun v st=>ze false base (zd.pan v) st) fun v st=>ze false base (zd.pan v) st else zg (cw 41 [r0,AV.str [ofNat 91]] st) (fun v st=>(zB v).bind fun b=>bif b then (zf st e5 4 true).bind fun v=>zg (cw 113 [r0,AV.str [ofNat 93],AV.int .i64 nest1] st) (fun v_1 st_1=>(zq 4 v).bind fun cs=>(zq 4 v_1).bind fun cs_1=>(zq 4 (AV.agg [AV.int .i64 8,AV.int .i64 0,AV.str [],AV.sl 4 [List.map AV.strip cs,List.map AV.strip cs_1] 0 2 Tok.exact])).bind fun cs_2=>(zl st_1 e5 cs_2).bind fun st_2=>if ((rkA [st_2,st_1,st] 24 e5 v 0 1)&&true)=true then aw 97 base Vg {env:=[(0,r0),(1,AV.int .i64 nest1),(4,v4),(5,e5)],defers:=[]} st_2 else none) fun v_1 st_1=>if ((rkA [st] 24 e5 v 0 1)&&true)=true then ze false base (zd.pan v_1) st_1 else none else (zf st e5 4 true).bind fun v=>(zq 4 v).bind fun cs=>(zl st v4 cs).bind fun st=>((ldA Tryz.prog st 24 v4).bind fun v=>some [v]).bind fun vs=>ze false base (zd.ret (qG vs)) st) fun v st=>ze false base (zd.pan v) st) fun v st=>ze false base (zd.pan v) st)=some r):aw 97 base Vg {env:=[(0,r0),(1,AV.int .i64 nest1),(4,v4),(5,e5)],defers:=[]} st=some r:=ql (Eq.trans (by kernel_rfl) h)
end Go.Abs
namespace Go.Abs
open Go Go.Proofs
set_option maxRecDepth 100000
abbrev WE:List Dir:=[.sr,.sr,.sr,.sr,.sr,.sl,.sr,.bk]
theorem zbE (r0:AV) (nest1:Int) (st:St) {r:zd×St} (h:((zb r0).bind fun v=>(zc 3 v).bind fun v=>(zf (zh.free 0::zh.box 24 [AV.int .i64 0,AV.int .i64 0,AV.str [],AV.nils]::st) v 4 true).bind fun v=>(zq 4 v).bind fun cs=>(zl (zh.box 47 [AV.int .i64 0,AV.str [],AV.int .i64 0,AV.int .i64 0]::zh.free 0::zh.box 24 [AV.int .i64 0,AV.int .i64 0,AV.str [],AV.nils]::st) (AV.bp (zh.free 0::zh.box 24 [AV.int .i64 0,AV.int .i64 0,AV.str [],AV.nils]::st).length 0) cs).bind fun st_1=>(zf st_1 (AV.bp (zh.free 0::zh.box 24 [AV.int .i64 0,AV.int .i64 0,AV.str [],AV.nils]::st).length 0) 1 false).bind fun v=>(zm IntKind.i64 v).bind fun n=>bif n==1 then zg (cw 17 [r0] st_1) (fun v st_2=>(zf st_2 (AV.bp (zh.free 0::zh.box 24 [AV.int .i64 0,AV.int .i64 0,AV.str [],AV.nils]::st).length 2) 1 false).bind fun v=>(zm IntKind.i64 v).bind fun n=>(zq 4 (AV.agg [AV.int .i64 4,AV.int .i64 n,AV.str [],AV.nils])).bind fun cs=>(zl st_2 (AV.bp (st.length) 0) cs).bind fun st_3=>((ldA Tryz.prog st_3 24 (AV.bp (st.length) 0)).bind fun v=>some [v]).bind fun vs=>ze false (st.length) (zd.ret (qG vs)) st_3) fun v st_2=>ze false (st.length) (zd.pan v) st_2 else (zf st_1 (AV.bp (zh.free 0::zh.box 24 [AV.int .i64 0,AV.int .i64 0,AV.str [],AV.nils]::st).length 0) 1 false).bind fun v=>(zm IntKind.i64 v).bind fun n=>bif n==2 then zg (cw 17 [r0] st_1) (fun v st_2=>(zf st_2 (AV.bp (zh.free 0::zh.box 24 [AV.int .i64 0,AV.int .i64 0,AV.str [],AV.nils]::st).length 1) 1 false).bind fun v=>(zA v).bind fun s=>(zq 4 (AV.agg [AV.int .i64 5,AV.int .i64 0,AV.str s,AV.nils])).bind fun cs=>(zl st_2 (AV.bp (st.length) 0) cs).bind fun st_3=>((ldA Tryz.prog st_3 24 (AV.bp (st.length) 0)).bind fun v=>some [v]).bind fun vs=>ze false (st.length) (zd.ret (qG vs)) st_3) fun v st_2=>ze false (st.length) (zd.pan v) st_2 else zg (cw 41 [r0,AV.str [ofNat 40]] st_1) (fun v st_2=>(zB v).bind fun b=>bif b then zg (cw 113 [r0,AV.str [ofNat 41],AV.int .i64 nest1] st_2) (fun v st_3=>(zq 4 v).bind fun cs=>(zl st_3 (AV.bp (st.length) 0) cs).bind fun st_4=>((ldA Tryz.prog st_4 24 (AV.bp (st.length) 0)).bind fun v=>some [v]).bind fun vs=>ze false (st.length) (zd.ret (qG vs)) st_4) fun v st_3=>ze false (st.length) (zd.pan v) st_3 else (zf st_2 (AV.bp (zh.free 0::zh.box 24 [AV.int .i64 0,AV.int .i64 0,AV.str [],AV.nils]::st).length 0) 1 false).bind fun v=>(zm IntKind.i64 v).bind fun n=>bif n != 3 then zg (cw 19 [r0] st_2) (fun v st_3=>zg (cw 17 [r0] st_3) (fun v st_4=>(zf st_4 (AV.bp (zh.free 0::zh.box 24 [AV.int .i64 0,AV.int .i64 0,AV.str [],AV.nils]::st).length 1) 1 false).bind fun v=>(zA v).bind fun s=>zg (cw 55 [AV.str s] st_4) (fun v st_5=>(zm IntKind.i64 v).bind fun n=>bif n != 0 then (zq 4 (AV.agg [AV.int .i64 n,AV.int .i64 0,AV.str [],AV.nils])).bind fun cs=>(zl st_5 (AV.bp (st.length) 0) cs).bind fun st_6=>((ldA Tryz.prog st_6 24 (AV.bp (st.length) 0)).bind fun v=>some [v]).bind fun vs=>ze false (st.length) (zd.ret (qG vs)) st_6 else zg (cw 51 [] st_5) (fun v st_6=>(zL v).bind fun v_1=>(zm IntKind.i64 v_1).bind fun n=>aw 112 (st.length) WE {env:=[(0,r0),(1,AV.int .i64 nest1),(4,AV.bp (st.length) 0),(5,AV.bp (zh.free 0::zh.box 24 [AV.int .i64 0,AV.int .i64 0,AV.str [],AV.nils]::st).length 0),(52,v),(53,AV.int .i64 n),(54,AV.int .i64 0)],defers:=[]} st_6) fun v st_6=>ze false (st.length) (zd.pan v) st_6) fun v st_5=>ze false (st.length) (zd.pan v) st_5) fun v st_4=>ze false (st.length) (zd.pan v) st_4) fun v st_3=>ze false (st.length) (zd.pan v) st_3 else zg (cw 17 [r0] st_2) (fun v st_3=>(zf st_3 (AV.bp (zh.free 0::zh.box 24 [AV.int .i64 0,AV.int .i64 0,AV.str [],AV.nils]::st).length 1) 1 false).bind fun v=>(zA v).bind fun s=>zg (cw 55 [AV.str s] st_3) (fun v st_4=>(zm IntKind.i64 v).bind fun n=>bif n != 0 then (zq 4 (AV.agg [AV.int .i64 n,AV.int .i64 0,AV.str [],AV.nils])).bind fun cs=>(zl st_4 (AV.bp (st.length) 0) cs).bind fun st_5=>((ldA Tryz.prog st_5 24 (AV.bp (st.length) 0)).bind fun v=>some [v]).bind fun vs=>ze false (st.length) (zd.ret (qG vs)) st_5 else zg (cw 51 [] st_4) (fun v st_5=>(zL v).bind fun v_1=>(zm IntKind.i64 v_1).bind fun n=>aw 112 (st.length) WE {env:=[(0,r0),(1,AV.int .i64 nest1),(4,AV.bp (st.length) 0),(5,AV.bp (zh.free 0::zh.box 24 [AV.int .i64 0,AV.int .i64 0,AV.str [],AV.nils]::st).length 0),(52,v),(53,AV.int .i64 n),(54,AV.int .i64 0)],defers:=[]} st_5) fun v st_5=>ze false (st.length) (zd.pan v) st_5) fun v st_4=>ze false (st.length) (zd.pan v) st_4) fun v st_3=>ze false (st.length) (zd.pan v) st_3) fun v st_2=>ze false (st.length) (zd.pan v) st_2)=some r):cw 112 [r0,AV.int .i64 nest1] st=some r:=zw (Eq.trans (by kernel_rfl) h)
theorem Hk (r0:AV) (nest1:Int) (v4:AV) (t5:AV) (v52:AV) (v53:Int) (v54:Int) (base:Nat) (st:St) {r:zd×St} (h:(bif decide (v54<v53) then (zJ (AV.int .i64 v54)).bind fun j=>(zt st 1 v52 j).bind fun v=>(zf st v 1 false).bind fun v=>(zA v).bind fun s=>(zc 1 t5).bind fun v=>(zf st v 1 false).bind fun v=>(zA v).bind fun s_1=>(zQ BinOp.eql s s_1).bind fun v=>(zB v).bind fun b=>bif b then zg (cw 41 [r0,AV.str [ofNat 40]] st) (fun v st=>(zB v).bind fun b=>bif b then zg (cw 113 [r0,AV.str [ofNat 41],AV.int .i64 nest1] st) (fun v st=>(zq 4 v).bind fun cs=>(zq 4 (AV.agg [AV.int .i64 9,AV.int .i64 (IntKind.i64.wrap (v54+1)),AV.str [],AV.sl 4 [List.map AV.strip cs] 0 1 Tok.exact])).bind fun cs=>(zl st v4 cs).bind fun st=>((ldA Tryz.prog st 24 v4).bind fun v=>some [v]).bind fun vs=>ze false base (zd.ret (qG vs)) st) fun v st=>ze false base (zd.pan v) st else aw 112 base WE {env:=[(0,r0),(1,AV.int .i64 nest1),(4,v4),(5,t5),(52,v52),(53,AV.int .i64 v53),(54,AV.int .i64 (IntKind.i64.wrap (v54+1)))],defers:=[]} st) fun v st=>ze false base (zd.pan v) st else aw 112 base WE {env:=[(0,r0),(1,AV.int .i64 nest1),(4,v4),(5,t5),(52,v52),(53,AV.int .i64 v53),(54,AV.int .i64 (IntKind.i64.wrap (v54+1)))],defers:=[]} st
else (zc 1 t5).bind fun v=>(zf st v 1 false).bind fun v=>(zA v).bind fun s=>(zq 4 (AV.agg [AV.int .i64 6,AV.int .i64 0,AV.str s,AV.nils])).bind fun cs=>(zl st v4 cs).bind fun st=>((ldA Tryz.prog st 24 v4).bind fun v=>some [v]).bind fun vs=>ze false base (zd.ret (qG vs)) st)=some r):aw 112 base WE {env:=[(0,r0),(1,AV.int .i64 nest1),(4,v4),(5,t5),(52,v52),(53,AV.int .i64 v53),(54,AV.int .i64 v54)],defers:=[]} st=some r:=ql (Eq.trans (by kernel_rfl) h)
theorem zbL (r0:AV) (last1:List UInt8) (nest2:Int) (st:St) {r:zd×St} (h:(zg (cw 17 [r0] (zh.free 0::zh.box 24 [AV.int .i64 0,AV.int .i64 0,AV.str [],AV.nils]::st)) (fun v st_1=>zg (cw 18 [r0,AV.int .i64 (IntKind.i64.wrap (nest2+1))] st_1) (fun v st_2=>(zq 4 v).bind fun cs=>(zl (zh.free 0::zh.box 24 [AV.int .i64 0,AV.int .i64 0,AV.str [],AV.nils]::st_2) (AV.bp (st_2.length) 0) cs).bind fun st_3=>zg (cw 42 [r0,AV.str last1] st_3) (fun v st_4=>(zf st_4 (AV.bp (st_2.length) 0) 4 true).bind fun v=>(zq 4 v).bind fun cs=>(zl st_4 (AV.bp (st.length) 0) cs).bind fun st_5=>((ldA Tryz.prog st_5 24 (AV.bp (st.length) 0)).bind fun v=>some [v]).bind fun vs=>ze false (st.length) (zd.ret (qG vs)) st_5) fun v st_4=>ze false (st.length) (zd.pan v) st_4) fun v st_2=>ze false (st.length) (zd.pan v) st_2) fun v st_1=>ze false (st.length) (zd.pan v) st_1)=some r):cw 113 [r0,AV.str last1,AV.int .i64 nest2] st=some r:=zw (Eq.trans (by kernel_rfl) h)
end Go.Abs
namespace Go.Abs
open Go Go.Proofs
set_option maxRecDepth 100000
theorem HI (c0:AV) (c1:AV) (st:St) {r:zd×St×zo} (h:(zg (cw 87 [c0] st) (fun v st_1=>(zb c0).bind fun v=>(zc 1 v).bind fun v=>(zf st_1 v 1 false).bind fun v_1=>(zm IntKind.u8 c1).bind fun n=>zX (zR st_1 (YW (fun t c=>((List.find? (fun x=>x.fst==t) ZQ).bind fun x=>List.findIdx?.go (fun x=>x==c) x.snd 0).getD 0) false st_1 v) 1 0 v_1 (AV.sl 0 [[AV.int .u8 n]] 0 1 Tok.exact)) fun v st_2=>(zb c0).bind fun v_2=>(zc 1 v_2).bind fun v_3=>(cell1 v).bind fun c=>(zl st_2 v_3 [c]).bind fun st_3=>Option.map (fun o=>(o.fst,o.snd,zo.ret)) (ze false (st.length) (zd.ret AV.nili) st_3)) fun v st_1=>Option.map (fun o=>(o.fst,o.snd,zo.ret)) (ze false (st.length) (zd.pan v) st_1))=some r):zY Tryz.prog zz cw (qq Tryz.prog zz) 56 [c0,c1] st zo.ret=some r:=Wt (Eq.trans (by kernel_rfl) h)
end Go.Abs
namespace Go.Abs
open Go Go.Proofs
set_option maxRecDepth 100000
theorem F12 (x0_Op:Int) (x0_Int:Int) (x0_Str:List UInt8) (x0_Kids:AV) (st:St) {r:zd×St} (h:((zq 4 (AV.agg [AV.int .i64 x0_Op,AV.int .i64 x0_Int,AV.str x0_Str,x0_Kids])).bind fun cs=>(zf (zh.free 0::zh.box 24 [AV.int .i64 0,AV.int .i64 0,AV.str [],AV.nils]::zh.free 0::zh.box 24 cs::st) (AV.bp (st.length) 3) 1 false).bind fun v=>zg (cw 26 [v] (zh.free 0::zh.box 24 [AV.int .i64 0,AV.int .i64 0,AV.str [],AV.nils]::zh.free 0::zh.box 24 cs::st)) (fun v st_1=>(cell1 v).bind fun c=>(zl st_1 (AV.bp (st.length) 3) [c]).bind fun st_2=>(zf st_2 (AV.bp (st.length) 0) 4 true).bind fun v=>(zq 4 v).bind fun cs_1=>(zl st_2 (AV.bp (zh.free 0::zh.box 24 cs::st).length 0) cs_1).bind fun st_3=>((ldA Tryz.prog st_3 24 (AV.bp (zh.free 0::zh.box 24 cs::st).length 0)).bind fun v=>some [v]).bind fun vs=>ze false (st.length) (zd.ret (qG vs)) st_3) fun v st_1=>ze false (st.length) (zd.pan v) st_1)=some r):cw 12 [AV.agg [AV.int .i64 x0_Op,AV.int .i64 x0_Int,AV.str x0_Str,x0_Kids]] st=some r:=zw (Eq.trans (by kernel_rfl) h)
abbrev Er:List Dir:=[.sr,.sr,.sl,.sr,.bk]
theorem F26 (a0:AV) (st:St) {r:zd×St} (h:(aw 26 (st.length) Er {env:=[(0,a0),(3,AV.nils),(4,AV.int .i64 0)],defers:=[]} (zh.free 0::st))=some r):cw 26 [a0] st=some r:=zw (Eq.trans (by kernel_rfl) h)
theorem za3 (a0:AV) (out3:AV) (i4:Int) (base:Nat) (st:St) {r:zd×St} (h:((zL a0).bind fun v=>(zm IntKind.i64 v).bind fun n=>bif decide (i4<n) then (zJ (AV.int .i64 i4)).bind fun j=>(zt st 4 a0 j).bind fun v=>(zf st v 4 true).bind fun v=>zg (cw 12 [v] st) (fun v st=>(zq 4 v).bind fun cs=>zX (zR st (some (base+0,false)) 56 4 out3 (AV.sl 4 [List.map AV.strip cs] 0 1 Tok.exact)) fun v st=>aw 26 base Er {env:=[(0,a0),(3,v),(4,AV.int .i64 (IntKind.i64.wrap (i4+1)))],defers:=[]} st) fun v st=>ze false base (zd.pan v) st else (zq 4 (AV.agg [AV.int .i64 (-7),AV.int .i64 0,AV.str [],AV.nils])).bind fun cs=>(zq 4 (AV.agg [AV.int .i64 (-7),AV.int .i64 0,AV.str [],AV.nils])).bind fun cs_1=>zX (zR st (some (base+0,false)) 56 4 out3 (AV.sl 4 [List.map AV.strip cs,List.map AV.strip cs_1] 0 2 Tok.exact)) fun v st=>(zL a0).bind fun v_1=>(zm IntKind.i64 v_1).bind fun n=>(je st 4 v none (some (AV.int .i64 n)) none).bind fun v=>zX (qN st v) fun v st=>ze false base (zd.ret v) st)=some r):aw 26 base Er {env:=[(0,a0),(3,out3),(4,AV.int .i64 i4)],defers:=[]} st=some r:=ql (Eq.trans (by kernel_rfl) h)
theorem F15 (lent0_Op:Int) (lent0_Int:Int) (lent0_Str:List UInt8) (lent0_Kids:AV) (a1_Op:Int) (a1_Int:Int) (a1_Str:List UInt8) (a1_Kids:AV) (st:St) {r:zd×St} (h:((zq 4 (AV.agg [AV.int .i64 lent0_Op,AV.int .i64 lent0_Int,AV.str lent0_Str,lent0_Kids])).bind fun cs=>(zq 4 (AV.agg [AV.int .i64 a1_Op,AV.int .i64 a1_Int,AV.str a1_Str,a1_Kids])).bind fun cs_1=>(zf (zh.free 0::zh.box 24 cs_1::zh.free 0::zh.box 24 cs::st) (AV.bp (st.length) 0) 1 false).bind fun v=>(zm IntKind.i64 v).bind fun n=>(zf (zh.free 0::zh.box 24 cs_1::zh.free 0::zh.box 24 cs::st) (AV.bp (zh.free 0::zh.box 24 cs::st).length 0) 1 false).bind fun v=>(zm IntKind.i64 v).bind fun n_1=>bif n==n_1 then (zf (zh.free 0::zh.box 24 cs_1::zh.free 0::zh.box 24 cs::st) (AV.bp (st.length) 1) 1 false).bind fun v=>(zm IntKind.i64 v).bind fun n=>(zf (zh.free 0::zh.box 24 cs_1::zh.free 0::zh.box 24 cs::st) (AV.bp (zh.free 0::zh.box 24 cs::st).length 1) 1 false).bind fun v=>(zm IntKind.i64 v).bind fun n_2=>bif n==n_2 then (zf (zh.free 0::zh.box 24 cs_1::zh.free 0::zh.box 24 cs::st) (AV.bp (st.length) 2) 1 false).bind fun v=>(zA v).bind fun s=>(zf (zh.free 0::zh.box 24 cs_1::zh.free 0::zh.box 24 cs::st) (AV.bp (zh.free 0::zh.box 24 cs::st).length 2) 1 false).bind fun v=>(zA v).bind fun s_1=>(zQ BinOp.eql s s_1).bind fun v=>(zB v).bind fun b=>bif b then (zf (zh.free 0::zh.box 24 cs_1::zh.free 0::zh.box 24 cs::st) (AV.bp (st.length) 3) 1 false).bind fun v=>(zf (zh.free 0::zh.box 24 cs_1::zh.free 0::zh.box 24 cs::st) (AV.bp (zh.free 0::zh.box 24 cs::st).length 3) 1 false).bind fun v_1=>zg (cw 32 [v,v_1] (zh.free 0::zh.box 24 cs_1::zh.free 0::zh.box 24 cs::st)) (fun v st_1=>(zB v).bind fun b=>ze false (st.length) (zd.ret (AV.bool b)) st_1) fun v st_1=>ze false (st.length) (zd.pan v) st_1 else ze false (st.length) (zd.ret (AV.bool false)) (zh.free 0::zh.box 24 cs_1::zh.free 0::zh.box 24 cs::st) else ze false (st.length) (zd.ret (AV.bool false)) (zh.free 0::zh.box 24 cs_1::zh.free 0::zh.box 24 cs::st) else ze false (st.length) (zd.ret (AV.bool false)) (zh.free 0::zh.box 24 cs_1::zh.free 0::zh.box 24 cs::st))=some r):cw 15 [AV.agg [AV.int .i64 lent0_Op,AV.int .i64 lent0_Int,AV.str lent0_Str,lent0_Kids],AV.agg [AV.int .i64 a1_Op,AV.int .i64 a1_Int,AV.str a1_Str,a1_Kids]] st=some r:=zw (Eq.trans (by kernel_rfl) h)
abbrev Eg:List Dir:=[.sr,.sr,.sr,.sl,.sr,.bk]
theorem F32 (lent0:AV) (a1:AV) (st:St) {r:zd×St} (h:((zL lent0).bind fun v=>(zm IntKind.i64 v).bind fun n=>(je st 4 lent0 none (some (AV.int .i64 (IntKind.i64.wrap (n+2)))) none).bind fun v=>(zL lent0).bind fun v_1=>(zm IntKind.i64 v_1).bind fun n=>(zL a1).bind fun v_2=>(zm IntKind.i64 v_2).bind fun n_1=>bif n != n_1 then ze false (st.length) (zd.ret (AV.bool false)) st else (zL a1).bind fun v_3=>(zm IntKind.i64 v_3).bind fun n=>(zJ (AV.int .i64 n)).bind fun j=>(zt st 4 v j).bind fun v_4=>(zf st v_4 4 true).bind fun v_5=>zg (cw 8 [v_5,AV.agg [AV.int .i64 (-7),AV.int .i64 0,AV.str [],AV.nils]] st) (fun v_6 st_1=>(zB v_6).bind fun b=>bif !b then ze false (st.length) (zd.ret (AV.bool false)) st_1 else (zL a1).bind fun v_7=>(zm IntKind.i64 v_7).bind fun n=>(zJ (AV.int .i64 (IntKind.i64.wrap (n+1)))).bind fun j=>(zt st_1 4 v j).bind fun v=>(zf st_1 v 4 true).bind fun v=>zg (cw 8 [v,AV.agg [AV.int .i64 (-7),AV.int .i64 0,AV.str [],AV.nils]] st_1) (fun v st_2=>(zB v).bind fun b=>bif !b then ze false (st.length) (zd.ret (AV.bool false)) st_2 else aw 32 (st.length) Eg {env:=[(0,lent0),(1,a1),(6,AV.int .i64 0)],defers:=[]} st_2) fun v st_2=>ze false (st.length) (zd.pan v) st_2) fun v st_1=>ze false (st.length) (zd.pan v) st_1)=some r):cw 32 [lent0,a1] st=some r:=zw (Eq.trans (by kernel_rfl) h)
theorem IL (lent0:AV) (a1:AV) (i6:Int) (base:Nat) (st:St) {r:zd×St} (h:((zL a1).bind fun v=>(zm IntKind.i64 v).bind fun n=>bif decide (i6<n) then (zJ (AV.int .i64 i6)).bind fun j=>(zt st 4 lent0 j).bind fun v=>(zf st v 4 true).bind fun v=>(zJ (AV.int .i64 i6)).bind fun j=>(zt st 4 a1 j).bind fun v_1=>(zf st v_1 4 true).bind fun v_2=>zg (cw 15 [v,v_2] st) (fun v st=>(zB v).bind fun b=>bif !b then ze false base (zd.ret (AV.bool false)) st else aw 32 base Eg {env:=[(0,lent0),(1,a1),(6,AV.int .i64 (IntKind.i64.wrap (i6+1)))],defers:=[]} st) fun v st=>ze false base (zd.pan v) st else ze false base (zd.ret (AV.bool true)) st)=some r):aw 32 base Eg {env:=[(0,lent0),(1,a1),(6,AV.int .i64 i6)],defers:=[]} st=some r:=ql (Eq.trans (by kernel_rfl) h)
theorem F14 (e0_Op:Int) (e0_Int:Int) (e0_Str:List UInt8) (e0_Kids:AV) (st:St) {r:zd×St} (h:((zq 4 (AV.agg [AV.int .i64 e0_Op,AV.int .i64 e0_Int,AV.str e0_Str,e0_Kids])).bind fun cs=>(zf (zh.free 0::zh.box 24 cs::st) (AV.bp (st.length) 0) 4 true).bind fun v=>zg (cw 30 [v] (zh.free 0::zh.box 24 cs::st)) (fun v st_1=>(zB v).bind fun b=>bif !b then ze false (st.length) (zd.ret (AV.tup [AV.str [],AV.int .i64 1003])) st_1 else (zf st_1 (AV.bp (st.length) 0) 4 true).bind fun v=>zg (cw 31 [v] st_1) (fun v st_2=>(zA v).bind fun s=>ze false (st.length) (zd.ret (AV.tup [AV.str s,AV.int .i64 0])) st_2) fun v st_2=>ze false (st.length) (zd.pan v) st_2) fun v st_1=>ze false (st.length) (zd.pan v) st_1)=some r):cw 14 [AV.agg [AV.int .i64 e0_Op,AV.int .i64 e0_Int,AV.str e0_Str,e0_Kids]] st=some r:=zw (Eq.trans (by kernel_rfl) h)
theorem F30 (e0_Op:Int) (e0_Int:Int) (e0_Str:List UInt8) (e0_Kids:AV) (st:St) {r:zd×St} (h:((zq 4 (AV.agg [AV.int .i64 e0_Op,AV.int .i64 e0_Int,AV.str e0_Str,e0_Kids])).bind fun cs=>(zf (zh.free 0::zh.box 24 cs::st) (AV.bp (st.length) 0) 4 true).bind fun v=>zg (cw 60 [v,AV.int .i64 0] (zh.free 0::zh.box 24 cs::st)) (fun v st_1=>(zK 0 v).bind fun v_1=>(zm IntKind.i64 v_1).bind fun n=>(zK 1 v).bind fun v=>(zB v).bind fun b=>ze false (st.length) (zd.ret (AV.bool b)) st_1) fun v st_1=>ze false (st.length) (zd.pan v) st_1)=some r):cw 30 [AV.agg [AV.int .i64 e0_Op,AV.int .i64 e0_Int,AV.str e0_Str,e0_Kids]] st=some r:=zw (Eq.trans (by kernel_rfl) h)
abbrev GZ:List Dir:=[.sr,.sr,.sl,.sr,.ca,.sr,.sl,.sr,.bk]
theorem F31 (e0_Op:Int) (e0_Int:Int) (e0_Str:List UInt8) (e0_Kids:AV) (st:St) {r:zd×St} (h:((zq 4 (AV.agg [AV.int .i64 e0_Op,AV.int .i64 e0_Int,AV.str e0_Str,e0_Kids])).bind fun cs=>(zf (zh.free 0::zh.box 24 cs::st) (AV.bp (st.length) 0) 1 false).bind fun v=>(zm IntKind.i64 v).bind fun n=>zg (cw 61 [AV.int .i64 n] (zh.free 0::zh.box 24 cs::st)) (fun v st_1=>(zm IntKind.i64 v).bind fun n=>bif decide (n≥1) then bif decide (n≤11) then aw 31 (st.length) GZ {env:=[(1,AV.bp (st.length) 0),(3,AV.int .i64 n),(4,AV.str []),(5,AV.int .i64 0)],defers:=[]} st_1 else (zf st_1 (AV.bp (st.length) 0) 1 false).bind fun v=>(zm IntKind.i64 v).bind fun n=>bif n==31 then (zf st_1 (AV.bp (st.length) 3) 1 false).bind fun v=>(zt st_1 4 v 0).bind fun v_1=>(zf st_1 v_1 4 true).bind fun v_2=>zg (cw 64 [v_2,AV.int .i64 1] st_1) (fun v_3 st_2=>(zA v_3).bind fun s=>(zQ BinOp.add s [ofNat 32,ofNat 63,ofNat 32]).bind fun v_4=>(zA v_4).bind fun s_1=>(zf st_2 (AV.bp (st.length) 3) 1 false).bind fun v_5=>(zt st_2 4 v_5 1).bind fun v_6=>(zf st_2 v_6 4 true).bind fun v_7=>zg (cw 31 [v_7] st_2) (fun v_8 st_3=>(zA v_8).bind fun s_2=>(zQ BinOp.add s_1 s_2).bind fun v_9=>(zA v_9).bind fun s_3=>(zQ BinOp.add s_3 [ofNat 32,ofNat 58,ofNat 32]).bind fun v_10=>(zA v_10).bind fun s_4=>(zf st_3 (AV.bp (st.length) 3) 1 false).bind fun v_11=>(zt st_3 4 v_11 2).bind fun v_12=>(zf st_3 v_12 4 true).bind fun v_13=>zg (cw 31 [v_13] st_3) (fun v_14 st_4=>(zA v_14).bind fun s_5=>(zQ BinOp.add s_4 s_5).bind fun v_15=>(zA v_15).bind fun s_6=>if ((rkA [st_4,st_3,st_2,st_1] 22 (AV.bp (st.length) 3) v_5 0 1)&&(Ze v_5&&true&&((rkA [st_4,st_3,st_2,st_1] 24 v_6 v_7 0 1)&&((rkA [st_4,st_3,st_2,st_1] 22 (AV.bp (st.length) 3) v_11 0 2)&&(Ze v_11&&true&&((rkA [st_4,st_3,st_2,st_1] 24 v_12 v_13 0 2)&&true))))))=true then ze false (st.length) (zd.ret (AV.str s_6)) st_4 else none) fun v_14 st_4=>if ((rkA [st_3,st_2,st_1] 22 (AV.bp (st.length) 3) v_5 0 1)&&(Ze v_5&&true&&((rkA [st_3,st_2,st_1] 24 v_6 v_7 0 1)&&((rkA [st_3,st_2,st_1] 22 (AV.bp (st.length) 3) v_11 0 2)&&(Ze v_11&&true&&((rkA [st_3,st_2,st_1] 24 v_12 v_13 0 2)&&true))))))=true then none else none) fun v_8 st_3=>if ((rkA [st_2,st_1] 22 (AV.bp (st.length) 3) v_5 0 1)&&(Ze v_5&&true&&((rkA [st_2,st_1] 24 v_6 v_7 0 1)&&true)))=true then none else none) fun v st=>none else bif n==10 then (zf st_1 (AV.bp (st.length) 3) 1 false).bind fun v=>(zt st_1 4 v 0).bind fun v=>(zf st_1 v 4 true).bind fun v=>zg (cw 64 [v,AV.int .i64 12] st_1) (fun v st_2=>(zA v).bind fun s=>(zQ BinOp.add [ofNat 45] s).bind fun v=>(zA v).bind fun s=>ze false (st.length) (zd.ret (AV.str s)) st_2) fun v st_2=>ze false (st.length) (zd.pan v) st_2 else bif n==11 then (zf st_1 (AV.bp (st.length) 3) 1 false).bind fun v=>(zt st_1 4 v 0).bind fun v=>(zf st_1 v 4 true).bind fun v=>zg (cw 64 [v,AV.int .i64 12] st_1) (fun v st_2=>(zA v).bind fun s=>(zQ BinOp.add [ofNat 33] s).bind fun v=>(zA v).bind fun s=>ze false (st.length) (zd.ret (AV.str s)) st_2) fun v st_2=>ze false (st.length) (zd.pan v) st_2 else bif n==7 then (zf st_1 (AV.bp (st.length) 3) 1 false).bind fun v=>(zt st_1 4 v 0).bind fun v_1=>(zf st_1 v_1 4 true).bind fun v_2=>zg (cw 64 [v_2,AV.int .i64 13] st_1) (fun v_3 st_2=>(zA v_3).bind fun s=>(zQ BinOp.add s [ofNat 46]).bind fun v_4=>(zA v_4).bind fun s_1=>(zf st_2 (AV.bp (st.length) 2) 1 false).bind fun v_5=>(zA v_5).bind fun s_2=>(zQ BinOp.add s_1 s_2).bind fun v_6=>(zA v_6).bind fun s_3=>if ((rkA [st_2,st_1] 9 (AV.bp (st.length) 2) (AV.str s_2) 0 1)&&true)=true then ze false (st.length) (zd.ret (AV.str s_3)) st_2 else none) fun v st=>none else bif n==8 then (zf st_1 (AV.bp (st.length) 3) 1 false).bind fun v=>(zt st_1 4 v 0).bind fun v_1=>(zf st_1 v_1 4 true).bind fun v_2=>zg (cw 64 [v_2,AV.int .i64 13] st_1) (fun v_3 st_2=>(zA v_3).bind fun s=>(zQ BinOp.add s [ofNat 91]).bind fun v_4=>(zA v_4).bind fun s_1=>(zf st_2 (AV.bp (st.length) 3) 1 false).bind fun v_5=>(zt st_2 4 v_5 1).bind fun v_6=>(zf st_2 v_6 4 true).bind fun v_7=>zg (cw 31 [v_7] st_2) (fun v_8 st_3=>(zA v_8).bind fun s_2=>(zQ BinOp.add s_1 s_2).bind fun v_9=>(zA v_9).bind fun s_3=>(zQ BinOp.add s_3 [ofNat 93]).bind fun v_10=>(zA v_10).bind fun s_4=>if ((rkA [st_3,st_2,st_1] 22 (AV.bp (st.length) 3) v_5 0 1)&&(Ze v_5&&true&&((rkA [st_3,st_2,st_1] 24 v_6 v_7 0 1)&&true)))=true then ze false (st.length) (zd.ret (AV.str s_4)) st_3 else none) fun v_8 st_3=>if ((rkA [st_2,st_1] 22 (AV.bp (st.length) 3) v_5 0 1)&&(Ze v_5&&true&&((rkA [st_2,st_1] 24 v_6 v_7 0 1)&&true)))=true then none else none) fun v st=>none else bif n==9 then (zf st_1 (AV.bp (st.length) 1) 1 false).bind fun v=>(zm IntKind.i64 v).bind fun n_1=>(zJ (AV.int .i64 (IntKind.i64.wrap (n_1 - 1)))).bind fun j=>(zt st_1 1 (AV.sl 1 [[AV.str [ofNat 108,ofNat 101,ofNat 110]],[AV.str [ofNat 115,ofNat 116,ofNat 114]],[AV.str [ofNat 105,ofNat 56]],[AV.str [ofNat 117,ofNat 56]],[AV.str [ofNat 105,ofNat 49,ofNat 54]],[AV.str [ofNat 117,ofNat 49,ofNat 54]],[AV.str [ofNat 105,ofNat 51,ofNat 50]],[AV.str [ofNat 117,ofNat 51,ofNat 50]]] 0 8 Tok.exact) j).bind fun v=>(zf st_1 v 1 false).bind fun v_1=>(zA v_1).bind fun s=>(zQ BinOp.add s [ofNat 40]).bind fun v_2=>(zA v_2).bind fun s_1=>(zf st_1 (AV.bp (st.length) 3) 1 false).bind fun v_3=>(zt st_1 4 v_3 0).bind fun v_4=>(zf st_1 v_4 4 true).bind fun v_5=>zg (cw 31 [v_5] st_1) (fun v_6 st_2=>(zA v_6).bind fun s_2=>(zQ BinOp.add s_1 s_2).bind fun v_7=>(zA v_7).bind fun s_3=>(zQ BinOp.add s_3 [ofNat 41]).bind fun v_8=>(zA v_8).bind fun s_4=>if ((rkA [st_2,st_1] 3 (AV.bp (st.length) 1) (AV.int .i64 n_1) 0 1)&&((rkA [st_2,st_1] 9 v (AV.str s) 0 1)&&true))=true then ze false (st.length) (zd.ret (AV.str s_4)) st_2 else none) fun v_6 st_2=>if ((rkA [st_1] 3 (AV.bp (st.length) 1) (AV.int .i64 n_1) 0 1)&&((rkA [st_1] 9 v (AV.str s) 0 1)&&true))=true then ze false (st.length) (zd.pan v_6) st_2 else none else bif n==1 then ze false (st.length) (zd.ret (AV.str [ofNat 110,ofNat 117,ofNat 108,ofNat 108])) st_1 else bif n==2 then ze false (st.length) (zd.ret (AV.str [ofNat 102,ofNat 97,ofNat 108,ofNat 115,ofNat 101])) st_1 else bif n==3 then ze false (st.length) (zd.ret (AV.str [ofNat 116,ofNat 114,ofNat 117,ofNat 101])) st_1 else bif n==4 then (zf st_1 (AV.bp (st.length) 1) 1 false).bind fun v=>(zm IntKind.i64 v).bind fun n=>zg (cw 65 [AV.int .i64 n] st_1) (fun v st_2=>(zA v).bind fun s=>ze false (st.length) (zd.ret (AV.str s)) st_2) fun v st_2=>ze false (st.length) (zd.pan v) st_2 else bif n==5 then (zf st_1 (AV.bp (st.length) 2) 1 false).bind fun v=>(zA v).bind fun s=>zg (cw 66 [AV.str s] st_1) (fun v st_2=>(zA v).bind fun s=>ze false (st.length) (zd.ret (AV.str s)) st_2) fun v st_2=>ze false (st.length) (zd.pan v) st_2 else (zf st_1 (AV.bp (st.length) 2) 1 false).bind fun v=>(zA v).bind fun s=>ze false (st.length) (zd.ret (AV.str s)) st_1 else (zf st_1 (AV.bp (st.length) 0) 1 false).bind fun v=>(zm IntKind.i64 v).bind fun n=>bif n==31 then (zf st_1 (AV.bp (st.length) 3) 1 false).bind fun v=>(zt st_1 4 v 0).bind fun v_1=>(zf st_1 v_1 4 true).bind fun v_2=>zg (cw 64 [v_2,AV.int .i64 1] st_1) (fun v_3 st_2=>(zA v_3).bind fun s=>(zQ BinOp.add s [ofNat 32,ofNat 63,ofNat 32]).bind fun v_4=>(zA v_4).bind fun s_1=>(zf st_2 (AV.bp (st.length) 3) 1 false).bind fun v_5=>(zt st_2 4 v_5 1).bind fun v_6=>(zf st_2 v_6 4 true).bind fun v_7=>zg (cw 31 [v_7] st_2) (fun v_8 st_3=>(zA v_8).bind fun s_2=>(zQ BinOp.add s_1 s_2).bind fun v_9=>(zA v_9).bind fun s_3=>(zQ BinOp.add s_3 [ofNat 32,ofNat 58,ofNat 32]).bind fun v_10=>(zA v_10).bind fun s_4=>(zf st_3 (AV.bp (st.length) 3) 1 false).bind fun v_11=>(zt st_3 4 v_11 2).bind fun v_12=>(zf st_3 v_12 4 true).bind fun v_13=>zg (cw 31 [v_13] st_3) (fun v_14 st_4=>(zA v_14).bind fun s_5=>(zQ BinOp.add s_4 s_5).bind fun v_15=>(zA v_15).bind fun s_6=>if ((rkA [st_4,st_3,st_2,st_1] 22 (AV.bp (st.length) 3) v_5 0 1)&&(Ze v_5&&true&&((rkA [st_4,st_3,st_2,st_1] 24 v_6 v_7 0 1)&&((rkA [st_4,st_3,st_2,st_1] 22 (AV.bp (st.length) 3) v_11 0 2)&&(Ze v_11&&true&&((rkA [st_4,st_3,st_2,st_1] 24 v_12 v_13 0 2)&&true))))))=true then ze false (st.length) (zd.ret (AV.str s_6)) st_4 else none) fun v_14 st_4=>if ((rkA [st_3,st_2,st_1] 22 (AV.bp (st.length) 3) v_5 0 1)&&(Ze v_5&&true&&((rkA [st_3,st_2,st_1] 24 v_6 v_7 0 1)&&((rkA [st_3,st_2,st_1] 22 (AV.bp (st.length) 3) v_11 0 2)&&(Ze v_11&&true&&((rkA [st_3,st_2,st_1] 24 v_12 v_13 0 2)&&true))))))=true then none else none) fun v_8 st_3=>if ((rkA [st_2,st_1] 22 (AV.bp (st.length) 3) v_5 0 1)&&(Ze v_5&&true&&((rkA [st_2,st_1] 24 v_6 v_7 0 1)&&true)))=true then none else none) fun v st=>none else bif n==10 then (zf st_1 (AV.bp (st.length) 3) 1 false).bind fun v=>(zt st_1 4 v 0).bind fun v=>(zf st_1 v 4 true).bind fun v=>zg (cw 64 [v,AV.int .i64 12] st_1) (fun v st_2=>(zA v).bind fun s=>(zQ BinOp.add [ofNat 45] s).bind fun v=>(zA v).bind fun s=>ze false (st.length) (zd.ret (AV.str s)) st_2) fun v st_2=>ze false (st.length) (zd.pan v) st_2 else bif n==11 then (zf st_1 (AV.bp (st.length) 3) 1 false).bind fun v=>(zt st_1 4 v 0).bind fun v=>(zf st_1 v 4 true).bind fun v=>zg (cw 64 [v,AV.int .i64 12] st_1) (fun v st_2=>(zA v).bind fun s=>(zQ BinOp.add [ofNat 33] s).bind fun v=>(zA v).bind fun s=>ze false (st.length) (zd.ret (AV.str s)) st_2) fun v st_2=>ze false (st.length) (zd.pan v) st_2 else bif n==7 then (zf st_1 (AV.bp (st.length) 3) 1 false).bind fun v=>(zt st_1 4 v 0).bind fun v_1=>(zf st_1 v_1 4 true).bind fun v_2=>zg (cw 64 [v_2,AV.int .i64 13] st_1) (fun v_3 st_2=>(zA v_3).bind fun s=>(zQ BinOp.add s [ofNat 46]).bind fun v_4=>(zA v_4).bind fun s_1=>(zf st_2 (AV.bp (st.length) 2) 1 false).bind fun v_5=>(zA v_5).bind fun s_2=>(zQ BinOp.add s_1 s_2).bind fun v_6=>(zA v_6).bind fun s_3=>if ((rkA [st_2,st_1] 9 (AV.bp (st.length) 2) (AV.str s_2) 0 1)&&true)=true then ze false (st.length) (zd.ret (AV.str s_3)) st_2 else none) fun v st=>none else bif n==8 then (zf st_1 (AV.bp (st.length) 3) 1 false).bind fun v=>(zt st_1 4 v 0).bind fun v_1=>(zf st_1 v_1 4 true).bind fun v_2=>zg (cw 64 [v_2,AV.int .i64 13] st_1) (fun v_3 st_2=>(zA v_3).bind fun s=>(zQ BinOp.add s [ofNat 91]).bind fun v_4=>(zA v_4).bind fun s_1=>(zf st_2 (AV.bp (st.length) 3) 1 false).bind fun v_5=>(zt st_2 4 v_5 1).bind fun v_6=>(zf st_2 v_6 4 true).bind fun v_7=>zg (cw 31 [v_7] st_2) (fun v_8 st_3=>(zA v_8).bind fun s_2=>(zQ BinOp.add s_1 s_2).bind fun v_9=>(zA v_9).bind fun s_3=>(zQ BinOp.add s_3 [ofNat 93]).bind fun v_10=>(zA v_10).bind fun s_4=>if ((rkA [st_3,st_2,st_1] 22 (AV.bp (st.length) 3) v_5 0 1)&&(Ze v_5&&true&&((rkA [st_3,st_2,st_1] 24 v_6 v_7 0 1)&&true)))=true then ze false (st.length) (zd.ret (AV.str s_4)) st_3 else none) fun v_8 st_3=>if ((rkA [st_2,st_1] 22 (AV.bp (st.length) 3) v_5 0 1)&&(Ze v_5&&true&&((rkA [st_2,st_1] 24 v_6 v_7 0 1)&&true)))=true then none else none) fun v st=>none else bif n==9 then (zf st_1 (AV.bp (st.length) 1) 1 false).bind fun v=>(zm IntKind.i64 v).bind fun n_1=>(zJ (AV.int .i64 (IntKind.i64.wrap (n_1 - 1)))).bind fun j=>(zt st_1 1 (AV.sl 1 [[AV.str [ofNat 108,ofNat 101,ofNat 110]],[AV.str [ofNat 115,ofNat 116,ofNat 114]],[AV.str [ofNat 105,ofNat 56]],[AV.str [ofNat 117,ofNat 56]],[AV.str [ofNat 105,ofNat 49,ofNat 54]],[AV.str [ofNat 117,ofNat 49,ofNat 54]],[AV.str [ofNat 105,ofNat 51,ofNat 50]],[AV.str [ofNat 117,ofNat 51,ofNat 50]]] 0 8 Tok.exact) j).bind fun v=>(zf st_1 v 1 false).bind fun v_1=>(zA v_1).bind fun s=>(zQ BinOp.add s [ofNat 40]).bind fun v_2=>(zA v_2).bind fun s_1=>(zf st_1 (AV.bp (st.length) 3) 1 false).bind fun v_3=>(zt st_1 4 v_3 0).bind fun v_4=>(zf st_1 v_4 4 true).bind fun v_5=>zg (cw 31 [v_5] st_1) (fun v_6 st_2=>(zA v_6).bind fun s_2=>(zQ BinOp.add s_1 s_2).bind fun v_7=>(zA v_7).bind fun s_3=>(zQ BinOp.add s_3 [ofNat 41]).bind fun v_8=>(zA v_8).bind fun s_4=>if ((rkA [st_2,st_1] 3 (AV.bp (st.length) 1) (AV.int .i64 n_1) 0 1)&&((rkA [st_2,st_1] 9 v (AV.str s) 0 1)&&true))=true then ze false (st.length) (zd.ret (AV.str s_4)) st_2 else none) fun v_6 st_2=>if ((rkA [st_1] 3 (AV.bp (st.length) 1) (AV.int .i64 n_1) 0 1)&&((rkA [st_1] 9 v (AV.str s) 0 1)&&true))=true then ze false (st.length) (zd.pan v_6) st_2 else none else bif n==1 then ze false (st.length) (zd.ret (AV.str [ofNat 110,ofNat 117,ofNat 108,ofNat 108])) st_1 else bif n==2 then ze false (st.length) (zd.ret (AV.str [ofNat 102,ofNat 97,ofNat 108,ofNat 115,ofNat 101])) st_1 else bif n==3 then ze false (st.length) (zd.ret (AV.str [ofNat 116,ofNat 114,ofNat 117,ofNat 101])) st_1 else bif n==4 then (zf st_1 (AV.bp (st.length) 1) 1 false).bind fun v=>(zm IntKind.i64 v).bind fun n=>zg (cw 65 [AV.int .i64 n] st_1) (fun v st_2=>(zA v).bind fun s=>ze false (st.length) (zd.ret (AV.str s)) st_2) fun v st_2=>ze false (st.length) (zd.pan v) st_2 else bif n==5 then (zf st_1 (AV.bp (st.length) 2) 1 false).bind fun v=>(zA v).bind fun s=>zg (cw 66 [AV.str s] st_1) (fun v st_2=>(zA v).bind fun s=>ze false (st.length) (zd.ret (AV.str s)) st_2) fun v st_2=>ze false (st.length) (zd.pan v) st_2 else (zf st_1 (AV.bp (st.length) 2) 1 false).bind fun v=>(zA v).bind fun s=>ze false (st.length) (zd.ret (AV.str s)) st_1) fun v st_1=>ze false (st.length) (zd.pan v) st_1)=some r):cw 31 [AV.agg [AV.int .i64 e0_Op,AV.int .i64 e0_Int,AV.str e0_Str,e0_Kids]] st=some r:=zw (Eq.trans (by kernel_rfl) h)
theorem za1 (e1:AV) (l3:Int) (mark4:List UInt8) (i5:Int) (base:Nat) (st:St) {r:zd×St} (h:(zg (cw 62 [] st) (fun v st=>(zJ (AV.int .i64 (IntKind.i64.wrap (l3 - 1)))).bind fun j=>(zt st 1 v j).bind fun v=>(zf st v 1 false).bind fun v=>(zL v).bind fun v=>(zm IntKind.i64 v).bind fun n=>bif decide (i5<n) then zg (cw 62 [] st) (fun v st_1=>(zJ (AV.int .i64 (IntKind.i64.wrap (l3 - 1)))).bind fun j=>(zt st_1 1 v j).bind fun v_1=>(zf st_1 v_1 1 false).bind fun v_2=>(zJ (AV.int .i64 i5)).bind fun j=>(zt st_1 1 v_2 j).bind fun v_3=>(zf st_1 v_3 1 false).bind fun v_4=>(zm IntKind.i64 v_4).bind fun n=>(zc 0 e1).bind fun v_5=>(zf st_1 v_5 1 false).bind fun v_6=>(zm IntKind.i64 v_6).bind fun n_1=>if ((rkA [st_1,st] 3 v_5 (AV.int .i64 n_1) 0 1)&&true)=true then bif n==n_1 then zg (cw 63 [] st_1) (fun v st=>(zJ (AV.int .i64 (IntKind.i64.wrap (l3 - 1)))).bind fun j=>(zt st 1 v j).bind fun v=>(zf st v 1 false).bind fun v=>(zJ (AV.int .i64 i5)).bind fun j=>(zt st 1 v j).bind fun v=>(zf st v 1 false).bind fun v=>(zA v).bind fun s=>aw 31 base GZ {env:=[(1,e1),(3,AV.int .i64 l3),(4,AV.str s),(5,AV.int .i64 (IntKind.i64.wrap (i5+1)))],defers:=[]} st) fun v st=>ze false base (zd.pan v) st else aw 31 base GZ {env:=[(1,e1),(3,AV.int .i64 l3),(4,AV.str mark4),(5,AV.int .i64 (IntKind.i64.wrap (i5+1)))],defers:=[]} st_1 else none) fun v st=>none else (zc 3 e1).bind fun v=>(zf st v 1 false).bind fun v_1=>(zt st 4 v_1 0).bind fun v_2=>(zf st v_2 4 true).bind fun v_3=>zg (cw 64 [v_3,AV.int .i64 l3] st) (fun v_4 st_1=>(zA v_4).bind fun s=>(zQ BinOp.add s [ofNat 32]).bind fun v_5=>(zA v_5).bind fun s_1=>(zQ BinOp.add s_1 mark4).bind fun v_6=>(zA v_6).bind fun s_2=>(zQ BinOp.add s_2 [ofNat 32]).bind fun v_7=>(zA v_7).bind fun s_3=>(zc 3 e1).bind fun v_8=>(zf st_1 v_8 1 false).bind fun v_9=>(zt st_1 4 v_9 1).bind fun v_10=>(zf st_1 v_10 4 true).bind fun v_11=>zg (cw 64 [v_11,AV.int .i64 (IntKind.i64.wrap (l3+1))] st_1) (fun v_12 st_2=>(zA v_12).bind fun s_4=>(zQ BinOp.add s_3 s_4).bind fun v_13=>(zA v_13).bind fun s_5=>if ((rkA [st_2,st_1,st] 22 v_8 v_9 0 1)&&(Ze v_9&&true&&((rkA [st_2,st_1,st] 24 v_10 v_11 0 1)&&true)))=true then ze false base (zd.ret (AV.str s_5)) st_2 else none) fun v_12 st_2=>if ((rkA [st_1,st] 22 v_8 v_9 0 1)&&(Ze v_9&&true&&((rkA [st_1,st] 24 v_10 v_11 0 1)&&true)))=true then none else none) fun v st=>none) fun v st=>ze false base (zd.pan v) st)=some r):aw 31 base GZ {env:=[(1,e1),(3,AV.int .i64 l3),(4,AV.str mark4),(5,AV.int .i64 i5)],defers:=[]} st=some r:=ql (Eq.trans (by kernel_rfl) h)
abbrev DM:List Dir:=[.sr,.sr,.sr,.sr,.sl,.sr,.bk]
theorem F60 (e0_Op:Int) (e0_Int:Int) (e0_Str:List UInt8) (e0_Kids:AV) (k1:Int) (st:St) {r:zd×St} (h:((zq 4 (AV.agg [AV.int .i64 e0_Op,AV.int .i64 e0_Int,AV.str e0_Str,e0_Kids])).bind fun cs=>bif decide (k1≥512) then ze false (st.length) (zd.ret (AV.tup [AV.int .i64 k1,AV.bool false])) (zh.free 0::zh.box 24 cs::st) else (zf (zh.free 0::zh.box 24 cs::st) (AV.bp (st.length) 0) 4 true).bind fun v=>zg (cw 89 [v] (zh.free 0::zh.box 24 cs::st)) (fun v st_1=>(zB v).bind fun b=>bif !b then ze false (st.length) (zd.ret (AV.tup [AV.int .i64 k1,AV.bool false])) st_1 else aw 60 (st.length) DM {env:=[(1,AV.int .i64 (IntKind.i64.wrap (k1+1))),(2,AV.bp (st.length) 0),(6,AV.bool true),(7,AV.int .i64 0)],defers:=[]} st_1) fun v st_1=>ze false (st.length) (zd.pan v) st_1)=some r):cw 60 [AV.agg [AV.int .i64 e0_Op,AV.int .i64 e0_Int,AV.str e0_Str,e0_Kids],AV.int .i64 k1] st=some r:=zw (Eq.trans (by kernel_rfl) h)
theorem za6 (k1:Int) (e2:AV) (ok6:Bool) (i7:Int) (base:Nat) (st:St) {r:zd×St} (h:((zc 3 e2).bind fun v=>(zf st v 1 false).bind fun v=>(zL v).bind fun v=>(zm IntKind.i64 v).bind fun n=>bif decide (i7<n) then bif ok6 then (zc 3 e2).bind fun v=>(zf st v 1 false).bind fun v=>(zJ (AV.int .i64 i7)).bind fun j=>(zt st 4 v j).bind fun v=>(zf st v 4 true).bind fun v=>zg (cw 60 [v,AV.int .i64 k1] st) (fun v st=>(zK 0 v).bind fun v_1=>(zm IntKind.i64 v_1).bind fun n=>(zK 1 v).bind fun v=>(zB v).bind fun b=>aw 60 base DM {env:=[(1,AV.int .i64 n),(2,e2),(6,AV.bool b),(7,AV.int .i64 (IntKind.i64.wrap (i7+1)))],defers:=[]} st) fun v st=>ze false base (zd.pan v) st else ze false base (zd.ret (AV.tup [AV.int .i64 k1,AV.bool ok6])) st else ze false base (zd.ret (AV.tup [AV.int .i64 k1,AV.bool ok6])) st)=some r):aw 60 base DM {env:=[(1,AV.int .i64 k1),(2,e2),(6,AV.bool ok6),(7,AV.int .i64 i7)],defers:=[]} st=some r:=ql (Eq.trans (by kernel_rfl) h)
abbrev Mz:List Dir:=[.sr,.sr,.sl,.sr,.bk]
abbrev DO:List Dir:=[.sr,.sr,.sl,.sr,.bk,.lp 0,.sr,.sl,.bk,.sr,.bk]
theorem F61 (op0:Int) (st:St) {r:zd×St} (h:(zg (cw 62 [] st) (fun v st_1=>aw 61 (st.length) Mz {env:=[(0,AV.int .i64 op0),(3,v),(4,AV.int .i64 0)],defers:=[]} st_1) fun v st_1=>ze false (st.length) (zd.pan v) st_1)=some r):cw 61 [AV.int .i64 op0] st=some r:=zw (Eq.trans (by kernel_rfl) h)
theorem IR (op0:Int) (all3:AV) (i4:Int) (base:Nat) (st:St) {r:zd×St} (h:((zL all3).bind fun v=>(zm IntKind.i64 v).bind fun n=>bif decide (i4<n) then aw 61 base DO {env:=[(0,AV.int .i64 op0),(3,all3),(4,AV.int .i64 i4),(5,AV.int .i64 0)],defers:=[]} st else bif op0==31 then ze false base (zd.ret (AV.int .i64 0)) st else bif op0==10 then ze false base (zd.ret (AV.int .i64 12)) st else bif op0==11 then ze false base (zd.ret (AV.int .i64 12)) st else bif op0==7 then ze false base (zd.ret (AV.int .i64 13)) st else bif op0==8 then ze false base (zd.ret (AV.int .i64 13)) st else bif decide (op0≥1) then bif decide (op0≤6) then ze false base (zd.ret (AV.int .i64 14)) st else bif op0==9 then ze false base (zd.ret (AV.int .i64 14)) st else ze false base (zd.ret (AV.int .i64 (-1))) st else bif op0==9 then ze false base (zd.ret (AV.int .i64 14)) st else ze false base (zd.ret (AV.int .i64 (-1))) st)=some r):aw 61 base Mz {env:=[(0,AV.int .i64 op0),(3,all3),(4,AV.int .i64 i4)],defers:=[]} st=some r:=ql (Eq.trans (by kernel_rfl) h)
theorem IU (op0:Int) (all3:AV) (i4:Int) (k5:Int) (base:Nat) (st:St) {r:zd×St} (h:((zJ (AV.int .i64 i4)).bind fun j=>(zt st 1 all3 j).bind fun v=>(zf st v 1 false).bind fun v=>(zL v).bind fun v=>(zm IntKind.i64 v).bind fun n=>bif decide (k5<n) then (zJ (AV.int .i64 i4)).bind fun j=>(zt st 1 all3 j).bind fun v=>(zf st v 1 false).bind fun v=>(zJ (AV.int .i64 k5)).bind fun j=>(zt st 1 v j).bind fun v=>(zf st v 1 false).bind fun v=>(zm IntKind.i64 v).bind fun n=>bif n==op0 then ze false base (zd.ret (AV.int .i64 (IntKind.i64.wrap (i4+1)))) st else aw 61 base DO {env:=[(0,AV.int .i64 op0),(3,all3),(4,AV.int .i64 i4),(5,AV.int .i64 (IntKind.i64.wrap (k5+1)))],defers:=[]} st else aw 61 base Mz {env:=[(0,AV.int .i64 op0),(3,all3),(4,AV.int .i64 (IntKind.i64.wrap (i4+1)))],defers:=[]} st)=some r):aw 61 base DO {env:=[(0,AV.int .i64 op0),(3,all3),(4,AV.int .i64 i4),(5,AV.int .i64 k5)],defers:=[]} st=some r:=ql (Eq.trans (by kernel_rfl) h)
theorem F62 (st:St) {r:zd×St} (h:(ze false (st.length) (zd.ret (AV.sl 1 [[AV.sl 1 [[AV.int .i64 30]] 0 1 Tok.no],[AV.sl 1 [[AV.int .i64 29]] 0 1 Tok.no],[AV.sl 1 [[AV.int .i64 27],[AV.int .i64 28]] 0 2 Tok.no],[AV.sl 1 [[AV.int .i64 23],[AV.int .i64 24],[AV.int .i64 25],[AV.int .i64 26]] 0 4 Tok.no],[AV.sl 1 [[AV.int .i64 22]] 0 1 Tok.no],[AV.sl 1 [[AV.int .i64 21]] 0 1 Tok.no],[AV.sl 1 [[AV.int .i64 20]] 0 1 Tok.no],[AV.sl 1 [[AV.int .i64 18],[AV.int .i64 19]] 0 2 Tok.no],[AV.sl 1 [[AV.int .i64 17]] 0 1 Tok.no],[AV.sl 1 [[AV.int .i64 15],[AV.int .i64 16]] 0 2 Tok.no],[AV.sl 1 [[AV.int .i64 12],[AV.int .i64 13],[AV.int .i64 14]] 0 3 Tok.no]] 0 11 Tok.exact)) st)=some r):cw 62 [] st=some r:=zw (Eq.trans (by kernel_rfl) h)
theorem F64 (e0_Op:Int) (e0_Int:Int) (e0_Str:List UInt8) (e0_Kids:AV) (least1:Int) (st:St) {r:zd×St} (h:((zq 4 (AV.agg [AV.int .i64 e0_Op,AV.int .i64 e0_Int,AV.str e0_Str,e0_Kids])).bind fun cs=>(zf (zh.free 0::zh.box 24 cs::st) (AV.bp (st.length) 0) 1 false).bind fun v=>(zm IntKind.i64 v).bind fun n=>zg (cw 61 [AV.int .i64 n] (zh.free 0::zh.box 24 cs::st)) (fun v st_1=>(zm IntKind.i64 v).bind fun n=>bif decide (n<least1) then (zf st_1 (AV.bp (st.length) 0) 4 true).bind fun v=>zg (cw 31 [v] st_1) (fun v st_2=>(zA v).bind fun s=>(zQ BinOp.add [ofNat 40] s).bind fun v=>(zA v).bind fun s=>(zQ BinOp.add s [ofNat 41]).bind fun v=>(zA v).bind fun s=>ze false (st.length) (zd.ret (AV.str s)) st_2) fun v st_2=>ze false (st.length) (zd.pan v) st_2 else (zf st_1 (AV.bp (st.length) 0) 4 true).bind fun v=>zg (cw 31 [v] st_1) (fun v st_2=>(zA v).bind fun s=>ze false (st.length) (zd.ret (AV.str s)) st_2) fun v st_2=>ze false (st.length) (zd.pan v) st_2) fun v st_1=>ze false (st.length) (zd.pan v) st_1)=some r):cw 64 [AV.agg [AV.int .i64 e0_Op,AV.int .i64 e0_Int,AV.str e0_Str,e0_Kids],AV.int .i64 least1] st=some r:=zw (Eq.trans (by kernel_rfl) h)
abbrev GW:List Dir:=[.sr,.sr,.sr,.sl,.bk]
theorem F65 (a0:Int) (st:St) {r:zd×St} (h:(zg (cw 90 [AV.int .i64 a0] (zh.free 0::st)) (fun v st_1=>(zm IntKind.u64 v).bind fun n=>aw 65 (st.length) GW {env:=[(0,AV.int .i64 a0),(3,AV.int .u64 n),(4,AV.nils)],defers:=[]} st_1) fun v st_1=>ze false (st.length) (zd.pan v) st_1)=some r):cw 65 [AV.int .i64 a0] st=some r:=zw (Eq.trans (by kernel_rfl) h)
theorem BO (a0:Int) (x3:Int) (out4:AV) (base:Nat) (st:St) {r:zd×St} (h:(bif decide (x3>0) then zX (zR st (some (base+0,false)) 1 0 (AV.sl 0 [[AV.int .u8 (IntKind.u8.wrap (IntKind.u64.wrap (48+x3.tmod 10)))]] 0 1 Tok.exact) out4) fun v st=>aw 65 base GW {env:=[(0,AV.int .i64 a0),(3,AV.int .u64 (IntKind.u64.wrap (x3.tdiv 10))),(4,v)],defers:=[]} st
else (zL out4).bind fun v=>(zm IntKind.i64 v).bind fun n=>bif n==0 then zX (zR st (some (base+0,false)) 1 0 (AV.sl 0 [[AV.int .u8 (IntKind.u8.wrap (IntKind.u64.wrap (48+x3.tmod 10)))]] 0 1 Tok.exact) out4) fun v st=>aw 65 base GW {env:=[(0,AV.int .i64 a0),(3,AV.int .u64 (IntKind.u64.wrap (x3.tdiv 10))),(4,v)],defers:=[]} st else bif decide (a0<0) then zX (zR st (some (base+0,false)) 1 0 (AV.sl 0 [[AV.int .u8 45]] 0 1 Tok.exact) out4) fun v st=>(Jg st v).bind fun v=>(zA v).bind fun s=>ze false base (zd.ret (AV.str s)) st else (Jg st out4).bind fun v=>(zA v).bind fun s=>ze false base (zd.ret (AV.str s)) st)=some r):aw 65 base GW {env:=[(0,AV.int .i64 a0),(3,AV.int .u64 x3),(4,out4)],defers:=[]} st=some r:=ql (Eq.trans (by kernel_rfl) h)
abbrev Xy:List Dir:=[.sr,.sr,.sl,.sr,.bk]
theorem F66 (s0:List UInt8) (st:St) {r:zd×St} (h:(aw 66 (st.length) Xy {env:=[(0,AV.str s0),(3,AV.sl 0 [[AV.int .u8 39]] 0 1 Tok.exact),(4,AV.int .i64 0)],defers:=[]} (zh.free 0::st))=some r):cw 66 [AV.str s0] st=some r:=zw (Eq.trans (by kernel_rfl) h)
theorem za4 (s0:List UInt8) (out3:AV) (i4:Int) (base:Nat) (st:St) {r:zd×St} (h:(bif decide (i4<(s0.length:Int)) then (zJ (AV.int .i64 i4)).bind fun j=>(Option.map (fun b=>AV.int .u8 (b.toNat:Int)) s0[j]?).bind fun v=>(zm IntKind.u8 v).bind fun n=>bif n==39 then (zJ (AV.int .i64 i4)).bind fun j=>(Option.map (fun b=>AV.int .u8 (b.toNat:Int)) s0[j]?).bind fun v=>(zm IntKind.u8 v).bind fun n=>zX (zR st (some (base+0,false)) 1 0 out3 (AV.sl 0 [[AV.int .u8 92],[AV.int .u8 n]] 0 2 Tok.exact)) fun v st=>aw 66 base Xy {env:=[(0,AV.str s0),(3,v),(4,AV.int .i64 (IntKind.i64.wrap (i4+1)))],defers:=[]} st else (zJ (AV.int .i64 i4)).bind fun j=>(Option.map (fun b=>AV.int .u8 (b.toNat:Int)) s0[j]?).bind fun v=>(zm IntKind.u8 v).bind fun n=>bif n==92 then (zJ (AV.int .i64 i4)).bind fun j=>(Option.map (fun b=>AV.int .u8 (b.toNat:Int)) s0[j]?).bind fun v=>(zm IntKind.u8 v).bind fun n=>zX (zR st (some (base+0,false)) 1 0 out3 (AV.sl 0 [[AV.int .u8 92],[AV.int .u8 n]] 0 2 Tok.exact)) fun v st=>aw 66 base Xy {env:=[(0,AV.str s0),(3,v),(4,AV.int .i64 (IntKind.i64.wrap (i4+1)))],defers:=[]} st else (zJ (AV.int .i64 i4)).bind fun j=>(Option.map (fun b=>AV.int .u8 (b.toNat:Int)) s0[j]?).bind fun v=>(zm IntKind.u8 v).bind fun n=>bif n==125 then (zJ (AV.int .i64 i4)).bind fun j=>(Option.map (fun b=>AV.int .u8 (b.toNat:Int)) s0[j]?).bind fun v=>(zm IntKind.u8 v).bind fun n=>zX (zR st (some (base+0,false)) 1 0 out3 (AV.sl 0 [[AV.int .u8 92],[AV.int .u8 n]] 0 2 Tok.exact)) fun v st=>aw 66 base Xy {env:=[(0,AV.str s0),(3,v),(4,AV.int .i64 (IntKind.i64.wrap (i4+1)))],defers:=[]} st else (zJ (AV.int .i64 i4)).bind fun j=>(Option.map (fun b=>AV.int .u8 (b.toNat:Int)) s0[j]?).bind fun v=>(zm IntKind.u8 v).bind fun n=>bif n==10 then zX (zR st (some (base+0,false)) 1 0 out3 (AV.sl 0 [[AV.int .u8 92],[AV.int .u8 110]] 0 2 Tok.exact)) fun v st=>aw 66 base Xy {env:=[(0,AV.str s0),(3,v),(4,AV.int .i64 (IntKind.i64.wrap (i4+1)))],defers:=[]} st else (zJ (AV.int .i64 i4)).bind fun j=>(Option.map (fun b=>AV.int .u8 (b.toNat:Int)) s0[j]?).bind fun v=>(zm IntKind.u8 v).bind fun n=>zX (zR st (some (base+0,false)) 1 0 out3 (AV.sl 0 [[AV.int .u8 n]] 0 1 Tok.exact)) fun v st=>aw 66 base Xy {env:=[(0,AV.str s0),(3,v),(4,AV.int .i64 (IntKind.i64.wrap (i4+1)))],defers:=[]} st
else zX (zR st (some (base+0,false)) 1 0 out3 (AV.sl 0 [[AV.int .u8 39]] 0 1 Tok.exact)) fun v st=>(Jg st v).bind fun v=>(zA v).bind fun s=>ze false base (zd.ret (AV.str s)) st)=some r):aw 66 base Xy {env:=[(0,AV.str s0),(3,out3),(4,AV.int .i64 i4)],defers:=[]} st=some r:=ql (Eq.trans (by kernel_rfl) h)
theorem F89 (e0_Op:Int) (e0_Int:Int) (e0_Str:List UInt8) (e0_Kids:AV) (st:St) {r:zd×St} (h:((zq 4 (AV.agg [AV.int .i64 e0_Op,AV.int .i64 e0_Int,AV.str e0_Str,e0_Kids])).bind fun cs=>(zf (zh.free 0::zh.box 24 cs::st) (AV.bp (st.length) 0) 1 false).bind fun v=>(zm IntKind.i64 v).bind fun n=>zg (cw 61 [AV.int .i64 n] (zh.free 0::zh.box 24 cs::st)) (fun v st_1=>(zm IntKind.i64 v).bind fun n_1=>bif decide (n_1<0) then ze false (st.length) (zd.ret (AV.bool false)) st_1 else (zf st_1 (AV.bp (st.length) 3) 1 false).bind fun v=>(zL v).bind fun v_1=>(zm IntKind.i64 v_1).bind fun n_2=>(zf st_1 (AV.bp (st.length) 0) 1 false).bind fun v_2=>(zm IntKind.i64 v_2).bind fun n_3=>zg (cw 105 [AV.int .i64 n_3] st_1) (fun v_3 st_2=>(zm IntKind.i64 v_3).bind fun n_4=>if ((rkA [st_2,st_1,zh.free 0::zh.box 24 cs::st] 22 (AV.bp (st.length) 3) v 1 2)&&(GV v&&true&&true))=true then bif n_2 != n_4 then ze false (st.length) (zd.ret (AV.bool false)) st_2 else (zf st_2 (AV.bp (st.length) 0) 1 false).bind fun v=>(zm IntKind.i64 v).bind fun n=>bif n==4 then (zf st_2 (AV.bp (st.length) 1) 1 false).bind fun v=>(zm IntKind.i64 v).bind fun n=>bif decide (n≥0) then (zf st_2 (AV.bp (st.length) 2) 1 false).bind fun v=>(zA v).bind fun s=>(zQ BinOp.eql s []).bind fun v=>(zB v).bind fun b=>ze false (st.length) (zd.ret (AV.bool b)) st_2 else ze false (st.length) (zd.ret (AV.bool false)) st_2 else bif n==5 then (zf st_2 (AV.bp (st.length) 1) 1 false).bind fun v=>(zm IntKind.i64 v).bind fun n=>bif n==0 then (zf st_2 (AV.bp (st.length) 2) 1 false).bind fun v=>(zA v).bind fun s=>zg (cw 106 [AV.str s] st_2) (fun v st_3=>(zB v).bind fun b=>bif b then (zf st_3 (AV.bp (st.length) 2) 1 false).bind fun v=>(zA v).bind fun s=>zg (cw 107 [AV.str s] st_3) (fun v st_4=>(zB v).bind fun b=>ze false (st.length) (zd.ret (AV.bool b)) st_4) fun v st_4=>ze false (st.length) (zd.pan v) st_4 else ze false (st.length) (zd.ret (AV.bool false)) st_3) fun v st_3=>ze false (st.length) (zd.pan v) st_3 else ze false (st.length) (zd.ret (AV.bool false)) st_2 else bif n==6 then (zf st_2 (AV.bp (st.length) 1) 1 false).bind fun v=>(zm IntKind.i64 v).bind fun n=>bif n==0 then (zf st_2 (AV.bp (st.length) 2) 1 false).bind fun v=>(zA v).bind fun s=>zg (cw 108 [AV.str s] st_2) (fun v st_3=>(zB v).bind fun b=>ze false (st.length) (zd.ret (AV.bool b)) st_3) fun v st_3=>ze false (st.length) (zd.pan v) st_3 else ze false (st.length) (zd.ret (AV.bool false)) st_2 else bif n==7 then (zf st_2 (AV.bp (st.length) 1) 1 false).bind fun v=>(zm IntKind.i64 v).bind fun n=>bif n==0 then (zf st_2 (AV.bp (st.length) 2) 1 false).bind fun v=>(zA v).bind fun s=>zg (cw 109 [AV.str s] st_2) (fun v st_3=>(zB v).bind fun b=>ze false (st.length) (zd.ret (AV.bool b)) st_3) fun v st_3=>ze false (st.length) (zd.pan v) st_3 else ze false (st.length) (zd.ret (AV.bool false)) st_2 else bif n==9 then (zf st_2 (AV.bp (st.length) 1) 1 false).bind fun v=>(zm IntKind.i64 v).bind fun n=>bif decide (n≥1) then (zf st_2 (AV.bp (st.length) 1) 1 false).bind fun v=>(zm IntKind.i64 v).bind fun n=>bif decide (n≤8) then (zf st_2 (AV.bp (st.length) 2) 1 false).bind fun v=>(zA v).bind fun s=>(zQ BinOp.eql s []).bind fun v=>(zB v).bind fun b=>ze false (st.length) (zd.ret (AV.bool b)) st_2 else ze false (st.length) (zd.ret (AV.bool false)) st_2 else ze false (st.length) (zd.ret (AV.bool false)) st_2 else (zf st_2 (AV.bp (st.length) 1) 1 false).bind fun v=>(zm IntKind.i64 v).bind fun n=>bif n==0 then (zf st_2 (AV.bp (st.length) 2) 1 false).bind fun v=>(zA v).bind fun s=>(zQ BinOp.eql s []).bind fun v=>(zB v).bind fun b=>ze false (st.length) (zd.ret (AV.bool b)) st_2 else ze false (st.length) (zd.ret (AV.bool false)) st_2 else none) fun v_3 st_2=>if ((rkA [st_1,zh.free 0::zh.box 24 cs::st] 22 (AV.bp (st.length) 3) v 1 2)&&(GV v&&true&&true))=true then ze false (st.length) (zd.pan v_3) st_2 else none) fun v st_1=>ze false (st.length) (zd.pan v) st_1)=some r):cw 89 [AV.agg [AV.int .i64 e0_Op,AV.int .i64 e0_Int,AV.str e0_Str,e0_Kids]] st=some r:=zw (Eq.trans (by kernel_rfl) h)
theorem F90 (a0:Int) (st:St) {r:zd×St} (h:(bif decide (a0<0) then ze false (st.length) (zd.ret (AV.int .u64 (IntKind.u64.wrap (IntKind.u64.wrap (IntKind.i64.wrap (0 - IntKind.i64.wrap (a0+1)))+1)))) st
else ze false (st.length) (zd.ret (AV.int .u64 (IntKind.u64.wrap a0))) st)=some r):cw 90 [AV.int .i64 a0] st=some r:=zw (Eq.trans (by kernel_rfl) h)
theorem F98 (s0:List UInt8) (i1:Int) (st:St) {r:zd×St} (h:((zJ (AV.int .i64 i1)).bind fun j=>(Option.map (fun b=>AV.int .u8 (b.toNat:Int)) s0[j]?).bind fun v=>(zm IntKind.u8 v).bind fun n=>bif decide (n<128) then ze false (st.length) (zd.ret (AV.int .i64 1)) st else bif decide (n≥194) then bif decide (n<224) then zg (cw 114 [AV.str s0,AV.int .i64 (IntKind.i64.wrap (i1+1))] st) (fun v st_1=>(zB v).bind fun b=>bif b then ze false (st.length) (zd.ret (AV.int .i64 2)) st_1 else bif decide (n≥224) then bif decide (n<240) then zg (cw 114 [AV.str s0,AV.int .i64 (IntKind.i64.wrap (i1+1))] st_1) (fun v st_2=>(zB v).bind fun b=>bif b then zg (cw 114 [AV.str s0,AV.int .i64 (IntKind.i64.wrap (i1+2))] st_2) (fun v st_3=>(zB v).bind fun b=>bif b then bif n==224 then (zJ (AV.int .i64 (IntKind.i64.wrap (i1+1)))).bind fun j=>(Option.map (fun b=>AV.int .u8 (b.toNat:Int)) s0[j]?).bind fun v=>(zm IntKind.u8 v).bind fun n_1=>bif decide (n_1<160) then ze false (st.length) (zd.ret (AV.int .i64 0)) st_3 else bif n==237 then (zJ (AV.int .i64 (IntKind.i64.wrap (i1+1)))).bind fun j=>(Option.map (fun b=>AV.int .u8 (b.toNat:Int)) s0[j]?).bind fun v=>(zm IntKind.u8 v).bind fun n=>bif decide (n≥160) then ze false (st.length) (zd.ret (AV.int .i64 0)) st_3 else ze false (st.length) (zd.ret (AV.int .i64 3)) st_3 else ze false (st.length) (zd.ret (AV.int .i64 3)) st_3 else bif n==237 then (zJ (AV.int .i64 (IntKind.i64.wrap (i1+1)))).bind fun j=>(Option.map (fun b=>AV.int .u8 (b.toNat:Int)) s0[j]?).bind fun v=>(zm IntKind.u8 v).bind fun n=>bif decide (n≥160) then ze false (st.length) (zd.ret (AV.int .i64 0)) st_3 else ze false (st.length) (zd.ret (AV.int .i64 3)) st_3 else ze false (st.length) (zd.ret (AV.int .i64 3)) st_3 else bif decide (n≥240) then bif decide (n<245) then zg (cw 114 [AV.str s0,AV.int .i64 (IntKind.i64.wrap (i1+1))] st_3) (fun v st_4=>(zB v).bind fun b=>bif b then zg (cw 114 [AV.str s0,AV.int .i64 (IntKind.i64.wrap (i1+2))] st_4) (fun v st_5=>(zB v).bind fun b=>bif b then zg (cw 114 [AV.str s0,AV.int .i64 (IntKind.i64.wrap (i1+3))] st_5) (fun v st_6=>(zB v).bind fun b=>bif b then bif n==240 then (zJ (AV.int .i64 (IntKind.i64.wrap (i1+1)))).bind fun j=>(Option.map (fun b=>AV.int .u8 (b.toNat:Int)) s0[j]?).bind fun v=>(zm IntKind.u8 v).bind fun n_1=>bif decide (n_1<144) then ze false (st.length) (zd.ret (AV.int .i64 0)) st_6 else bif n==244 then (zJ (AV.int .i64 (IntKind.i64.wrap (i1+1)))).bind fun j=>(Option.map (fun b=>AV.int .u8 (b.toNat:Int)) s0[j]?).bind fun v=>(zm IntKind.u8 v).bind fun n=>bif decide (n≥144) then ze false (st.length) (zd.ret (AV.int .i64 0)) st_6 else ze false (st.length) (zd.ret (AV.int .i64 4)) st_6 else ze false (st.length) (zd.ret (AV.int .i64 4)) st_6 else bif n==244 then (zJ (AV.int .i64 (IntKind.i64.wrap (i1+1)))).bind fun j=>(Option.map (fun b=>AV.int .u8 (b.toNat:Int)) s0[j]?).bind fun v=>(zm IntKind.u8 v).bind fun n=>bif decide (n≥144) then ze false (st.length) (zd.ret (AV.int .i64 0)) st_6 else ze false (st.length) (zd.ret (AV.int .i64 4)) st_6 else ze false (st.length) (zd.ret (AV.int .i64 4)) st_6 else ze false (st.length) (zd.ret (AV.int .i64 0)) st_6) fun v st_6=>ze false (st.length) (zd.pan v) st_6 else ze false (st.length) (zd.ret (AV.int .i64 0)) st_5) fun v st_5=>ze false (st.length) (zd.pan v) st_5 else ze false (st.length) (zd.ret (AV.int .i64 0)) st_4) fun v st_4=>ze false (st.length) (zd.pan v) st_4 else ze false (st.length) (zd.ret (AV.int .i64 0)) st_3 else ze false (st.length) (zd.ret (AV.int .i64 0)) st_3) fun v st_3=>ze false (st.length) (zd.pan v) st_3 else bif decide (n≥240) then bif decide (n<245) then zg (cw 114 [AV.str s0,AV.int .i64 (IntKind.i64.wrap (i1+1))] st_2) (fun v st_3=>(zB v).bind fun b=>bif b then zg (cw 114 [AV.str s0,AV.int .i64 (IntKind.i64.wrap (i1+2))] st_3) (fun v st_4=>(zB v).bind fun b=>bif b then zg (cw 114 [AV.str s0,AV.int .i64 (IntKind.i64.wrap (i1+3))] st_4) (fun v st_5=>(zB v).bind fun b=>bif b then bif n==240 then (zJ (AV.int .i64 (IntKind.i64.wrap (i1+1)))).bind fun j=>(Option.map (fun b=>AV.int .u8 (b.toNat:Int)) s0[j]?).bind fun v=>(zm IntKind.u8 v).bind fun n_1=>bif decide (n_1<144) then ze false (st.length) (zd.ret (AV.int .i64 0)) st_5 else bif n==244 then (zJ (AV.int .i64 (IntKind.i64.wrap (i1+1)))).bind fun j=>(Option.map (fun b=>AV.int .u8 (b.toNat:Int)) s0[j]?).bind fun v=>(zm IntKind.u8 v).bind fun n=>bif decide (n≥144) then ze false (st.length) (zd.ret (AV.int .i64 0)) st_5 else ze false (st.length) (zd.ret (AV.int .i64 4)) st_5 else ze false (st.length) (zd.ret (AV.int .i64 4)) st_5 else bif n==244 then (zJ (AV.int .i64 (IntKind.i64.wrap (i1+1)))).bind fun j=>(Option.map (fun b=>AV.int .u8 (b.toNat:Int)) s0[j]?).bind fun v=>(zm IntKind.u8 v).bind fun n=>bif decide (n≥144) then ze false (st.length) (zd.ret (AV.int .i64 0)) st_5 else ze false (st.length) (zd.ret (AV.int .i64 4)) st_5 else ze false (st.length) (zd.ret (AV.int .i64 4)) st_5 else ze false (st.length) (zd.ret (AV.int .i64 0)) st_5) fun v st_5=>ze false (st.length) (zd.pan v) st_5 else ze false (st.length) (zd.ret (AV.int .i64 0)) st_4) fun v st_4=>ze false (st.length) (zd.pan v) st_4 else ze false (st.length) (zd.ret (AV.int .i64 0)) st_3) fun v st_3=>ze false (st.length) (zd.pan v) st_3 else ze false (st.length) (zd.ret (AV.int .i64 0)) st_2 else ze false (st.length) (zd.ret (AV.int .i64 0)) st_2) fun v st_2=>ze false (st.length) (zd.pan v) st_2 else bif decide (n≥240) then bif decide (n<245) then zg (cw 114 [AV.str s0,AV.int .i64 (IntKind.i64.wrap (i1+1))] st_1) (fun v st_2=>(zB v).bind fun b=>bif b then zg (cw 114 [AV.str s0,AV.int .i64 (IntKind.i64.wrap (i1+2))] st_2) (fun v st_3=>(zB v).bind fun b=>bif b then zg (cw 114 [AV.str s0,AV.int .i64 (IntKind.i64.wrap (i1+3))] st_3) (fun v st_4=>(zB v).bind fun b=>bif b then bif n==240 then (zJ (AV.int .i64 (IntKind.i64.wrap (i1+1)))).bind fun j=>(Option.map (fun b=>AV.int .u8 (b.toNat:Int)) s0[j]?).bind fun v=>(zm IntKind.u8 v).bind fun n_1=>bif decide (n_1<144) then ze false (st.length) (zd.ret (AV.int .i64 0)) st_4 else bif n==244 then (zJ (AV.int .i64 (IntKind.i64.wrap (i1+1)))).bind fun j=>(Option.map (fun b=>AV.int .u8 (b.toNat:Int)) s0[j]?).bind fun v=>(zm IntKind.u8 v).bind fun n=>bif decide (n≥144) then ze false (st.length) (zd.ret (AV.int .i64 0)) st_4 else ze false (st.length) (zd.ret (AV.int .i64 4)) st_4 else ze false (st.length) (zd.ret (AV.int .i64 4)) st_4 else bif n==244 then (zJ (AV.int .i64 (IntKind.i64.wrap (i1+1)))).bind fun j=>(Option.map (fun b=>AV.int .u8 (b.toNat:Int)) s0[j]?).bind fun v=>(zm IntKind.u8 v).bind fun n=>bif decide (n≥144) then ze false (st.length) (zd.ret (AV.int .i64 0)) st_4 else ze false (st.length) (zd.ret (AV.int .i64 4)) st_4 else ze false (st.length) (zd.ret (AV.int .i64 4)) st_4 else ze false (st.length) (zd.ret (AV.int .i64 0)) st_4) fun v st_4=>ze false (st.length) (zd.pan v) st_4 else ze false (st.length) (zd.ret (AV.int .i64 0)) st_3) fun v st_3=>ze false (st.length) (zd.pan v) st_3 else ze false (st.length) (zd.ret (AV.int .i64 0)) st_2) fun v st_2=>ze false (st.length) (zd.pan v) st_2 else ze false (st.length) (zd.ret (AV.int .i64 0)) st_1 else ze false (st.length) (zd.ret (AV.int .i64 0)) st_1 else bif decide (n≥240) then bif decide (n<245) then zg (cw 114 [AV.str s0,AV.int .i64 (IntKind.i64.wrap (i1+1))] st_1) (fun v st_2=>(zB v).bind fun b=>bif b then zg (cw 114 [AV.str s0,AV.int .i64 (IntKind.i64.wrap (i1+2))] st_2) (fun v st_3=>(zB v).bind fun b=>bif b then zg (cw 114 [AV.str s0,AV.int .i64 (IntKind.i64.wrap (i1+3))] st_3) (fun v st_4=>(zB v).bind fun b=>bif b then bif n==240 then (zJ (AV.int .i64 (IntKind.i64.wrap (i1+1)))).bind fun j=>(Option.map (fun b=>AV.int .u8 (b.toNat:Int)) s0[j]?).bind fun v=>(zm IntKind.u8 v).bind fun n_1=>bif decide (n_1<144) then ze false (st.length) (zd.ret (AV.int .i64 0)) st_4 else bif n==244 then (zJ (AV.int .i64 (IntKind.i64.wrap (i1+1)))).bind fun j=>(Option.map (fun b=>AV.int .u8 (b.toNat:Int)) s0[j]?).bind fun v=>(zm IntKind.u8 v).bind fun n=>bif decide (n≥144) then ze false (st.length) (zd.ret (AV.int .i64 0)) st_4 else ze false (st.length) (zd.ret (AV.int .i64 4)) st_4 else ze false (st.length) (zd.ret (AV.int .i64 4)) st_4 else bif n==244 then (zJ (AV.int .i64 (IntKind.i64.wrap (i1+1)))).bind fun j=>(Option.map (fun b=>AV.int .u8 (b.toNat:Int)) s0[j]?).bind fun v=>(zm IntKind.u8 v).bind fun n=>bif decide (n≥144) then ze false (st.length) (zd.ret (AV.int .i64 0)) st_4 else ze false (st.length) (zd.ret (AV.int .i64 4)) st_4 else ze false (st.length) (zd.ret (AV.int .i64 4)) st_4 else ze false (st.length) (zd.ret (AV.int .i64 0)) st_4) fun v st_4=>ze false (st.length) (zd.pan v) st_4 else ze false (st.length) (zd.ret (AV.int .i64 0)) st_3) fun v st_3=>ze false (st.length) (zd.pan v) st_3 else ze false (st.length) (zd.ret (AV.int .i64 0)) st_2) fun v st_2=>ze false (st.length) (zd.pan v) st_2 else ze false (st.length) (zd.ret (AV.int .i64 0)) st_1 else ze false (st.length) (zd.ret (AV.int .i64 0)) st_1) fun v st_1=>ze false (st.length) (zd.pan v) st_1 else bif decide (n≥224) then bif decide (n<240) then zg (cw 114 [AV.str s0,AV.int .i64 (IntKind.i64.wrap (i1+1))] st) (fun v st_1=>(zB v).bind fun b=>bif b then zg (cw 114 [AV.str s0,AV.int .i64 (IntKind.i64.wrap (i1+2))] st_1) (fun v st_2=>(zB v).bind fun b=>bif b then bif n==224 then (zJ (AV.int .i64 (IntKind.i64.wrap (i1+1)))).bind fun j=>(Option.map (fun b=>AV.int .u8 (b.toNat:Int)) s0[j]?).bind fun v=>(zm IntKind.u8 v).bind fun n_1=>bif decide (n_1<160) then ze false (st.length) (zd.ret (AV.int .i64 0)) st_2 else bif n==237 then (zJ (AV.int .i64 (IntKind.i64.wrap (i1+1)))).bind fun j=>(Option.map (fun b=>AV.int .u8 (b.toNat:Int)) s0[j]?).bind fun v=>(zm IntKind.u8 v).bind fun n=>bif decide (n≥160) then ze false (st.length) (zd.ret (AV.int .i64 0)) st_2 else ze false (st.length) (zd.ret (AV.int .i64 3)) st_2 else ze false (st.length) (zd.ret (AV.int .i64 3)) st_2 else bif n==237 then (zJ (AV.int .i64 (IntKind.i64.wrap (i1+1)))).bind fun j=>(Option.map (fun b=>AV.int .u8 (b.toNat:Int)) s0[j]?).bind fun v=>(zm IntKind.u8 v).bind fun n=>bif decide (n≥160) then ze false (st.length) (zd.ret (AV.int .i64 0)) st_2 else ze false (st.length) (zd.ret (AV.int .i64 3)) st_2 else ze false (st.length) (zd.ret (AV.int .i64 3)) st_2 else bif decide (n≥240) then bif decide (n<245) then zg (cw 114 [AV.str s0,AV.int .i64 (IntKind.i64.wrap (i1+1))] st_2) (fun v st_3=>(zB v).bind fun b=>bif b then zg (cw 114 [AV.str s0,AV.int .i64 (IntKind.i64.wrap (i1+2))] st_3) (fun v st_4=>(zB v).bind fun b=>bif b then zg (cw 114 [AV.str s0,AV.int .i64 (IntKind.i64.wrap (i1+3))] st_4) (fun v st_5=>(zB v).bind fun b=>bif b then bif n==240 then (zJ (AV.int .i64 (IntKind.i64.wrap (i1+1)))).bind fun j=>(Option.map (fun b=>AV.int .u8 (b.toNat:Int)) s0[j]?).bind fun v=>(zm IntKind.u8 v).bind fun n_1=>bif decide (n_1<144) then ze false (st.length) (zd.ret (AV.int .i64 0)) st_5 else bif n==244 then (zJ (AV.int .i64 (IntKind.i64.wrap (i1+1)))).bind fun j=>(Option.map (fun b=>AV.int .u8 (b.toNat:Int)) s0[j]?).bind fun v=>(zm IntKind.u8 v).bind fun n=>bif decide (n≥144) then ze false (st.length) (zd.ret (AV.int .i64 0)) st_5 else ze false (st.length) (zd.ret (AV.int .i64 4)) st_5 else ze false (st.length) (zd.ret (AV.int .i64 4)) st_5 else bif n==244 then (zJ (AV.int .i64 (IntKind.i64.wrap (i1+1)))).bind fun j=>(Option.map (fun b=>AV.int .u8 (b.toNat:Int)) s0[j]?).bind fun v=>(zm IntKind.u8 v).bind fun n=>bif decide (n≥144) then ze false (st.length) (zd.ret (AV.int .i64 0)) st_5 else ze false (st.length) (zd.ret (AV.int .i64 4)) st_5 else ze false (st.length) (zd.ret (AV.int .i64 4)) st_5 else ze false (st.length) (zd.ret (AV.int .i64 0)) st_5) fun v st_5=>ze false (st.length) (zd.pan v) st_5 else ze false (st.length) (zd.ret (AV.int .i64 0)) st_4) fun v st_4=>ze false (st.length) (zd.pan v) st_4 else ze false (st.length) (zd.ret (AV.int .i64 0)) st_3) fun v st_3=>ze false (st.length) (zd.pan v) st_3 else ze false (st.length) (zd.ret (AV.int .i64 0)) st_2 else ze false (st.length) (zd.ret (AV.int .i64 0)) st_2) fun v st_2=>ze false (st.length) (zd.pan v) st_2 else bif decide (n≥240) then bif decide (n<245) then zg (cw 114 [AV.str s0,AV.int .i64 (IntKind.i64.wrap (i1+1))] st_1) (fun v st_2=>(zB v).bind fun b=>bif b then zg (cw 114 [AV.str s0,AV.int .i64 (IntKind.i64.wrap (i1+2))] st_2) (fun v st_3=>(zB v).bind fun b=>bif b then zg (cw 114 [AV.str s0,AV.int .i64 (IntKind.i64.wrap (i1+3))] st_3) (fun v st_4=>(zB v).bind fun b=>bif b then bif n==240 then (zJ (AV.int .i64 (IntKind.i64.wrap (i1+1)))).bind fun j=>(Option.map (fun b=>AV.int .u8 (b.toNat:Int)) s0[j]?).bind fun v=>(zm IntKind.u8 v).bind fun n_1=>bif decide (n_1<144) then ze false (st.length) (zd.ret (AV.int .i64 0)) st_4 else bif n==244 then (zJ (AV.int .i64 (IntKind.i64.wrap (i1+1)))).bind fun j=>(Option.map (fun b=>AV.int .u8 (b.toNat:Int)) s0[j]?).bind fun v=>(zm IntKind.u8 v).bind fun n=>bif decide (n≥144) then ze false (st.length) (zd.ret (AV.int .i64 0)) st_4 else ze false (st.length) (zd.ret (AV.int .i64 4)) st_4 else ze false (st.length) (zd.ret (AV.int .i64 4)) st_4 else bif n==244 then (zJ (AV.int .i64 (IntKind.i64.wrap (i1+1)))).bind fun j=>(Option.map (fun b=>AV.int .u8 (b.toNat:Int)) s0[j]?).bind fun v=>(zm IntKind.u8 v).bind fun n=>bif decide (n≥144) then ze false (st.length) (zd.ret (AV.int .i64 0)) st_4 else ze false (st.length) (zd.ret (AV.int .i64 4)) st_4 else ze false (st.length) (zd.ret (AV.int .i64 4)) st_4 else ze false (st.length) (zd.ret (AV.int .i64 0)) st_4) fun v st_4=>ze false (st.length) (zd.pan v) st_4 else ze false (st.length) (zd.ret (AV.int .i64 0)) st_3) fun v st_3=>ze false (st.length) (zd.pan v) st_3 else ze false (st.length) (zd.ret (AV.int .i64 0)) st_2) fun v st_2=>ze false (st.length) (zd.pan v) st_2 else ze false (st.length) (zd.ret (AV.int .i64 0)) st_1 else ze false (st.length) (zd.ret (AV.int .i64 0)) st_1) fun v st_1=>ze false (st.length) (zd.pan v) st_1 else bif decide (n≥240) then bif decide (n<245) then zg (cw 114 [AV.str s0,AV.int .i64 (IntKind.i64.wrap (i1+1))] st) (fun v st_1=>(zB v).bind fun b=>bif b then zg (cw 114 [AV.str s0,AV.int .i64 (IntKind.i64.wrap (i1+2))] st_1) (fun v st_2=>(zB v).bind fun b=>bif b then zg (cw 114 [AV.str s0,AV.int .i64 (IntKind.i64.wrap (i1+3))] st_2) (fun v st_3=>(zB v).bind fun b=>bif b then bif n==240 then (zJ (AV.int .i64 (IntKind.i64.wrap (i1+1)))).bind fun j=>(Option.map (fun b=>AV.int .u8 (b.toNat:Int)) s0[j]?).bind fun v=>(zm IntKind.u8 v).bind fun n_1=>bif decide (n_1<144) then ze false (st.length) (zd.ret (AV.int .i64 0)) st_3 else bif n==244 then (zJ (AV.int .i64 (IntKind.i64.wrap (i1+1)))).bind fun j=>(Option.map (fun b=>AV.int .u8 (b.toNat:Int)) s0[j]?).bind fun v=>(zm IntKind.u8 v).bind fun n=>bif decide (n≥144) then ze false (st.length) (zd.ret (AV.int .i64 0)) st_3 else ze false (st.length) (zd.ret (AV.int .i64 4)) st_3 else ze false (st.length) (zd.ret (AV.int .i64 4)) st_3 else bif n==244 then (zJ (AV.int .i64 (IntKind.i64.wrap (i1+1)))).bind fun j=>(Option.map (fun b=>AV.int .u8 (b.toNat:Int)) s0[j]?).bind fun v=>(zm IntKind.u8 v).bind fun n=>bif decide (n≥144) then ze false (st.length) (zd.ret (AV.int .i64 0)) st_3 else ze false (st.length) (zd.ret (AV.int .i64 4)) st_3 else ze false (st.length) (zd.ret (AV.int .i64 4)) st_3 else ze false (st.length) (zd.ret (AV.int .i64 0)) st_3) fun v st_3=>ze false (st.length) (zd.pan v) st_3 else ze false (st.length) (zd.ret (AV.int .i64 0)) st_2) fun v st_2=>ze false (st.length) (zd.pan v) st_2 else ze false (st.length) (zd.ret (AV.int .i64 0)) st_1) fun v st_1=>ze false (st.length) (zd.pan v) st_1 else ze false (st.length) (zd.ret (AV.int .i64 0)) st else ze false (st.length) (zd.ret (AV.int .i64 0)) st else bif decide (n≥240) then bif decide (n<245) then zg (cw 114 [AV.str s0,AV.int .i64 (IntKind.i64.wrap (i1+1))] st) (fun v st_1=>(zB v).bind fun b=>bif b then zg (cw 114 [AV.str s0,AV.int .i64 (IntKind.i64.wrap (i1+2))] st_1) (fun v st_2=>(zB v).bind fun b=>bif b then zg (cw 114 [AV.str s0,AV.int .i64 (IntKind.i64.wrap (i1+3))] st_2) (fun v st_3=>(zB v).bind fun b=>bif b then bif n==240 then (zJ (AV.int .i64 (IntKind.i64.wrap (i1+1)))).bind fun j=>(Option.map (fun b=>AV.int .u8 (b.toNat:Int)) s0[j]?).bind fun v=>(zm IntKind.u8 v).bind fun n_1=>bif decide (n_1<144) then ze false (st.length) (zd.ret (AV.int .i64 0)) st_3 else bif n==244 then (zJ (AV.int .i64 (IntKind.i64.wrap (i1+1)))).bind fun j=>(Option.map (fun b=>AV.int .u8 (b.toNat:Int)) s0[j]?).bind fun v=>(zm IntKind.u8 v).bind fun n=>bif decide (n≥144) then ze false (st.length) (zd.ret (AV.int .i64 0)) st_3 else ze false (st.length) (zd.ret (AV.int .i64 4)) st_3 else ze false (st.length) (zd.ret (AV.int .i64 4)) st_3 else bif n==244 then (zJ (AV.int .i64 (IntKind.i64.wrap (i1+1)))).bind fun j=>(Option.map (fun b=>AV.int .u8 (b.toNat:Int)) s0[j]?).bind fun v=>(zm IntKind.u8 v).bind fun n=>bif decide (n≥144) then ze false (st.length) (zd.ret (AV.int .i64 0)) st_3 else ze false (st.length) (zd.ret (AV.int .i64 4)) st_3 else ze false (st.length) (zd.ret (AV.int .i64 4)) st_3 else ze false (st.length) (zd.ret (AV.int .i64 0)) st_3) fun v st_3=>ze false (st.length) (zd.pan v) st_3 else ze false (st.length) (zd.ret (AV.int .i64 0)) st_2) fun v st_2=>ze false (st.length) (zd.pan v) st_2 else ze false (st.length) (zd.ret (AV.int .i64 0)) st_1) fun v st_1=>ze false (st.length) (zd.pan v) st_1 else ze false (st.length) (zd.ret (AV.int .i64 0)) st else ze false (st.length) (zd.ret (AV.int .i64 0)) st else bif decide (n≥224) then bif decide (n<240) then zg (cw 114 [AV.str s0,AV.int .i64 (IntKind.i64.wrap (i1+1))] st) (fun v st_1=>(zB v).bind fun b=>bif b then zg (cw 114 [AV.str s0,AV.int .i64 (IntKind.i64.wrap (i1+2))] st_1) (fun v st_2=>(zB v).bind fun b=>bif b then bif n==224 then (zJ (AV.int .i64 (IntKind.i64.wrap (i1+1)))).bind fun j=>(Option.map (fun b=>AV.int .u8 (b.toNat:Int)) s0[j]?).bind fun v=>(zm IntKind.u8 v).bind fun n_1=>bif decide (n_1<160) then ze false (st.length) (zd.ret (AV.int .i64 0)) st_2 else bif n==237 then (zJ (AV.int .i64 (IntKind.i64.wrap (i1+1)))).bind fun j=>(Option.map (fun b=>AV.int .u8 (b.toNat:Int)) s0[j]?).bind fun v=>(zm IntKind.u8 v).bind fun n=>bif decide (n≥160) then ze false (st.length) (zd.ret (AV.int .i64 0)) st_2 else ze false (st.length) (zd.ret (AV.int .i64 3)) st_2 else ze false (st.length) (zd.ret (AV.int .i64 3)) st_2 else bif n==237 then (zJ (AV.int .i64 (IntKind.i64.wrap (i1+1)))).bind fun j=>(Option.map (fun b=>AV.int .u8 (b.toNat:Int)) s0[j]?).bind fun v=>(zm IntKind.u8 v).bind fun n=>bif decide (n≥160) then ze false (st.length) (zd.ret (AV.int .i64 0)) st_2 else ze false (st.length) (zd.ret (AV.int .i64 3)) st_2 else ze false (st.length) (zd.ret (AV.int .i64 3)) st_2 else bif decide (n≥240) then bif decide (n<245) then zg (cw 114 [AV.str s0,AV.int .i64 (IntKind.i64.wrap (i1+1))] st_2) (fun v st_3=>(zB v).bind fun b=>bif b then zg (cw 114 [AV.str s0,AV.int .i64 (IntKind.i64.wrap (i1+2))] st_3) (fun v st_4=>(zB v).bind fun b=>bif b then zg (cw 114 [AV.str s0,AV.int .i64 (IntKind.i64.wrap (i1+3))] st_4) (fun v st_5=>(zB v).bind fun b=>bif b then bif n==240 then (zJ (AV.int .i64 (IntKind.i64.wrap (i1+1)))).bind fun j=>(Option.map (fun b=>AV.int .u8 (b.toNat:Int)) s0[j]?).bind fun v=>(zm IntKind.u8 v).bind fun n_1=>bif decide (n_1<144) then ze false (st.length) (zd.ret (AV.int .i64 0)) st_5 else bif n==244 then (zJ (AV.int .i64 (IntKind.i64.wrap (i1+1)))).bind fun j=>(Option.map (fun b=>AV.int .u8 (b.toNat:Int)) s0[j]?).bind fun v=>(zm IntKind.u8 v).bind fun n=>bif decide (n≥144) then ze false (st.length) (zd.ret (AV.int .i64 0)) st_5 else ze false (st.length) (zd.ret (AV.int .i64 4)) st_5 else ze false (st.length) (zd.ret (AV.int .i64 4)) st_5 else bif n==244 then (zJ (AV.int .i64 (IntKind.i64.wrap (i1+1)))).bind fun j=>(Option.map (fun b=>AV.int .u8 (b.toNat:Int)) s0[j]?).bind fun v=>(zm IntKind.u8 v).bind fun n=>bif decide (n≥144) then ze false (st.length) (zd.ret (AV.int .i64 0)) st_5 else ze false (st.length) (zd.ret (AV.int .i64 4)) st_5 else ze false (st.length) (zd.ret (AV.int .i64 4)) st_5 else ze false (st.length) (zd.ret (AV.int .i64 0)) st_5) fun v st_5=>ze false (st.length) (zd.pan v) st_5 else ze false (st.length) (zd.ret (AV.int .i64 0)) st_4) fun v st_4=>ze false (st.length) (zd.pan v) st_4 else ze false (st.length) (zd.ret (AV.int .i64 0)) st_3) fun v st_3=>ze false (st.length) (zd.pan v) st_3 else ze false (st.length) (zd.ret (AV.int .i64 0)) st_2 else ze false (st.length) (zd.ret (AV.int .i64 0)) st_2) fun v st_2=>ze false (st.length) (zd.pan v) st_2 else bif decide (n≥240) then bif decide (n<245) then zg (cw 114 [AV.str s0,AV.int .i64 (IntKind.i64.wrap (i1+1))] st_1) (fun v st_2=>(zB v).bind fun b=>bif b then zg (cw 114 [AV.str s0,AV.int .i64 (IntKind.i64.wrap (i1+2))] st_2) (fun v st_3=>(zB v).bind fun b=>bif b then zg (cw 114 [AV.str s0,AV.int .i64 (IntKind.i64.wrap (i1+3))] st_3) (fun v st_4=>(zB v).bind fun b=>bif b then bif n==240 then (zJ (AV.int .i64 (IntKind.i64.wrap (i1+1)))).bind fun j=>(Option.map (fun b=>AV.int .u8 (b.toNat:Int)) s0[j]?).bind fun v=>(zm IntKind.u8 v).bind fun n_1=>bif decide (n_1<144) then ze false (st.length) (zd.ret (AV.int .i64 0)) st_4 else bif n==244 then (zJ (AV.int .i64 (IntKind.i64.wrap (i1+1)))).bind fun j=>(Option.map (fun b=>AV.int .u8 (b.toNat:Int)) s0[j]?).bind fun v=>(zm IntKind.u8 v).bind fun n=>bif decide (n≥144) then ze false (st.length) (zd.ret (AV.int .i64 0)) st_4 else ze false (st.length) (zd.ret (AV.int .i64 4)) st_4 else ze false (st.length) (zd.ret (AV.int .i64 4)) st_4 else bif n==244 then (zJ (AV.int .i64 (IntKind.i64.wrap (i1+1)))).bind fun j=>(Option.map (fun b=>AV.int .u8 (b.toNat:Int)) s0[j]?).bind fun v=>(zm IntKind.u8 v).bind fun n=>bif decide (n≥144) then ze false (st.length) (zd.ret (AV.int .i64 0)) st_4 else ze false (st.length) (zd.ret (AV.int .i64 4)) st_4 else ze false (st.length) (zd.ret (AV.int .i64 4)) st_4 else ze false (st.length) (zd.ret (AV.int .i64 0)) st_4) fun v st_4=>ze false (st.length) (zd.pan v) st_4 else ze false (st.length) (zd.ret (AV.int .i64 0)) st_3) fun v st_3=>ze false (st.length) (zd.pan v) st_3 else ze false (st.length) (zd.ret (AV.int .i64 0)) st_2) fun v st_2=>ze false (st.length) (zd.pan v) st_2 else ze false (st.length) (zd.ret (AV.int .i64 0)) st_1 else ze false (st.length) (zd.ret (AV.int .i64 0)) st_1) fun v st_1=>ze false (st.length) (zd.pan v) st_1 else bif decide (n≥240) then bif decide (n<245) then zg (cw 114 [AV.str s0,AV.int .i64 (IntKind.i64.wrap (i1+1))] st) (fun v st_1=>(zB v).bind fun b=>bif b then zg (cw 114 [AV.str s0,AV.int .i64 (IntKind.i64.wrap (i1+2))] st_1) (fun v st_2=>(zB v).bind fun b=>bif b then zg (cw 114 [AV.str s0,AV.int .i64 (IntKind.i64.wrap (i1+3))] st_2) (fun v st_3=>(zB v).bind fun b=>bif b then bif n==240 then (zJ (AV.int .i64 (IntKind.i64.wrap (i1+1)))).bind fun j=>(Option.map (fun b=>AV.int .u8 (b.toNat:Int)) s0[j]?).bind fun v=>(zm IntKind.u8 v).bind fun n_1=>bif decide (n_1<144) then ze false (st.length) (zd.ret (AV.int .i64 0)) st_3 else bif n==244 then (zJ (AV.int .i64 (IntKind.i64.wrap (i1+1)))).bind fun j=>(Option.map (fun b=>AV.int .u8 (b.toNat:Int)) s0[j]?).bind fun v=>(zm IntKind.u8 v).bind fun n=>bif decide (n≥144) then ze false (st.length) (zd.ret (AV.int .i64 0)) st_3 else ze false (st.length) (zd.ret (AV.int .i64 4)) st_3 else ze false (st.length) (zd.ret (AV.int .i64 4)) st_3 else bif n==244 then (zJ (AV.int .i64 (IntKind.i64.wrap (i1+1)))).bind fun j=>(Option.map (fun b=>AV.int .u8 (b.toNat:Int)) s0[j]?).bind fun v=>(zm IntKind.u8 v).bind fun n=>bif decide (n≥144) then ze false (st.length) (zd.ret (AV.int .i64 0)) st_3 else ze false (st.length) (zd.ret (AV.int .i64 4)) st_3 else ze false (st.length) (zd.ret (AV.int .i64 4)) st_3 else ze false (st.length) (zd.ret (AV.int .i64 0)) st_3) fun v st_3=>ze false (st.length) (zd.pan v) st_3 else ze false (st.length) (zd.ret (AV.int .i64 0)) st_2) fun v st_2=>ze false (st.length) (zd.pan v) st_2 else ze false (st.length) (zd.ret (AV.int .i64 0)) st_1) fun v st_1=>ze false (st.length) (zd.pan v) st_1 else ze false (st.length) (zd.ret (AV.int .i64 0)) st else ze false (st.length) (zd.ret (AV.int .i64 0)) st else bif decide (n≥240) then bif decide (n<245) then zg (cw 114 [AV.str s0,AV.int .i64 (IntKind.i64.wrap (i1+1))] st) (fun v st_1=>(zB v).bind fun b=>bif b then zg (cw 114 [AV.str s0,AV.int .i64 (IntKind.i64.wrap (i1+2))] st_1) (fun v st_2=>(zB v).bind fun b=>bif b then zg (cw 114 [AV.str s0,AV.int .i64 (IntKind.i64.wrap (i1+3))] st_2) (fun v st_3=>(zB v).bind fun b=>bif b then bif n==240 then (zJ (AV.int .i64 (IntKind.i64.wrap (i1+1)))).bind fun j=>(Option.map (fun b=>AV.int .u8 (b.toNat:Int)) s0[j]?).bind fun v=>(zm IntKind.u8 v).bind fun n_1=>bif decide (n_1<144) then ze false (st.length) (zd.ret (AV.int .i64 0)) st_3 else bif n==244 then (zJ (AV.int .i64 (IntKind.i64.wrap (i1+1)))).bind fun j=>(Option.map (fun b=>AV.int .u8 (b.toNat:Int)) s0[j]?).bind fun v=>(zm IntKind.u8 v).bind fun n=>bif decide (n≥144) then ze false (st.length) (zd.ret (AV.int .i64 0)) st_3 else ze false (st.length) (zd.ret (AV.int .i64 4)) st_3 else ze false (st.length) (zd.ret (AV.int .i64 4)) st_3 else bif n==244 then (zJ (AV.int .i64 (IntKind.i64.wrap (i1+1)))).bind fun j=>(Option.map (fun b=>AV.int .u8 (b.toNat:Int)) s0[j]?).bind fun v=>(zm IntKind.u8 v).bind fun n=>bif decide (n≥144) then ze false (st.length) (zd.ret (AV.int .i64 0)) st_3 else ze false (st.length) (zd.ret (AV.int .i64 4)) st_3 else ze false (st.length) (zd.ret (AV.int .i64 4)) st_3 else ze false (st.length) (zd.ret (AV.int .i64 0)) st_3) fun v st_3=>ze false (st.length) (zd.pan v) st_3 else ze false (st.length) (zd.ret (AV.int .i64 0)) st_2) fun v st_2=>ze false (st.length) (zd.pan v) st_2 else ze false (st.length) (zd.ret (AV.int .i64 0)) st_1) fun v st_1=>ze false (st.length) (zd.pan v) st_1 else ze false (st.length) (zd.ret (AV.int .i64 0)) st else ze false (st.length) (zd.ret (AV.int .i64 0)) st)=some r):cw 98 [AV.str s0,AV.int .i64 i1] st=some r:=zw (Eq.trans (by kernel_rfl) h)
theorem zbQ (op0:Int) (st:St) {r:zd×St} (h:(bif decide (op0≥1) then bif decide (op0≤6) then ze false (st.length) (zd.ret (AV.int .i64 0)) st else bif op0==7 then ze false (st.length) (zd.ret (AV.int .i64 1)) st else bif op0==9 then ze false (st.length) (zd.ret (AV.int .i64 1)) st else bif op0==10 then ze false (st.length) (zd.ret (AV.int .i64 1)) st else bif op0==11 then ze false (st.length) (zd.ret (AV.int .i64 1)) st else bif op0==31 then ze false (st.length) (zd.ret (AV.int .i64 3)) st else ze false (st.length) (zd.ret (AV.int .i64 2)) st
else bif op0==7 then ze false (st.length) (zd.ret (AV.int .i64 1)) st else bif op0==9 then ze false (st.length) (zd.ret (AV.int .i64 1)) st else bif op0==10 then ze false (st.length) (zd.ret (AV.int .i64 1)) st else bif op0==11 then ze false (st.length) (zd.ret (AV.int .i64 1)) st else bif op0==31 then ze false (st.length) (zd.ret (AV.int .i64 3)) st else ze false (st.length) (zd.ret (AV.int .i64 2)) st)=some r):cw 105 [AV.int .i64 op0] st=some r:=zw (Eq.trans (by kernel_rfl) h)
theorem zbH (s0:List UInt8) (st:St) {r:zd×St} (h:(bif decide ((s0.length:Int)>4096) then ze false (st.length) (zd.ret (AV.bool false)) st
else zg (cw 119 [AV.str s0] st) (fun v st_1=>(zK 0 v).bind fun v_1=>(zm IntKind.i64 v_1).bind fun n=>(zK 1 v).bind fun v=>(zm IntKind.i64 v).bind fun n=>ze false (st.length) (zd.ret (AV.bool (n==0))) st_1) fun v st_1=>ze false (st.length) (zd.pan v) st_1)=some r):cw 106 [AV.str s0] st=some r:=zw (Eq.trans (by kernel_rfl) h)
abbrev Uj:List Dir:=[.sr,.sl,.sr,.bk]
theorem zbF (s0:List UInt8) (st:St) {r:zd×St} (h:(aw 107 (st.length) Uj {env:=[(0,AV.str s0),(3,AV.int .i64 0)],defers:=[]} st)=some r):cw 107 [AV.str s0] st=some r:=zw (Eq.trans (by kernel_rfl) h)
theorem BU (s0:List UInt8) (i3:Int) (base:Nat) (st:St) {r:zd×St} (h:(bif decide (i3<(s0.length:Int)) then (zJ (AV.int .i64 i3)).bind fun j=>(Option.map (fun b=>AV.int .u8 (b.toNat:Int)) s0[j]?).bind fun v=>(zm IntKind.u8 v).bind fun n=>bif decide (n<32) then (zJ (AV.int .i64 i3)).bind fun j=>(Option.map (fun b=>AV.int .u8 (b.toNat:Int)) s0[j]?).bind fun v=>(zm IntKind.u8 v).bind fun n=>bif n != 10 then ze false base (zd.ret (AV.bool false)) st else aw 107 base Uj {env:=[(0,AV.str s0),(3,AV.int .i64 (IntKind.i64.wrap (i3+1)))],defers:=[]} st else aw 107 base Uj {env:=[(0,AV.str s0),(3,AV.int .i64 (IntKind.i64.wrap (i3+1)))],defers:=[]} st
else ze false base (zd.ret (AV.bool true)) st)=some r):aw 107 base Uj {env:=[(0,AV.str s0),(3,AV.int .i64 i3)],defers:=[]} st=some r:=ql (Eq.trans (by kernel_rfl) h)
theorem zbG (s0:List UInt8) (st:St) {r:zd×St} (h:(zg (cw 109 [AV.str s0] st) (fun v st_1=>(zB v).bind fun b=>bif b then (zQ BinOp.neq s0 [ofNat 110,ofNat 117,ofNat 108,ofNat 108]).bind fun v=>(zB v).bind fun b=>bif b then (zQ BinOp.neq s0 [ofNat 102,ofNat 97,ofNat 108,ofNat 115,ofNat 101]).bind fun v=>(zB v).bind fun b=>bif b then (zQ BinOp.neq s0 [ofNat 116,ofNat 114,ofNat 117,ofNat 101]).bind fun v=>(zB v).bind fun b=>ze false (st.length) (zd.ret (AV.bool b)) st_1 else ze false (st.length) (zd.ret (AV.bool false)) st_1 else ze false (st.length) (zd.ret (AV.bool false)) st_1 else ze false (st.length) (zd.ret (AV.bool false)) st_1) fun v st_1=>ze false (st.length) (zd.pan v) st_1)=some r):cw 108 [AV.str s0] st=some r:=zw (Eq.trans (by kernel_rfl) h)
theorem zbR (s0:List UInt8) (st:St) {r:zd×St} (h:(zg (cw 120 [AV.str s0,AV.int .u8 95] st) (fun v st_1=>(zB v).bind fun b=>ze false (st.length) (zd.ret (AV.bool b)) st_1) fun v st_1=>ze false (st.length) (zd.pan v) st_1)=some r):cw 109 [AV.str s0] st=some r:=zw (Eq.trans (by kernel_rfl) h)
theorem zbO (s0:List UInt8) (i1:Int) (st:St) {r:zd×St} (h:(bif decide (i1<(s0.length:Int)) then (zJ (AV.int .i64 i1)).bind fun j=>(Option.map (fun b=>AV.int .u8 (b.toNat:Int)) s0[j]?).bind fun v=>(zm IntKind.u8 v).bind fun n=>bif decide (n≥128) then (zJ (AV.int .i64 i1)).bind fun j=>(Option.map (fun b=>AV.int .u8 (b.toNat:Int)) s0[j]?).bind fun v=>(zm IntKind.u8 v).bind fun n=>ze false (st.length) (zd.ret (AV.bool (decide (n<192)))) st else ze false (st.length) (zd.ret (AV.bool false)) st
else ze false (st.length) (zd.ret (AV.bool false)) st)=some r):cw 114 [AV.str s0,AV.int .i64 i1] st=some r:=zw (Eq.trans (by kernel_rfl) h)
abbrev Lp:List Dir:=[.sr,.sr,.sl,.bk]
theorem zbA (s0:List UInt8) (st:St) {r:zd×St} (h:(aw 119 (st.length) Lp {env:=[(0,AV.str s0),(4,AV.int .i64 0)],defers:=[]} st)=some r):cw 119 [AV.str s0] st=some r:=zw (Eq.trans (by kernel_rfl) h)
theorem KK (s0:List UInt8) (i4:Int) (base:Nat) (st:St) {r:zd×St} (h:(bif decide (i4<(s0.length:Int)) then zg (cw 98 [AV.str s0,AV.int .i64 i4] st) (fun v st=>(zm IntKind.i64 v).bind fun n=>bif n==0 then ze false base (zd.ret (AV.tup [AV.int .i64 i4,AV.int .i64 300])) st else aw 119 base Lp {env:=[(0,AV.str s0),(4,AV.int .i64 (IntKind.i64.wrap (i4+n)))],defers:=[]} st) fun v st=>ze false base (zd.pan v) st
else ze false base (zd.ret (AV.tup [AV.int .i64 0,AV.int .i64 0])) st)=some r):aw 119 base Lp {env:=[(0,AV.str s0),(4,AV.int .i64 i4)],defers:=[]} st=some r:=ql (Eq.trans (by kernel_rfl) h)
abbrev Jb:List Dir:=[.sr,.sr,.sl,.sr,.bk]
theorem zbM (s0:List UInt8) (joint1:Int) (st:St) {r:zd×St} (h:(bif decide ((s0.length:Int)<1) then ze false (st.length) (zd.ret (AV.bool false)) st
else bif decide ((s0.length:Int)>32) then ze false (st.length) (zd.ret (AV.bool false)) st else (Option.map (fun b=>AV.int .u8 (b.toNat:Int)) s0[0]?).bind fun v=>(zm IntKind.u8 v).bind fun n=>bif decide (n<97) then ze false (st.length) (zd.ret (AV.bool false)) st else (Option.map (fun b=>AV.int .u8 (b.toNat:Int)) s0[0]?).bind fun v=>(zm IntKind.u8 v).bind fun n=>bif decide (n>122) then ze false (st.length) (zd.ret (AV.bool false)) st else aw 120 (st.length) Jb {env:=[(0,AV.str s0),(1,AV.int .u8 joint1),(5,AV.int .i64 1)],defers:=[]} st)=some r):cw 120 [AV.str s0,AV.int .u8 joint1] st=some r:=zw (Eq.trans (by kernel_rfl) h)
theorem Cg (s0:List UInt8) (joint1:Int) (i5:Int) (base:Nat) (st:St) {r:zd×St} (h:(bif decide (i5<(s0.length:Int)) then (zJ (AV.int .i64 i5)).bind fun j=>(Option.map (fun b=>AV.int .u8 (b.toNat:Int)) s0[j]?).bind fun v=>(zm IntKind.u8 v).bind fun n=>bif decide (n<97) then bif decide (n<48) then bif n != joint1 then ze false base (zd.ret (AV.bool false)) st else aw 120 base Jb {env:=[(0,AV.str s0),(1,AV.int .u8 joint1),(5,AV.int .i64 (IntKind.i64.wrap (i5+1)))],defers:=[]} st else bif decide (n>57) then bif n != joint1 then ze false base (zd.ret (AV.bool false)) st else aw 120 base Jb {env:=[(0,AV.str s0),(1,AV.int .u8 joint1),(5,AV.int .i64 (IntKind.i64.wrap (i5+1)))],defers:=[]} st else aw 120 base Jb {env:=[(0,AV.str s0),(1,AV.int .u8 joint1),(5,AV.int .i64 (IntKind.i64.wrap (i5+1)))],defers:=[]} st else bif decide (n>122) then bif decide (n<48) then bif n != joint1 then ze false base (zd.ret (AV.bool false)) st else aw 120 base Jb {env:=[(0,AV.str s0),(1,AV.int .u8 joint1),(5,AV.int .i64 (IntKind.i64.wrap (i5+1)))],defers:=[]} st else bif decide (n>57) then bif n != joint1 then ze false base (zd.ret (AV.bool false)) st else aw 120 base Jb {env:=[(0,AV.str s0),(1,AV.int .u8 joint1),(5,AV.int .i64 (IntKind.i64.wrap (i5+1)))],defers:=[]} st else aw 120 base Jb {env:=[(0,AV.str s0),(1,AV.int .u8 joint1),(5,AV.int .i64 (IntKind.i64.wrap (i5+1)))],defers:=[]} st else aw 120 base Jb {env:=[(0,AV.str s0),(1,AV.int .u8 joint1),(5,AV.int .i64 (IntKind.i64.wrap (i5+1)))],defers:=[]} st
else ze false base (zd.ret (AV.bool true)) st)=some r):aw 120 base Jb {env:=[(0,AV.str s0),(1,AV.int .u8 joint1),(5,AV.int .i64 i5)],defers:=[]} st=some r:=ql (Eq.trans (by kernel_rfl) h)
end Go.Abs
namespace Go.Abs.X
abbrev B:=List UInt8
inductive Ex where
 |mk (op n:Int) (s:B) (kids:List Ex)
def Ex.op:Ex→Int | .mk op _ _ _=>op
def Ex.n:Ex→Int | .mk _ n _ _=>n
def Ex.s:Ex→B | .mk _ _ s _=>s
def Ex.kids:Ex→List Ex | .mk _ _ _ k=>k
def Ex.zero:Ex:=.mk 0 0 [] []
mutual
def Ex.beq:Ex→Ex→Bool
 | .mk o n s k,.mk o' n' s' k'=>o==o'&&n==n'&&s==s'&&Ex.beqs k k'
termination_by structural x=>x
def Ex.beqs:List Ex→List Ex→Bool
 |[],[]=>true
 |a::r,b::q=>Ex.beq a b&&Ex.beqs r q
 |_,_=>false
termination_by structural x=>x
end
mutual
theorem Ex.beq_iff (a b:Ex):Ex.beq a b=true↔a=b:=by
 cases a with
 |mk o n s k =>
  cases b with
  |mk o' n' s' k' =>
   simp only [Ex.beq,Bool.and_eq_true,beq_iff_eq,Ex.mk.injEq,Ex.beqs_iff k k']
   constructor
   ·rintro ⟨⟨⟨h1,h2⟩,h3⟩,h4⟩;exact ⟨h1,h2,h3,h4⟩
   ·rintro ⟨h1,h2,h3,h4⟩;exact ⟨⟨⟨h1,h2⟩,h3⟩,h4⟩
termination_by structural a
theorem Ex.beqs_iff (a b:List Ex):Ex.beqs a b=true↔a=b:=by
 cases a with
 |nil=>cases b<;>simp [Ex.beqs]
 |cons x r =>
  cases b with
  |nil=>simp [Ex.beqs]
  |cons y q=>simp only [Ex.beqs,Bool.and_eq_true,List.cons.injEq,Ex.beq_iff x y,Ex.beqs_iff r q]
termination_by structural a
end
abbrev F:=Int×Nat
inductive Tk where
 |num (n:Nat)
 |text (s:B)
 |name (s:B)
 |sign (s:B)
 |fin
 |bad (code:Int) (place:Nat)
 deriving DecidableEq
structure T where
 k:Tk
 at':Nat
def dig (c:UInt8):Bool:=decide (48≤c.toNat)&&decide (c.toNat≤57)
def sml (c:UInt8):Bool:=decide (97≤c.toNat)&&decide (c.toNat≤122)
def nam (c:UInt8):Bool:=dig c||sml c||c.toNat==95
def blk (c:UInt8):Bool:=c.toNat==32||c.toNat==9||c.toNat==10||c.toNat==13
def dec (l:B):Nat:=l.foldl (fun a c=>a*10+(c.toNat - 48)) 0
def signs:List B:=[[124,124],[38,38],[61,61],[33,61],[60,61],[62,61],[60,60],[62,62],[63],[58],[60],[62],[124],[94],[38],[126],[43],[45],[42],[47],[37],[33],[46],[91],[93],[40],[41]]
def tl (c:UInt8):Bool:=decide (128≤c.toNat)&&decide (c.toNat<192)
def zI:B→Nat
 |[]=>0
 |c::r =>
  if c.toNat<128 then 1 else
  match r with
  |[]=>0
  |d::r =>
   if decide (194≤c.toNat)&&decide (c.toNat<224)&&tl d then 2 else
   match r with
   |[]=>0
   |e::r =>
    if decide (224≤c.toNat)&&decide (c.toNat<240)&&tl d&&tl e then
     (if c.toNat==224&&decide (d.toNat<160)||c.toNat==237&&decide (160≤d.toNat) then 0 else 3) else
    match r with
    |[]=>0
    |f::_ =>
     if decide (240≤c.toNat)&&decide (c.toNat<245)&&tl d&&tl e&&tl f then
      (if c.toNat==240&&decide (d.toNat<144)||c.toNat==244&&decide (144≤d.toNat) then 0 else 4) else 0
def qI:Nat→B→Bool
 | 0,r=>r.isEmpty
 |n+1,r=>match r with
  |[]=>true
  |_=>match zI r with
   | 0=>false
   |m=>qI n (r.drop m)
def zH:Nat→B→Nat→B→Except F (B×B×Nat)
 | 0,_,i,_=>.error (1000,i)
 |n+1,r,i,out=>match r with
  |[]=>.error (1000,i)
  |c::r' =>
   if c.toNat<32 then .error (1000,i)
   else if c.toNat=39 then .ok (out,r',i+1)
   else if c.toNat=92 then match r' with
    |[]=>.error (1000,i+1)
    |d::r''=>if d.toNat=39∨d.toNat=92∨d.toNat=125 then zH n r'' (i+2) (out++[d]) else if d.toNat=110 then zH n r'' (i+2) (out++[10]) else .error (1000,i+1)
   else match zI r with
    | 0=>.error (1000,i)
    |m=>zH n (r.drop m) (i+m) (out++r.take m)
def ZG (r:B) (i:Nat):Tk×B×Nat :=
 match r with
 |[]=>(.fin,r,i)
 |c::r' =>
  if c.toNat=39 then
   match zH (r'.length+1) r' (i+1) [] with
   | .error f=>(.bad f.1 f.2,r',i)
   | .ok (out,q,k)=>if out.length>4096 then (.bad 1002 i,r',i) else (.text out,q,k)
  else if dig c then
   if c.toNat=48 then (.num 0,r',i+1)
   else
    let d:=c::r'.takeWhile dig
    if dec d≤9223372036854775807 then (.num (dec d),r'.dropWhile dig,i+d.length) else (.bad 1000 i,r',i)
  else if sml c then
   let d:=c::r'.takeWhile nam
   if d.length>32 then (.bad 1000 i,r',i) else (.name d,r'.dropWhile nam,i+d.length)
  else match signs.find? fun s=>s.isPrefixOf r with
   |some s=>(.sign s,r.drop s.length,i+s.length)
   |none=>(.bad 1000 i,r',i)
def toks:Nat→B→Nat→Nat→List T
 | 0,_,_,_=>[]
 |n+1,r,i,count =>
  let b:=r.takeWhile blk
  let r:=r.dropWhile blk
  let i:=i+b.length
  match r with
  |[]=>[⟨.fin,i⟩]
  |_=>match ZG r i with
   |(.bad c p,_,_)=>[⟨.bad c p,i⟩]
   |(k,q,j)=>if count≥512 then [⟨.bad 1002 i,i⟩] else ⟨k,i⟩::toks n q j (count+1)
def levels:List (List (B×Int)):=[[([124,124],30)],[([38,38],29)],[([61,61],27),([33,61],28)],[([60],23),([60,61],24),([62],25),([62,61],26)],
 [([124],22)],[([94],21)],[([38],20)],[([60,60],18),([62,62],19)],[([126],17)],[([43],15),([45],16)],[([42],12),([47],13),([37],14)]]
def calls:List B:=[[108,101,110],[115,116,114],[105,56],[117,56],[105,49,54],[117,49,54],[105,51,50],[117,51,50]]
def qy (s:B):Int:=if s=[110,117,108,108] then 1 else if s=[102,97,108,115,101] then 2 else if s=[116,114,117,101] then 3 else 0
def Zj (s:B):Nat:=match calls.findIdx? (fun c=>c==s) with | some i=>i+1 | none=>0
inductive Mode where
 |two (lv:List (List (B×Int)))
 |loop (l:List (B×Int)) (lv:List (List (B×Int))) (e:Ex)
 |whole
 |sign1
 |part
 |partL (e:Ex)
 |word
 |inside (last:B)
def isS (ts:List T) (s:B):Bool:=match ts with
 |⟨.sign x,_⟩::_=>x==s
 |_=>false
def XE (ts:List T):Bool:=match ts with
 |⟨.fin,_⟩::_=>true
 |_=>false
def atT (ts:List T):Nat:=match ts with
 |t::_=>t.at'
 |[]=>0
abbrev Res:=Option (Except F (Ex×List T))
def stop (ts:List T):Res:=some (.error (1000,atT ts))
def ok (e:Ex) (ts:List T):Res:=some (.ok (e,ts))
def adv (ts:List T) (k:List T→Res):Res:=match ts with
 |_::u::r=>(match u with
  |⟨.bad c p,_⟩=>some (.error (c,p))
  |u=>k (u::r))
 |_=>some (.error (0,0))
def andThen (r:Res) (k:Ex→List T→Res):Res:=match r with
 |some (.ok (e,ts))=>k e ts
 |some (.error f)=>some (.error f)
 |none=>none
def want (s:B) (ts:List T) (k:List T→Res):Res:=if isS ts s then adv ts k else stop ts
def P:Nat→Mode→Nat→List T→Res
 | 0,_,_,_=>none
 |n+1,.two [],nest,ts=>P n .sign1 nest ts
 |n+1,.two (l::lv),nest,ts=>andThen (P n (.two lv) nest ts) fun e ts=>P n (.loop l lv e) nest ts
 |n+1,.loop l lv e,nest,ts=>match l.find? fun p=>isS ts p.1 with
  |none=>ok e ts
  |some p=>adv ts fun ts=>andThen (P n (.two lv) nest ts) fun x ts=>P n (.loop l lv (.mk p.2 0 [] [e,x])) nest ts
 |n+1,.whole,nest,ts=>andThen (P n (.two levels) nest ts) fun e ts =>
  if isS ts [63] then adv ts fun ts=>andThen (P n .whole (nest+1) ts) fun a ts=>want [58] ts fun ts=>andThen (P n .whole (nest+1) ts) fun b ts=>ok (.mk 31 0 [] [e,a,b]) ts
  else ok e ts
 |n+1,.sign1,nest,ts =>
  if !XE ts&&decide (32<nest) then some (.error (1001,atT ts))
  else if isS ts [45] then adv ts fun ts=>andThen (P n .sign1 (nest+1) ts) fun e ts=>ok (.mk 10 0 [] [e]) ts
  else if isS ts [33] then adv ts fun ts=>andThen (P n .sign1 (nest+1) ts) fun e ts=>ok (.mk 11 0 [] [e]) ts
  else P n .part nest ts
 |n+1,.part,nest,ts=>andThen (P n .word nest ts) fun e ts=>P n (.partL e) nest ts
 |n+1,.partL e,nest,ts =>
  if isS ts [46] then adv ts fun ts=>match ts with
   |⟨.name s,_⟩::_=>adv ts fun ts=>P n (.partL (.mk 7 0 s [e])) nest ts
   |_=>stop ts
  else if isS ts [91] then andThen (P n (.inside [93]) nest ts) fun x ts=>P n (.partL (.mk 8 0 [] [e,x])) nest ts
  else ok e ts
 |n+1,.inside last,nest,ts=>adv ts fun ts=>andThen (P n .whole (nest+1) ts) fun e ts=>want last ts fun ts=>ok e ts
 |n+1,.word,nest,ts=>match ts with
  |⟨.num k,_⟩::_=>adv ts fun ts=>ok (.mk 4 k [] []) ts
  |⟨.text s,_⟩::_=>adv ts fun ts=>ok (.mk 5 0 s []) ts
  |⟨.name s,_⟩::_=>adv ts fun ts =>
   if qy s≠0 then ok (.mk (qy s) 0 [] []) ts
   else if Zj s≠0∧isS ts [40]=true then andThen (P n (.inside [41]) nest ts) fun e ts=>ok (.mk 9 (Zj s) [] [e]) ts
   else ok (.mk 6 0 s []) ts
  |_=>if isS ts [40] then P n (.inside [41]) nest ts else stop ts
theorem Ns (n nest:Nat) (ts:List T):P (n+1) .word nest ts=(match ts with
  |⟨.num k,_⟩::_=>adv ts fun ts=>ok (.mk 4 k [] []) ts
  |⟨.text s,_⟩::_=>adv ts fun ts=>ok (.mk 5 0 s []) ts
  |⟨.name s,_⟩::_=>adv ts fun ts =>
   if qy s≠0 then ok (.mk (qy s) 0 [] []) ts
   else if Zj s≠0∧isS ts [40]=true then andThen (P n (.inside [41]) nest ts) fun e ts=>ok (.mk 9 (Zj s) [] [e]) ts
   else ok (.mk 6 0 s []) ts
  |_=>if isS ts [40] then P n (.inside [41]) nest ts else stop ts):=by
 match ts with
 |[]=>rfl
 |⟨k,a⟩::r=>cases k<;>rfl
def DA (n:Nat) (ts:List T):Option (Except F Ex):=match ts with
 |⟨.bad c p,_⟩::_=>some (.error (c,p))
 |_=>match P n .whole 1 ts with
  |some (.ok (e,ts))=>if XE ts then some (.ok e) else some (.error (1000,atT ts))
  |some (.error f)=>some (.error f)
  |none=>none
def QJ (s:B):List T:=toks (s.length+1) s 0 0
def qR (op:Int):Option (B×Nat):=match (levels.zipIdx.flatMap fun l=>l.1.map fun p=>(p.2,p.1,l.2+1)).find? fun x=>x.1==op with
 |some x=>some x.2
 |none=>none
def level (op:Int):Nat:=match qR op with
 |some x=>x.2
 |none=>if op=31 then 0 else if op=10∨op=11 then 12 else 13
def qM:Nat→Nat→B
 | 0,_=>[]
 |f+1,n=>if n<10 then [(48+n).toUInt8] else qM f (n / 10)++[(48+n%10).toUInt8]
def digits (n:Nat):B:=qM 20 n
def quoted (s:B):B:=[39]++s.flatMap (fun c=>if c.toNat=39∨c.toNat=92∨c.toNat=125 then [92,c] else if c.toNat=10 then [92,110] else [c])++[39]
def body (op n:Int) (s:B) (ks:List (Nat→B)):B :=
 let k:=fun i l=>(ks.getD i fun _=>[]) l
 match qR op with
 |some (m,l)=>k 0 l++([32]++m++[32])++k 1 (l+1)
 |none =>
  if op=31 then k 0 1++[32,63,32]++k 1 0++[32,58,32]++k 2 0
  else if op=10 then [45]++k 0 12
  else if op=11 then [33]++k 0 12
  else if op=7 then k 0 13++([46]++s)
  else if op=8 then k 0 13++[91]++k 1 0++[93]
  else if op=9 then (calls.getD (n.toNat - 1) []++[40])++k 0 0++[41]
  else if op=4 then digits n.toNat
  else if op=5 then quoted s
  else if op=6 then s
  else if op=1 then [110,117,108,108]
  else if op=2 then [102,97,108,115,101]
  else if op=3 then [116,114,117,101]
  else []
mutual
def put:Ex→Nat→B
 | .mk op n s kids,least =>
  let b:=body op n s (puts kids)
  if level op<least then [40]++b++[41] else b
termination_by structural x=>x
def puts:List Ex→List (Nat→B)
 |[]=>[]
 |e::r=>put e::puts r
termination_by structural x=>x
end
def zZ (op:Int):Int:=if 1≤op∧op≤6 then 0 else if op=7∨op=9∨op=10∨op=11 then 1 else if op=31 then 3 else if op=8∨12≤op∧op≤30 then 2 else -1
def qf (s:B):Bool:=match s with
 |[]=>false
 |c::r=>sml c&&r.all nam&&decide (s.length≤32)
def XG (s:B):Bool:=qI s.length s&&decide (s.length≤4096)
def Ju (s:B):Bool:=XG s&&s.all fun c=>decide (32≤c.toNat)||c.toNat==10
def qo (op n:Int) (s:B) (k:Nat):Bool:=zZ op==k &&
 (if op=4 then decide (0≤n)&&s.isEmpty
 else if op=5 then n==0&&Ju s
 else if op=6 then n==0&&qf s&&qy s==0
 else if op=7 then n==0&&qf s
 else if op=9 then decide (1≤n)&&decide (n≤8)&&s.isEmpty
 else n==0&&s.isEmpty)
mutual
def Ex.all:Ex→Bool
 | .mk op n s kids=>qo op n s kids.length&&Ex.alls kids
termination_by structural x=>x
def Ex.alls:List Ex→Bool
 |[]=>true
 |e::r=>Ex.all e&&Ex.alls r
termination_by structural x=>x
end
mutual
def Ex.size:Ex→Nat
 | .mk _ _ _ kids=>1+Ex.sizes kids
termination_by structural x=>x
def Ex.sizes:List Ex→Nat
 |[]=>0
 |e::r=>Ex.size e+Ex.sizes r
termination_by structural x=>x
end
def may (e:Ex):Bool:=Ex.all e&&decide (Ex.size e≤512)
def JT (e:Ex):Option B:=if may e then some (put e 0) else none
end Go.Abs.X
namespace Go.Abs.X
def Zq:Mode→Nat
 | .whole=>18
 | .two lv=>5+lv.length
 | .sign1=>4
 | .part=>3
 | .partL _=>2
 | .word=>2
 | .inside _=>1
 | .loop _ _ _=>1
def few:Mode→Prop
 | .two lv=>lv.length≤12
 | .loop _ lv _=>lv.length≤12
 |_=>True
def Qh (r:Res) (m:Nat):Prop:=∃x,r=some x∧∀e ts,x = .ok (e,ts)→ts.length≤m
theorem Qh.err {f:F} {m:Nat}:Qh (some (.error f)) m:=⟨_,rfl,fun _ _ h=>by cases h⟩
theorem Qh.ok {e:Ex} {ts:List T} {m:Nat} (h:ts.length≤m):Qh (ok e ts) m:=⟨_,rfl,fun _ _ h'=>by cases h';exact h⟩
theorem Qh.stop {ts:List T} {m:Nat}:Qh (stop ts) m:=.err
theorem Qh.mono {r:Res} {m m':Nat} (h:Qh r m) (hm:m≤m'):Qh r m':=by
 obtain ⟨x,rfl,h2⟩:=h
 exact ⟨x,rfl,fun e ts h=>Nat.le_trans (h2 e ts h) hm⟩
theorem Qh.andThen {r:Res} {k:Ex→List T→Res} {m m':Nat} (h:Qh r m) (hk:∀e ts,ts.length≤m→Qh (k e ts) m'):Qh (andThen r k) m':=by
 obtain ⟨x,rfl,h2⟩:=h
 cases x with
 |error f=>exact .err
 |ok q=>exact hk q.1 q.2 (h2 _ _ rfl)
theorem Qh.adv {ts:List T} {k:List T→Res} {m:Nat} (hk:∀r,r.length+1=ts.length→Qh (k r) m):Qh (adv ts k) m:=by
 unfold X.adv
 split
 ·split
  ·exact .err
  ·exact hk _ rfl
 ·exact .err
theorem Qh.want {s:B} {ts:List T} {k:List T→Res} {m:Nat} (hk:∀r,r.length+1=ts.length→Qh (k r) m):Qh (want s ts k) m:=by
 unfold X.want
 split
 ·exact .adv hk
 ·exact .stop
theorem Qh.ite {c:Prop} [Decidable c] {a b:Res} {m:Nat} (h1:Qh a m) (h2:Qh b m):Qh (if c then a else b) m:=by split<;>assumption
def left (mo:Mode) (m:Nat):Nat:=match mo with
 | .inside _=>m - 1
 |_=>m
theorem zaE {ts:List T} {s:B} (h:isS ts s=true):1≤ts.length:=by
 cases ts with
 |nil=>simp [isS] at h
 |cons t r=>simp
theorem zav:∀(n:Nat) (mo:Mode) (nest:Nat) (ts:List T),few mo→20*ts.length+Zq mo<n→Qh (P n mo nest ts) (left mo ts.length):=by
 intro n
 induction n with
 |zero=>intro mo nest ts _ h;omega
 |succ n ih =>
  intro mo nest ts hm h
  have go:∀(mo:Mode) (nest:Nat) (ts:List T) (m:Nat),few mo→20*ts.length+Zq mo<n→ts.length≤m→Qh (P n mo nest ts) m:=by
   intro mo nest ts m h1 h2 h3
   refine (ih mo nest ts h1 h2).mono (Nat.le_trans ?_ h3)
   cases mo<;>simp only [left]<;>omega
  cases mo with
  |two lv =>
   simp only [left]
   cases lv with
   |nil=>simp only [P];exact go .sign1 _ _ _ trivial (by simp only [Zq,List.length_nil] at h ⊢;omega) (Nat.le_refl _)
   |cons l lv =>
    simp only [few,List.length_cons] at hm
    simp only [Zq,List.length_cons] at h
    simp only [P]
    exact (go (.two lv) nest ts _ (by simp only [few];omega) (by simp only [Zq];omega) (Nat.le_refl _)).andThen fun e ts' h'=>go (.loop l lv e) _ _ _ (by simp only [few];omega) (by simp only [Zq];omega) h'
  |loop l lv e =>
   simp only [left]
   simp only [few] at hm
   simp only [Zq] at h
   simp only [P]
   split
   ·exact .ok (Nat.le_refl _)
   ·refine .adv fun r hr=>(go (.two lv) _ _ _ (by simp only [few];omega) (by simp only [Zq];omega) (Nat.le_refl _)).andThen fun e ts' h'=>go (.loop l lv _) _ _ _ (by simp only [few];omega) (by simp only [Zq];omega) (by omega)
  |whole =>
   simp only [left]
   simp only [Zq] at h
   simp only [P]
   refine (go (.two levels) nest ts _ (by simp only [few];decide) (by simp only [Zq];have:levels.length=11:=rfl;omega) (Nat.le_refl _)).andThen fun e ts' h'=>.ite (.adv fun r hr=>(go .whole _ _ _ trivial (by simp only [Zq];omega) (Nat.le_refl _)).andThen fun a ts2 h2=>.want fun r2 hr2=>(go .whole _ _ _ trivial (by simp only [Zq];omega) (Nat.le_refl _)).andThen fun b ts3 h3=>.ok (by omega)) (.ok h')
  |sign1 =>
   simp only [left]
   simp only [Zq] at h
   simp only [P]
   refine .ite .err (.ite (.adv fun r hr=>(go .sign1 _ _ _ trivial (by simp only [Zq];omega) (Nat.le_refl _)).andThen fun a ts2 h2=>.ok (by omega)) (.ite (.adv fun r hr=>(go .sign1 _ _ _ trivial (by simp only [Zq];omega) (Nat.le_refl _)).andThen fun a ts2 h2=>.ok (by omega)) (go .part _ _ _ trivial (by simp only [Zq];omega) (Nat.le_refl _))))
  |part =>
   simp only [left]
   simp only [Zq] at h
   simp only [P]
   exact (go .word nest ts _ trivial (by simp only [Zq];omega) (Nat.le_refl _)).andThen fun a ts2 h2=>go (.partL a) _ _ _ trivial (by simp only [Zq];omega) h2
  |partL e =>
   simp only [left]
   simp only [Zq] at h
   simp only [P]
   refine .ite (.adv fun r hr=>?_) ?_
   ·split
    ·exact .adv fun r2 hr2=>go (.partL _) _ _ _ trivial (by simp only [Zq];omega) (by omega)
    ·exact .stop
   ·split
    ·rename_i hs
     have h1:=zaE hs
     refine (ih (.inside [93]) nest ts trivial (by simp only [Zq];omega)).andThen fun a ts2 h2=>?_
     simp only [left] at h2
     exact go (.partL _) _ _ _ trivial (by simp only [Zq];omega) (by omega)
    ·exact .ok (Nat.le_refl _)
  |word =>
   simp only [left]
   simp only [Zq] at h
   simp only [P]
   split
   ·exact .adv fun r hr=>.ok (by omega)
   ·exact .adv fun r hr=>.ok (by omega)
   ·refine .adv fun r hr=>.ite (.ok (by omega)) (.ite ((go (.inside [41]) _ _ _ trivial (by simp only [Zq];omega) (Nat.le_refl _)).andThen fun a ts2 h2=>.ok (by omega)) (.ok (by omega)))
   ·exact .ite (go (.inside [41]) _ _ _ trivial (by simp only [Zq];omega) (Nat.le_refl _)) .stop
  |inside last =>
   simp only [left]
   simp only [Zq] at h
   simp only [P]
   exact .adv fun r hr=>(go .whole _ _ _ trivial (by simp only [Zq];omega) (Nat.le_refl _)).andThen fun a ts2 h2=>.want fun r2 hr2=>.ok (by omega)
end Go.Abs.X
namespace Go.Abs.X
def Le (r r':Res):Prop:=∀x,r=some x→r'=some x
theorem Le.rfl {r:Res}:Le r r:=fun _ h=>h
theorem Le.andThen {r r':Res} {k k':Ex→List T→Res} (h:Le r r') (hk:∀e ts,Le (k e ts) (k' e ts)):Le (andThen r k) (andThen r' k'):=by
 intro x hx
 unfold X.andThen at hx ⊢
 cases r with
 |none=>simp at hx
 |some q =>
  rw [h q (by rfl)]
  cases q with
  |error f=>exact hx
  |ok q=>exact hk _ _ x hx
theorem Le.adv {ts:List T} {k k':List T→Res} (hk:∀r,Le (k r) (k' r)):Le (adv ts k) (adv ts k'):=by
 unfold X.adv
 split
 ·split
  ·exact .rfl
  ·exact hk _
 ·exact .rfl
theorem Le.want {s:B} {ts:List T} {k k':List T→Res} (hk:∀r,Le (k r) (k' r)):Le (want s ts k) (want s ts k'):=by
 unfold X.want
 split
 ·exact .adv hk
 ·exact .rfl
theorem Le.ite {c:Prop} [Decidable c] {a b a' b':Res} (h1:Le a a') (h2:Le b b'):Le (if c then a else b) (if c then a' else b'):=by split<;>assumption
end Go.Abs.X
namespace Go.Abs.X
mutual
def Ex.fine:Ex→Bool
 | .mk op n s k=>(qo op n s k.length&&decide (n≤9223372036854775807))&&Ex.fines k
termination_by structural x=>x
def Ex.fines:List Ex→Bool
 |[]=>true
 |e::r=>Ex.fine e&&Ex.fines r
termination_by structural x=>x
end
def zb0 (L:Nat) (t:T):Prop:=t.at'≤L∧match t.k with
 | .num n=>n≤9223372036854775807
 | .text s=>Ju s=true
 | .name s=>qf s=true
 | .sign _=>True
 | .fin=>True
 | .bad c p=>p≤L
def jD (L:Nat) (ts:List T):Prop:=∀t ∈ ts,zb0 L t
theorem jD.tail {L:Nat} {t:T} {ts:List T} (h:jD L (t::ts)):jD L ts:=fun x hx=>h x (List.mem_cons_of_mem _ hx)
theorem jD.at {L:Nat} {ts:List T} (h:jD L ts):atT ts≤L:=by
 cases ts with
 |nil=>exact Nat.zero_le _
 |cons t r=>exact (h t List.mem_cons_self).1
def Inv (L m:Nat) (r:Res):Prop:=∀x,r=some x→match x with
 | .ok (e,ts)=>Ex.fine e=true∧Ex.size e+ts.length≤m∧jD L ts
 | .error (c,p)=>p≤L
section
variable {L m m':Nat} {r:Res} {ts:List T}
theorem Inv.err {c:Int} {p:Nat} (h:p≤L):Inv L m (some (.error (c,p))):=fun x hx=>by cases hx;exact h
theorem Inv.stop (h:jD L ts):Inv L m (stop ts):=.err h.at
theorem Inv.ok {e:Ex} (h1:Ex.fine e=true) (h2:Ex.size e+ts.length≤m) (h3:jD L ts):Inv L m (ok e ts):=fun x hx=>by cases hx;exact ⟨h1,h2,h3⟩
theorem Inv.mono (h:Inv L m r) (hm:m≤m'):Inv L m' r:=fun x hx=>by
 have:=h x hx
 match x,this with
 | .ok (e,ts),⟨h1,h2,h3⟩=>exact ⟨h1,Nat.le_trans h2 hm,h3⟩
 | .error (c,p),h=>exact h
theorem Inv.andThen {k:Ex→List T→Res} (h:Inv L m r) (hk:∀e ts,Ex.fine e=true→Ex.size e+ts.length≤m→jD L ts→Inv L m' (k e ts)):Inv L m' (andThen r k):=by
 unfold X.andThen
 match r,h with
 |none,h=>intro x hx;cases hx
 |some (.ok (e,ts)),h=>obtain ⟨h1,h2,h3⟩:=h _ rfl;exact hk e ts h1 h2 h3
 |some (.error (c,p)),h=>exact .err (h _ rfl)
theorem Inv.adv {k:List T→Res} (ht:jD L ts) (hk:∀r,r.length+1=ts.length→jD L r→Inv L m (k r)):Inv L m (adv ts k):=by
 unfold X.adv
 match ts,ht with
 |[],_=>exact .err (Nat.zero_le _)
 |[_],_=>exact .err (Nat.zero_le _)
 |t::u::r,ht =>
  dsimp only
  split
  ·rename_i c p a;exact .err (ht ⟨.bad c p,a⟩ (by simp)).2
  ·exact hk _ rfl ht.tail
theorem Inv.want {s:B} {k:List T→Res} (ht:jD L ts) (hk:∀r,r.length+1=ts.length→jD L r→Inv L m (k r)):Inv L m (want s ts k):=by
 unfold X.want
 split
 ·exact .adv ht hk
 ·exact .stop ht
theorem Inv.ite {c:Prop} [Decidable c] {a b:Res} (h1:c→Inv L m a) (h2:¬c→Inv L m b):Inv L m (if c then a else b):=by
 split
 ·rename_i h;exact h1 h
 ·rename_i h;exact h2 h
end
theorem jp (op n:Int) (s:B) (k:List Ex):Ex.size (.mk op n s k)=1+Ex.sizes k:=rfl
theorem qh (e:Ex) (k:List Ex):Ex.sizes (e::k)=Ex.size e+Ex.sizes k:=rfl
theorem qp:Ex.sizes []=0:=rfl
theorem Zd (op n:Int) (s:B) (k:List Ex):Ex.fine (.mk op n s k)=((qo op n s k.length&&decide (n≤9223372036854775807))&&Ex.fines k):=rfl
theorem qT (e:Ex) (k:List Ex):Ex.fines (e::k)=(Ex.fine e&&Ex.fines k):=rfl
theorem Zf:Ex.fines []=true:=rfl
def Es (l:List (B×Int)):Prop:=∀p ∈ l,12≤p.2∧p.2≤30
def CX (lv:List (List (B×Int))):Prop:=∀l ∈ lv,Es l
theorem YC:CX levels:=by unfold CX Es;decide
theorem EF {op:Int} (h:12≤op∧op≤30):qo op 0 [] 2=true:=by
 have:op=12∨op=13∨op=14∨op=15∨op=16∨op=17∨op=18∨op=19∨op=20∨op=21∨op=22∨op=23∨op=24∨op=25∨op=26∨op=27∨op=28∨op=29∨op=30:=by omega
 rcases this with h | h | h | h | h | h | h | h | h | h | h | h | h | h | h | h | h | h | h<;>subst h<;>rfl
theorem EL {s:B} (h:qy s≠0):qo (qy s) 0 [] 0=true:=by
 unfold qy at h ⊢
 split
 ·rfl
 ·rename_i h1
  rw [if_neg h1] at h
  split
  ·rfl
  ·rename_i h2
   rw [if_neg h2] at h
   split
   ·rfl
   ·rename_i h3;rw [if_neg h3] at h;exact absurd rfl h
theorem Fu (s:B):Zj s≤8:=by
 unfold Zj
 split
 ·rename_i i h
  have:=(List.findIdx?_eq_some_iff_getElem.1 h).1
  have hl:calls.length=8:=rfl
  omega
 ·omega
def WN:Mode→Prop
 | .two lv=>CX lv
 | .loop l lv e=>Es l∧CX lv∧Ex.fine e=true
 | .partL e=>Ex.fine e=true
 |_=>True
def Wf:Mode→Nat
 | .loop _ _ e=>Ex.size e
 | .partL e=>Ex.size e
 |_=>0
def bnd (mo:Mode) (n:Nat):Nat:=match mo with
 | .inside _=>n - 1
 | .loop _ _ e=>Ex.size e+n
 | .partL e=>Ex.size e+n
 |_=>n
theorem XZ (e:Ex):1≤Ex.size e:=by cases e;simp only [jp];omega
theorem zbj (L:Nat):∀(n:Nat) (mo:Mode) (nest:Nat) (ts:List T),WN mo→jD L ts→Inv L (bnd mo ts.length) (P n mo nest ts):=by
 intro n
 induction n with
 |zero=>intro mo nest ts _ _ x hx;simp [P] at hx
 |succ n ih =>
  intro mo nest ts hm ht
  have go:∀(mo:Mode) (nest:Nat) (ts:List T) (m:Nat),WN mo→jD L ts→Wf mo+ts.length≤m→Inv L m (P n mo nest ts):=fun mo nest ts m h1 h2 h3=>(ih mo nest ts h1 h2).mono (Nat.le_trans (by cases mo<;>simp only [bnd,Wf]<;>omega) h3)
  have g0:∀(mo:Mode) (nest:Nat) (ts:List T),WN mo→jD L ts→Wf mo=0→Inv L ts.length (P n mo nest ts):=fun mo nest ts h1 h2 h3=>go mo nest ts _ h1 h2 (by omega)
  cases mo with
  |two lv =>
   simp only [bnd]
   cases lv with
   |nil=>simp only [P];exact go .sign1 _ _ _ trivial ht (by simp [Wf])
   |cons l lv =>
    have h1:CX lv:=fun x hx=>hm x (List.mem_cons_of_mem _ hx)
    have h2:Es l:=hm l List.mem_cons_self
    simp only [P]
    exact (g0 (.two lv) _ _ h1 ht rfl).andThen fun e ts' h4 h5 h6=>go (.loop l lv e) _ _ _ ⟨h2,h1,h4⟩ h6 h5
  |loop l lv e =>
   obtain ⟨h1,h2,h3⟩:=hm
   simp only [bnd]
   simp only [P]
   split
   ·exact .ok h3 (Nat.le_refl _) ht
   ·rename_i p hp
    have h4:=h1 p (List.mem_of_find?_eq_some hp)
    refine .adv ht fun r hr hr2=>(g0 (.two lv) _ _ h2 hr2 rfl).andThen fun x ts' h5 h6 h7=>go (.loop l lv _) _ _ _ ⟨h1,h2,?_⟩ h7 ?_
    ·simp only [Zd,qT,Zf,h3,h5,Bool.and_true];exact (by rw [Bool.and_eq_true];exact ⟨EF h4,rfl⟩)
    ·simp only [Wf,jp,qh,qp];omega
  |whole =>
   simp only [bnd]
   simp only [P]
   refine (g0 (.two levels) _ _ YC ht rfl).andThen fun e ts' h1 h2 h3=>.ite (fun _=>.adv h3 fun r hr hr2=>(g0 .whole _ _ trivial hr2 rfl).andThen fun a ts2 h4 h5 h6=>.want h6 fun r2 hr3 hr4=>(g0 .whole _ _ trivial hr4 rfl).andThen fun b ts3 h7 h8 h9=>.ok ?_ ?_ h9) (fun _=>.ok h1 h2 h3)
   ·simp only [Zd,qT,Zf,h1,h4,h7,Bool.and_true];rfl
   ·simp only [jp,qh,qp];omega
  |sign1 =>
   simp only [bnd]
   simp only [P]
   refine .ite (fun _=>.err ht.at) (fun _=>.ite (fun _=>.adv ht fun r hr hr2=>(g0 .sign1 _ _ trivial hr2 rfl).andThen fun a ts2 h4 h5 h6=>.ok ?_ ?_ h6) (fun _=>.ite (fun _=>.adv ht fun r hr hr2=>(g0 .sign1 _ _ trivial hr2 rfl).andThen fun a ts2 h4 h5 h6=>.ok ?_ ?_ h6) (fun _=>go .part _ _ _ trivial ht (by simp only [Wf];omega))))
   all_goals first
    |(simp only [Zd,qT,Zf,h4,Bool.and_true];rfl)
    |(simp only [jp,qh,qp];omega)
  |part =>
   simp only [bnd]
   simp only [P]
   exact (g0 .word _ _ trivial ht rfl).andThen fun a ts2 h1 h2 h3=>go (.partL a) _ _ _ h1 h3 h2
  |partL e =>
   simp only [bnd]
   simp only [WN] at hm
   simp only [P]
   refine .ite (fun _=>.adv ht fun r hr hr2=>?_) (fun _=>.ite (fun _=>(ih (.inside [93]) nest ts trivial ht).andThen fun x ts2 h4 h5 h6=>go (.partL _) _ _ _ ?_ h6 ?_) (fun _=>.ok hm (Nat.le_refl _) ht))
   ·split
    ·rename_i s a tl
     have hs:qf s=true:=(hr2 _ List.mem_cons_self).2
     refine .adv hr2 fun r2 hr3 hr4=>go (.partL _) _ _ _ ?_ hr4 ?_
     ·simp only [WN,Zd,qT,Zf,hm,Bool.and_true]
      unfold qo
      simp [hs,zZ]
     ·simp only [Wf,jp,qh,qp];omega
    ·exact .stop hr2
   ·simp only [WN,Zd,qT,Zf,hm,h4,Bool.and_true];rfl
   ·have:=XZ x
    simp only [bnd] at h5 ⊢
    simp only [Wf,jp,qh,qp]
    omega
  |word =>
   simp only [bnd]
   simp only [Ns]
   split
   ·rename_i k a tl
    have hk:k≤9223372036854775807:=(ht _ List.mem_cons_self).2
    refine .adv ht fun r hr hr2=>.ok ?_ ?_ hr2
    ·simp [Zd,Zf,qo,zZ];omega
    ·simp only [jp,qp];omega
   ·rename_i s a tl
    have hs:Ju s=true:=(ht _ List.mem_cons_self).2
    refine .adv ht fun r hr hr2=>.ok ?_ ?_ hr2
    ·simp [Zd,Zf,qo,zZ,hs]
    ·simp only [jp,qp];omega
   ·rename_i s a tl
    have hs:qf s=true:=(ht _ List.mem_cons_self).2
    refine .adv ht fun r hr hr2=>.ite (fun hl=>.ok ?_ ?_ hr2) fun hl=>.ite (fun hc=>(g0 (.inside [41]) _ _ trivial hr2 rfl).andThen fun x ts2 h4 h5 h6=>.ok ?_ ?_ h6) fun hc=>.ok ?_ ?_ hr2
    ·simp only [Zd,Zf,Bool.and_true];exact (by rw [Bool.and_eq_true];exact ⟨EL hl,rfl⟩)
    ·simp only [jp,qp];omega
    ·simp only [Zd,qT,Zf,h4,Bool.and_true]
     have:=Fu s
     unfold qo
     simp [zZ];omega
    ·simp only [jp,qh,qp];omega
    ·have hl':qy s=0:=by simpa using hl
     simp [Zd,Zf,qo,zZ,hs,hl']
    ·simp only [jp,qp];omega
   ·exact .ite (fun _=>go (.inside [41]) _ _ _ trivial ht (by simp only [Wf];omega)) fun _=>.stop ht
  |inside last =>
   simp only [bnd]
   simp only [P]
   exact .adv ht fun r hr hr2=>(g0 .whole _ _ trivial hr2 rfl).andThen fun a ts2 h1 h2 h3=>.want h3 fun r2 hr3 hr4=>.ok h1 (by omega) hr4
end Go.Abs.X
namespace Go.Abs
open Go Go.Proofs Go.IntWalk Go.Abs.X
def LY (s:B) (c:UInt8):Int:=match s.findIdx? (fun b=>b==c) with | some i=>(i:Int) | none=>-1
theorem Gk (c:UInt8):((c.toNat:Int).toNat).toUInt8=c:=by
 apply UInt8.toNat_inj.1
 have:=c.toNat_lt
 simp [Nat.toUInt8,UInt8.toNat_ofNat]
theorem Xx (st:St) (s:B) (c:UInt8):cw 33 [.str s,.int .u8 (c.toNat:Int)] st=some (.ret (.int .i64 (LY s c)),st):=by
 have h1:cw 67 [.str s,.int .u8 (c.toNat:Int)] st=some (.ret (.int .i64 (LY s c)),st):=by
  refine F67 _ _ _ ?_
  simp only [ZN,Gk,bind_some,zk,zx]
  rfl
 refine F33 _ _ _ ?_
 simp only [h1,zi,zk,bind_some,zx]
theorem Lc (st:St) (s p:B) (hl:s.length<1000000000000):cw 75 [.str s,.str p] st=some (.ret (.bool (p.isPrefixOf s)),st):=by
 have h1:cw 96 [.str s,.str p] st=some (.ret (.bool (p.isPrefixOf s)),st):=by
  refine F96 _ _ _ ?_
  by_cases h:p.length≤s.length
  ·have:decide ((s.length:Int)≥(p.length:Int))=true:=decide_eq_true (by omega)
   rw [this,cond_true,zah h]
   simp only [bind_some,zr,qr,zp,zx]
   congr 4
   rw [Bool.eq_iff_iff,List.isPrefixOf_iff_prefix,beq_iff_eq,List.prefix_iff_eq_take]
   exact ⟨fun h=>h.symm,fun h=>h.symm⟩
  ·have:decide ((s.length:Int)≥(p.length:Int))=false:=decide_eq_false (by omega)
   rw [this,cond_false,zx]
   have h2:p.isPrefixOf s=false:=by
    cases hp:p.isPrefixOf s with
    |false=>rfl
    |true=>exact absurd (List.isPrefixOf_iff_prefix.1 hp).length_le h
   rw [h2]
 refine F75 _ _ _ ?_
 simp only [h1,zi,zp,bind_some,zx]
theorem ja (st:St) (s:B):cw 55 [.str s] st=some (.ret (.int .i64 (qy s)),st):=by
 refine F55 _ _ ?_
 have e1:[ofNat 110,ofNat 117,ofNat 108,ofNat 108]=([110,117,108,108]:B):=rfl
 have e2:[ofNat 102,ofNat 97,ofNat 108,ofNat 115,ofNat 101]=([102,97,108,115,101]:B):=rfl
 have e3:[ofNat 116,ofNat 114,ofNat 117,ofNat 101]=([116,114,117,101]:B):=rfl
 simp only [e1,e2,e3,qr,bind_some,zp,zx,Bool.cond_eq_ite,beq_iff_eq]
 unfold qy
 repeat' split
 all_goals rfl
theorem DX (st:St) (op:Int):cw 50 [.int .i64 op] st=some (.ret (.int .i64 (zZ op)),st):=by
 refine F50 _ _ ?_
 simp only [zx,Bool.cond_eq_ite,decide_eq_true_eq,beq_iff_eq]
 unfold zZ
 repeat' split
 all_goals first | rfl | omega
theorem Ds (st:St) (s:B) (x:UInt8) (hl:s.length<1000000000000):∀(r:B) (i:Nat),s.drop i=r→i≤s.length →
  aw 86 st.length Vi ⟨[(0,.str s),(1,.int .u8 (x.toNat:Int)),(9,.int .i64 (s.length:Int)),(10,.int .i64 (i:Int))],[]⟩ st
   = some (.ret (.bool ((match i,r with | 0,c::r=>sml c&&r.all fun c=>sml c||dig c||c==x | _,r=>r.all fun c=>sml c||dig c||c==x)&&decide (0<s.length)&&decide (s.length≤32))),st):=by
 intro r
 induction r with
 |nil =>
  intro i hd hi
  have:=jw hd
  refine IQ _ _ _ _ _ _ ?_
  have e:decide ((i:Int)<(s.length:Int))=false:=decide_eq_false (by omega)
  rw [e,cond_false]
  by_cases h0:0<s.length
  ·have e2:decide ((s.length:Int)>0)=true:=decide_eq_true (by omega)
   rw [e2,cond_true,zx]
   simp [h0]
   cases i<;>omega
  ·have e2:decide ((s.length:Int)>0)=false:=decide_eq_false (by omega)
   rw [e2,cond_false,zx]
   simp [h0]
 |cons c r ih =>
  intro i hd hi
  obtain ⟨g,hd2,hlt⟩:=qa hd
  refine IQ _ _ _ _ _ _ ?_
  have e:decide ((i:Int)<(s.length:Int))=true:=decide_eq_true (by omega)
  have hrec:=ih (i+1) hd2 (by omega)
  have hm:∀{β:Type} (a b:β),(match i+1,r with | 0,_::_=>a | _,_=>b)=b:=fun a b=>rfl
  rw [e,cond_true]
  simp only [zO,bind_some,jH g,e1i (show i<1000000000000 by omega),hrec,zx,Bool.cond_eq_ite,Bool.not_eq_true',decide_eq_true_eq,decide_eq_false_iff_not,beq_iff_eq,bne_iff_ne]
  have hx:((c.toNat:Int)=(x.toNat:Int))↔c=x:=by rw [LE];omega
  have h0:((i:Int)=0)↔i=0:=by omega
  have hc:=c.toNat_lt
  simp only [ne_eq,hx,h0]
  cases i with
  |zero =>
   simp only [sml,dig]
   by_cases hs1:(c.toNat:Int)≥97
   ·by_cases hs2:(c.toNat:Int)≤122
    ·have a1:97≤c.toNat:=by omega
     have a2:c.toNat≤122:=by omega
     simp [hs1,hs2,a1,a2]
    ·have a2:¬c.toNat≤122:=by omega
     simp [hs1,hs2,a2]
   ·have a1:¬97≤c.toNat:=by omega
    simp [hs1,a1]
  |succ i =>
   simp only [List.all_cons,sml,dig]
   by_cases hs1:97≤c.toNat
   ·by_cases hs2:c.toNat≤122
    ·have a1:(c.toNat:Int)≥97:=by omega
     have a2:(c.toNat:Int)≤122:=by omega
     simp [hs1,hs2,a1,a2]
    ·have a1:(c.toNat:Int)≥97:=by omega
     have a2:¬(c.toNat:Int)≤122:=by omega
     have a3:¬c.toNat≤57:=by omega
     have a4:(c.toNat:Int)>57:=by omega
     have a5:¬(c.toNat:Int)<48:=by omega
     by_cases hcx:c=x
     ·simp [hs1,hs2,a1,a2,hcx]
     ·simp [hs1,hs2,a1,a2,hcx,a3,a4,a5]
   ·have a1:¬(c.toNat:Int)≥97:=by omega
    by_cases hcx:c=x
    ·simp [hs1,a1,hcx]
    ·by_cases hd1:48≤c.toNat
     ·by_cases hd2:c.toNat≤57
      ·have b1:¬(c.toNat:Int)<48:=by omega
       have b2:¬(c.toNat:Int)>57:=by omega
       simp [hs1,a1,hcx,hd1,hd2,b1,b2]
      ·have b1:¬(c.toNat:Int)<48:=by omega
       have b2:(c.toNat:Int)>57:=by omega
       simp [hs1,a1,hcx,hd1,hd2,b1,b2]
     ·have b1:(c.toNat:Int)<48:=by omega
      simp [hs1,a1,hcx,hd1,b1]
theorem Ql (st:St) (s:B) (hl:s.length<1000000000000):cw 54 [.str s] st=some (.ret (.bool (qf s)),st):=by
 have h1:cw 86 [.str s,.int .u8 (95:Int)] st=some (.ret (.bool (qf s)),st):=by
  refine F86 _ _ _ ?_
  have:=Ds st s 95 hl s 0 rfl (Nat.zero_le _)
  rw [show (((95:UInt8).toNat:Nat):Int)=95 from rfl] at this
  rw [show ((0:Nat):Int)=0 from rfl] at this
  rw [this]
  unfold qf
  cases s with
  |nil=>simp
  |cons c r =>
   have hn:∀c:UInt8,nam c=(sml c||dig c||c==95):=fun c=>by
    unfold nam
    have:(c.toNat==95)=(c==95):=by rw [Bool.eq_iff_iff,beq_iff_eq,beq_iff_eq,LE];rfl
    rw [this,Bool.or_comm (dig c) (sml c)]
   have:nam=fun c=>sml c||dig c||c==95:=funext hn
   simp [this]
 refine F54 _ _ ?_
 simp only [h1,zi,zp,bind_some,zx]
end Go.Abs
namespace Go.Abs
open Go Go.Proofs Go.IntWalk Go.Abs.X
def sp (n:Nat):Bool:=n==32||(decide (9≤n)&&decide (n≤13))
def spI (n:Nat):Int:=if sp n then 1 else 0
set_option maxRecDepth 100000 in
theorem zaP:YH=(List.range 256).map fun n=>.int .u8 (spI n):=by kernel_rfl
theorem JZ {n:Nat} (hn:n<256) {st:St}:zf st (.ip YH (0+n*1)) 1 false=some (.int .u8 (spI n)):=by
 rw [zaP]
 simp only [Zx,zj,Nat.zero_add,Nat.mul_one]
 simp [hn]
def word (f:B):Prop:=f≠[]∧∀c ∈ f,sp c.toNat=false∧c.toNat<128
def jW:List B→B
 |[]=>[]
 |[f]=>f
 |f::r=>f++32::jW r
def JX:B→Bool→Nat
 |[],_=>0
 |c::r,was=>if sp c.toNat then JX r true else (if was then 1 else 0)+JX r false
theorem Wx:∀(f r:B),(∀c ∈ f,sp c.toNat=false)→JX (f++r) false=JX r false
 |[],r,_=>rfl
 |c::f,r,h=>by
  rw [List.cons_append,JX,if_neg (by simp [h c (by simp)])]
  simp [Wx f r fun c hc=>h c (by simp [hc])]
theorem Xo:∀(fs:List B),(∀f ∈ fs,word f)→JX (jW fs) true=fs.length
 |[],_=>rfl
 |[f],h=>by
  obtain ⟨h1,h2⟩:=h f (by simp)
  match f,h1 with
  |c::f,_ =>
   simp only [jW]
   rw [JX,if_neg (by simp [(h2 c (by simp)).1])]
   have:=Wx f [] fun c hc=>(h2 c (by simp [hc])).1
   simp at this
   simp [this,JX]
 |f::g::r,h=>by
  obtain ⟨h1,h2⟩:=h f (by simp)
  match f,h1 with
  |c::f,_ =>
   simp only [jW]
   rw [List.cons_append,JX,if_neg (by simp [(h2 c (by simp)).1]),Wx f _ fun c hc=>(h2 c (by simp [hc])).1,JX,if_pos (show sp (32:UInt8).toNat=true from by decide)]
   have:=Xo (g::r) fun f hf=>h f (by simp only [List.mem_cons] at hf ⊢;exact .inr hf)
   rw [this]
   simp only [List.length_cons,if_true];omega
theorem WX:∀(fs:List B),(∀f ∈ fs,word f)→∀c ∈ jW fs,c.toNat<128
 |[],_=>by simp [jW]
 |[f],h=>fun c hc=>((h f (by simp)).2 c hc).2
 |f::g::r,h=>fun c hc=>by
  simp only [jW,List.mem_append,List.mem_cons] at hc
  rcases hc with hc | rfl | hc
  ·exact ((h f (by simp)).2 c hc).2
  ·decide
  ·exact WX (g::r) (fun f hf=>h f (by simp only [List.mem_cons] at hf ⊢;exact .inr hf)) c hc
theorem CO (b:Bool) (n:Nat):bits .and .i64 (if b then 1 else 0) (bits .xor .i64 (-1) (IntKind.i64.wrap (spI n)))=if b && !sp n then 1 else 0:=by
 unfold spI
 cases b<;>cases sp n<;>decide +kernel
theorem zbv (a b:Nat) (ha:a<128) (hb:b<128):∃c:Nat,c<128∧bits .or .u8 (a:Int) (b:Int)=(c:Int):=by
 refine ⟨a ||| b,Nat.or_lt_two_pow (n:=7) ha hb,?_⟩
 have:∀(a b:Fin 128),bits .or .u8 (a.val:Int) (b.val:Int)=((a.val ||| b.val:Nat):Int):=by decide +kernel
 exact this ⟨a,ha⟩ ⟨b,hb⟩
section
variable (st:St) (s:B) (hl:s.length<1000000000)
include hl
theorem zbK {R:zd×St}:∀(r:B) (i n:Nat) (was:Bool) (bs:Nat),s.drop i=r→(∀c ∈ r,c.toNat<128)→bs<128→n+r.length<1000000000 →
  aw 84 st.length DK ⟨[(0,.str s),(9,.ms st.length 0 0 (n+JX r was) (n+JX r was)),(10,.int .i64 0),(12,.int .i64 0)],[]⟩ (.rows 1 0 (List.replicate (n+JX r was) [.str []])::st)=some R →
  aw 84 st.length DF ⟨[(0,.str s),(3,.int .i64 (n:Int)),(4,.int .i64 (if was then 1 else 0)),(5,.int .u8 (bs:Int)),(6,.int .i64 (i:Int))],[]⟩ st=some R:=by
 intro r
 induction r with
 |nil =>
  intro i n was bs hd ha hb hn h
  have:=jw hd
  refine za0 _ _ _ _ _ _ _ ?_
  have e:decide ((i:Int)<(s.length:Int))=false:=decide_eq_false (by omega)
  have e2:decide ((bs:Int)≥128)=false:=decide_eq_false (by omega)
  simp only [JX,Nat.add_zero,List.length_nil] at h hn
  have e3:Ui st none 16 1 [AV.str []] (.int .i64 (n:Int)) (.int .i64 (n:Int))=some (.ms st.length 0 0 n n,.rows 1 0 (List.replicate n [.str []])::st):=by
   unfold Ui
   dsimp only
   rw [if_pos ⟨by omega,by omega,by simp [qe];omega,by simp [qe];omega⟩]
   simp
  simp only [e,e2,cond_false,e3,qc]
  exact h
 |cons c r ih =>
  intro i n was bs hd ha hb hn h
  obtain ⟨g,hd2,hlt⟩:=qa hd
  refine za0 _ _ _ _ _ _ _ ?_
  have e:decide ((i:Int)<(s.length:Int))=true:=decide_eq_true (by omega)
  have hc:=ha c (by simp)
  obtain ⟨bs',h1,h2⟩:=zbv bs c.toNat hb hc
  simp only [e,cond_true,zO,bind_some,jH g]
  rw [if_pos (by omega),JZ (by omega)]
  simp only [bind_some,zk,CO,h2,e1i (show i<1000000000000 by omega)]
  have e4:IntKind.i64.wrap (spI c.toNat)=(if sp c.toNat then 1 else 0):=by unfold spI;cases sp c.toNat<;>decide +kernel
  simp only [List.length_cons] at hn
  have e5:IntKind.i64.wrap ((n:Int)+(if was && !sp c.toNat then 1 else 0))=((n+(if was && !sp c.toNat then 1 else 0):Nat):Int):=by
   rw [i64_in _ (by split<;>omega)];split<;>simp
  rw [e4,e5]
  refine ih (i+1) _ (sp c.toNat) bs' hd2 (fun c hc=>ha c (by simp [hc])) h1 (by split<;>omega) ?_
  rw [JX] at h
  cases hs:sp c.toNat with
  |true=>simp only [hs,if_true,Bool.not_true,Bool.and_false,Bool.false_eq_true,if_false,Nat.add_zero] at h ⊢;exact h
  |false =>
   simp only [hs,Bool.false_eq_true,if_false,Bool.not_false,Bool.and_true] at h ⊢
   rw [Nat.add_assoc];exact h
theorem zbu {R:zd×St} {S:St} {a:AV} {na q:Int}:∀(f r:B) (i:Nat),s.drop i=f++r→(∀c ∈ f,sp c.toNat=false∧c.toNat<128) →
  aw 84 st.length XK ⟨[(0,.str s),(9,a),(10,.int .i64 na),(11,.int .i64 q),(12,.int .i64 ((i+f.length:Nat):Int))],[]⟩ S=some R →
  aw 84 st.length XK ⟨[(0,.str s),(9,a),(10,.int .i64 na),(11,.int .i64 q),(12,.int .i64 (i:Int))],[]⟩ S=some R:=by
 intro f
 induction f with
 |nil=>intro r i hd ha h;exact h
 |cons c f ih =>
  intro r i hd ha h
  obtain ⟨g,hd2,hlt⟩:=qa hd
  refine CC _ _ _ _ _ _ _ ?_
  have e:decide ((i:Int)<(s.length:Int))=true:=decide_eq_true (by omega)
  obtain ⟨hc1,hc⟩:=ha c (by simp)
  simp only [e,cond_true,zO,bind_some,jH g]
  rw [if_pos (by omega),JZ (by omega)]
  have:spI c.toNat=0:=by unfold spI;simp [hc1]
  simp only [bind_some,zk,this,beq_self_eq_true,cond_true,e1i (show i<1000000000000 by omega)]
  refine ih r (i+1) hd2 (fun c hc=>ha c (by simp [hc])) ?_
  rw [show i+1+f.length=i+(c::f).length by simp;omega]
  exact h
end
theorem Ka {R:Type} (st:St) (rs:List (List AV)) (k:Nat) (f:B) (x:List AV) (hk:rs[k]?=some [x.headD .nils]) (n:Nat) (hn:n=rs.length) (K:St→Option R) :
  ((zt (.rows 1 0 rs::st) 1 (.ms st.length 0 0 n n) k).bind fun v=>(zl (.rows 1 0 rs::st) v [.str f]).bind K)=K (.rows 1 0 (rs.set k [.str f])::st):=by
 subst hn
 have hl:=(List.getElem?_eq_some_iff.1 hk).1
 have hg:St.get (.rows 1 0 rs::st) st.length=some (.rows 1 0 rs):=St.get_top _ _
 simp only [bind_some,zt,LA,hg,if_true,true_and,hl,if_pos,zl,Nat.zero_add,hk,setAt,map_some,St.put_top]
theorem Gr (s f r:B) (q:Nat) (h:s.drop q=f++r):(s.take (q+f.length)).drop q=f:=by
 rw [List.drop_take,h,Nat.add_sub_cancel_left,List.take_left]
def qw (fs:List B):List (List AV):=fs.map fun f=>[.str f]
theorem LO (n:Nat) (fs:List B):AV.closedss n (qw fs)=true:=by
 induction fs with
 |nil=>rfl
 |cons f fs ih=>simpa [qw,AV.closedss,AV.closeds,AV.closed] using ih
theorem IE (st:St) (hs:Cl st) (fs:List B) (n:Nat) (hn:n=fs.length):(zX (qN (.rows 1 0 (qw fs)::st) (.ms st.length 0 0 n n)) fun v st_1=>ze false st.length (.ret v) st_1)=some (.ret (.sl 1 (qw fs) 0 fs.length .no),st):=by
 subst hn
 have hl:(qw fs).length=fs.length:=by simp [qw]
 have hg:St.get (.rows 1 0 (qw fs)::st) st.length=some (.rows 1 0 (qw fs)):=St.get_top _ _
 have e:qN (.rows 1 0 (qw fs)::st) (.ms st.length 0 0 fs.length fs.length)=some (.sl 1 (qw fs) 0 fs.length .no,.free 0::st):=by
  unfold qN
  simp only [hg,true_and,if_true]
  rw [if_pos (by omega),Nat.zero_add,List.take_of_length_le (by omega),St.put_top]
 rw [e,qc]
 rw [QO (n:=st.length) (by rfl) (by simp [AV.closed,LO]) (by rw [St.trunc_cons];exact hs) (by simp),St.trunc_cons]
theorem zbJ (st:St) (hs:Cl st) (s:B) (hl:s.length<1000000000):∀(fs done:List B) (q N:Nat),(∀f ∈ fs,word f)→fs≠[]→s.drop q=jW fs→N=done.length+fs.length→N<1000000000 →
  aw 84 st.length XK ⟨[(0,.str s),(9,.ms st.length 0 0 N N),(10,.int .i64 (done.length:Int)),(11,.int .i64 (q:Int)),(12,.int .i64 (q:Int))],[]⟩ (.rows 1 0 (qw done++List.replicate fs.length [.str []])::st)
   = some (.ret (.sl 1 (qw (done++fs)) 0 (done++fs).length .no),st):=by
 intro fs
 induction fs with
 |nil=>intro done q N _ h;exact absurd rfl h
 |cons f fs ih =>
  intro done q N hw _ hd hN hN2
  obtain ⟨hf1,hf2⟩:=hw f (by simp)
  have hk:(qw done++List.replicate (f::fs).length [AV.str []])[done.length]?=some [AV.str []]:=by
   rw [List.getElem?_append_right (by simp [qw])];simp [qw]
  have hset:(qw done++List.replicate (f::fs).length [AV.str []]).set done.length [.str f]=qw (done++[f])++List.replicate fs.length [AV.str []]:=by
   rw [List.set_append_right _ _ (by simp [qw])]
   simp [qw,List.replicate_succ]
  have hlen:N=(qw done++List.replicate (f::fs).length [AV.str []]).length:=by simp [qw];simp at hN;omega
  cases fs with
  |nil =>
   have hd':s.drop q=f++[]:=by simpa [jW] using hd
   refine zbu st s hl f [] q hd' hf2 ?_
   refine CC _ _ _ _ _ _ _ ?_
   have hql:q+f.length=s.length:=by
    have:=congrArg List.length hd'
    have hp:0<f.length:=by cases f;exact absurd rfl hf1;simp
    simp at this;omega
   have e:decide (((q+f.length:Nat):Int)<(s.length:Int))=false:=decide_eq_false (by omega)
   have e2:decide ((q:Int)<(s.length:Int))=true:=decide_eq_true (by
    have:f.length≠0:=by simpa using hf1
    omega)
   have e3:s.drop q=f:=by simpa using hd'
   simp only [e,e2,cond_false,cond_true,Yp (show q≤s.length by omega),bind_some,zr,e3,zO]
   rw [Ka st _ _ f [.str []] hk N hlen,hset]
   simp only [List.replicate,List.length_nil,List.append_nil]
   exact IE st hs (done++[f]) N (by simpa using hN)
  |cons g fs =>
   have hd':s.drop q=f++32::jW (g::fs):=hd
   refine zbu st s hl f _ q hd' hf2 ?_
   have hd2:s.drop (q+f.length)=32::jW (g::fs):=by rw [←List.drop_drop,hd',List.drop_left]
   obtain ⟨gc,hd3,hlt⟩:=qa hd2
   refine CC _ _ _ _ _ _ _ ?_
   have e:decide (((q+f.length:Nat):Int)<(s.length:Int))=true:=decide_eq_true (by omega)
   simp only [e,cond_true,zO,bind_some,jH gc]
   rw [if_pos (by decide),JZ (by decide)]
   have h1:(spI (32:UInt8).toNat==0)=false:=by decide
   simp only [bind_some,zk,h1,cond_false,DG (Nat.le_add_right q f.length) (show q+f.length≤s.length by omega),zr,Gr s f _ q hd']
   rw [Ka st _ _ f [.str []] hk N hlen,hset]
   have e1:IntKind.i64.wrap ((done.length:Int)+1)=(((done++[f]).length:Nat):Int):=by rw [e1i (by simp at hN;omega)];simp
   rw [e1,e1i (by omega)]
   obtain ⟨hg1,hg2⟩:=hw g (by simp)
   refine zby _ _ _ _ _ _ ?_
   have h2:∃c r,jW (g::fs)=c::r∧sp c.toNat=false∧c.toNat<128:=by
    match g,hg1 with
    |c::g,_=>cases fs<;>exact ⟨c,_,rfl,hg2 c (by simp)⟩
   obtain ⟨c,r,h3,h4,h5⟩:=h2
   rw [h3] at hd3
   obtain ⟨gd,hd4,hlt2⟩:=qa hd3
   have e2:decide (((q+f.length+1:Nat):Int)<(s.length:Int))=true:=decide_eq_true (by omega)
   simp only [e2,cond_true,zO,bind_some,jH gd]
   rw [if_pos (by omega),JZ (by omega)]
   have h6:(spI c.toNat != 0)=false:=by unfold spI;simp [h4]
   simp only [bind_some,zk,h6,cond_false]
   have:=ih (done++[f]) (q+f.length+1) N (fun x hx=>hw x (by simp only [List.mem_cons] at hx ⊢;exact .inr hx)) (by simp) (by rw [hd3,h3]) (by simp at hN ⊢;omega) hN2
   rw [List.append_assoc] at this
   exact this
theorem Kk (st:St) (hs:Cl st) (fs:List B) (hw:∀f ∈ fs,word f) (hne:fs≠[]) (hl:(jW fs).length<100000):cw 84 [.str (jW fs)] st=some (.ret (.sl 1 (qw fs) 0 fs.length .no),st):=by
 refine F84 _ _ ?_
 have hfl:fs.length≤(jW fs).length:=by
  have key:∀(r:B) (w:Bool),JX r w≤r.length:=by
   intro r
   induction r with
   |nil=>intro w;simp [JX]
   |cons c r ih =>
    intro w
    have h1:=ih true
    have h2:=ih false
    rw [JX]
    split
    ·simp;omega
    ·split<;>simp<;>omega
  rw [←Xo fs hw];exact key _ _
 have h0:=zbK st (jW fs) (by omega) (R:=(.ret (.sl 1 (qw fs) 0 fs.length .no),st)) (jW fs) 0 0 true 0 rfl (WX fs hw) (by omega) (by omega) ?_
 ·exact h0
 ·rw [Xo fs hw]
  simp only [Nat.zero_add]
  refine zbd _ _ _ _ _ _ ?_
  have h2:∃c r,jW fs=c::r∧sp c.toNat=false∧c.toNat<128:=by
   match fs,hne,hw with
   |g::fs,_,hw =>
    obtain ⟨hg1,hg2⟩:=hw g (by simp)
    match g,hg1 with
    |c::g,_=>cases fs<;>exact ⟨c,_,rfl,hg2 c (by simp)⟩
  obtain ⟨c,r,h3,h4,h5⟩:=h2
  have hd:(jW fs).drop 0=c::r:=by rw [←h3];rfl
  obtain ⟨g,hd2,hlt⟩:=qa hd
  have e:decide ((0:Int)<((jW fs).length:Int))=true:=decide_eq_true (by omega)
  have n0:zJ (.int .i64 0)=some 0:=rfl
  simp only [e,cond_true,n0,bind_some,jH g]
  rw [zO,bind_some,if_pos (by omega),JZ (by omega)]
  have h6:(spI c.toNat != 0)=false:=by unfold spI;simp [h4]
  simp only [bind_some,zk,h6,cond_false]
  have:=zbJ st hs (jW fs) (by omega) fs [] 0 fs.length hw hne rfl (by simp) (by omega)
  simpa [qw] using this
end Go.Abs
namespace Go.Abs
open Go Go.Proofs Go.IntWalk Go.Abs.X
def zy (s:B) (i:Nat):Nat:=(s.getD i 0).toNat
def qn (s:B):Nat×Nat:=if s=[] then (65533,0) else Lib.decodeN s.length (zy s 0) (zy s 1) (zy s 2) (zy s 3)
set_option maxRecDepth 100000 in
theorem Cu:Kz=(List.range 256).map fun n=>.int .u8 (Lib.firstT n):=by kernel_rfl
theorem NW {n:Nat} (hn:n<256) {st:St}:zf st (.ip Kz (0+n*1)) 1 false=some (.int .u8 (Lib.firstT n)):=by
 rw [Cu]
 simp only [Zx,zj,Nat.zero_add,Nat.mul_one]
 simp [hn]
theorem ZY (s:B) (i:Nat):zy s i<256:=(s.getD i 0).toNat_lt
theorem DY {s:B} {i:Nat} (h:i<s.length):s[i]?=some (s.getD i 0):=by simp [List.getD,h]
def acc (b:Nat):Nat×Nat:=(Lib.accLo (b / 16),Lib.accHi (b / 16))
theorem Kx {b:Nat} (h:Lib.firstT b<240):Lib.firstT b=2∨Lib.firstT b=19∨Lib.firstT b=3∨Lib.firstT b=35∨Lib.firstT b=52∨Lib.firstT b=4∨Lib.firstT b=68:=by
 rcases Lib.firstT_low h with h | h | h | h | h | h | h
 ·exact .inl (Lib.firstT_C2 h)
 ·exact .inr (.inl (Lib.firstT_E0 h))
 ·exact .inr (.inr (.inl (Lib.firstT_E1 h)))
 ·exact .inr (.inr (.inr (.inl (Lib.firstT_ED h))))
 ·exact .inr (.inr (.inr (.inr (.inl (Lib.firstT_F0 h)))))
 ·exact .inr (.inr (.inr (.inr (.inr (.inl (Lib.firstT_F1 h))))))
 ·exact .inr (.inr (.inr (.inr (.inr (.inr (Lib.firstT_F4 h))))))
theorem Hz {st:St} (hs:Cl st) (x:zh) (a b:Int):ze false st.length (.ret (.tup [.int .i32 a,.int .i64 b])) (x::st)=some (.ret (.tup [.int .i32 a,.int .i64 b]),st):=by
 rw [QO (n:=st.length) rfl rfl (by rw [St.trunc_cons];exact hs) (by simp),St.trunc_cons]
theorem Hv {x:Nat} (h:x=2∨x=19∨x=3∨x=35∨x=52∨x=4∨x=68) :
  zJ (.int .u8 ((x:Int).fdiv 16))=some (x / 16)∧x / 16<16∧IntKind.i64.wrap (bits BinOp.and IntKind.u8 (x:Int) 7)=((x%8:Nat):Int)∧2≤x%8∧x%8≤4 ∧
  zj [AV.int IntKind.u8 128,AV.int IntKind.u8 191,AV.int IntKind.u8 160,AV.int IntKind.u8 191,AV.int IntKind.u8 128,AV.int IntKind.u8 159,AV.int IntKind.u8 144,AV.int IntKind.u8 191,AV.int IntKind.u8 128,
       AV.int IntKind.u8 143,AV.int IntKind.u8 0,AV.int IntKind.u8 0,AV.int IntKind.u8 0,AV.int IntKind.u8 0,AV.int IntKind.u8 0,AV.int IntKind.u8 0,AV.int IntKind.u8 0,AV.int IntKind.u8 0,
       AV.int IntKind.u8 0,AV.int IntKind.u8 0,AV.int IntKind.u8 0,AV.int IntKind.u8 0,AV.int IntKind.u8 0,AV.int IntKind.u8 0,AV.int IntKind.u8 0,AV.int IntKind.u8 0,AV.int IntKind.u8 0,AV.int IntKind.u8 0,
       AV.int IntKind.u8 0,AV.int IntKind.u8 0,AV.int IntKind.u8 0,AV.int IntKind.u8 0] (0+x / 16*2) 2 true=some (.agg [.int .u8 ((Lib.accLo (x / 16):Nat):Int),.int .u8 ((Lib.accHi (x / 16):Nat):Int)]):=by
 rcases h with rfl | rfl | rfl | rfl | rfl | rfl | rfl<;>refine ⟨by decide +kernel,by decide,by decide +kernel,by decide,by decide,rfl⟩
section
variable {b:Nat} (h:b<256)
include h
theorem zbr:bits .and .u8 (b:Int) 31=((b%32:Nat):Int):=by rw [u8_and31 _ (by omega) (by omega)];omega
theorem zbh:bits .and .u8 (b:Int) 15=((b%16:Nat):Int):=by rw [u8_and15 _ (by omega) (by omega)];omega
theorem zbB:bits .and .u8 (b:Int) 7=((b%8:Nat):Int):=by rw [u8_and7 _ (by omega) (by omega)];omega
theorem JV:bits .and .u8 (b:Int) 63=((b%64:Nat):Int):=by rw [u8_and63 _ (by omega) (by omega)];omega
end
theorem w32 {n:Nat} (h:n<2147483648):IntKind.i32.wrap (n:Int)=(n:Int):=i32_in _ (by omega)
theorem WW (a b:Nat) (k:Int) (h:k=(b:Int)):(a:Int)*k=((a*b:Nat):Int):=by subst h;simp
theorem or6 {a b:Nat} (h1:a<33554432) (h2:b<64):bits .or .i32 ((a*64:Nat):Int) (b:Int)=((a*64+b:Nat):Int):=by rw [i32_or6 _ _ (by omega) (by omega) (by omega) (by omega) (by omega)];omega
theorem zba {a b:Nat} (h1:a<524288) (h2:b<4096):bits .or .i32 ((a*4096:Nat):Int) (b:Int)=((a*4096+b:Nat):Int):=by rw [i32_or12 _ _ (by omega) (by omega) (by omega) (by omega) (by omega)];omega
theorem zbP {a b:Nat} (h1:a<8192) (h2:b<262144):bits .or .i32 ((a*262144:Nat):Int) (b:Int)=((a*262144+b:Nat):Int):=by rw [i32_or18 _ _ (by omega) (by omega) (by omega) (by omega) (by omega)];omega
theorem Df {R:Type} {s:B} {i:Nat} (h:i<s.length) (K:Int→Option R):((Option.map (fun b:UInt8=>AV.int .u8 (b.toNat:Int)) s[i]?).bind fun v=>(zm .u8 v).bind K)=K (zy s i:Int):=jH (DY h) K
end Go.Abs
namespace Go.Abs
open Go Go.Proofs Go.IntWalk Go.Abs.X
set_option maxHeartbeats 4000000 in
theorem HK (st:St) (hs:Cl st) (s:B) (hne:s≠[]) (hl:s.length<1000000000000):cw 94 [.str s] st=some (.ret (.tup [.int .i32 (qn s).1,.int .i64 (qn s).2]),st):=by
 have h0:0<s.length:=by cases s;exact absurd rfl hne;simp
 have hr:qn s=Lib.decodeN s.length (zy s 0) (zy s 1) (zy s 2) (zy s 3):=by unfold qn;rw [if_neg hne]
 have b0:=ZY s 0;have b1:=ZY s 1;have b2:=ZY s 2;have b3:=ZY s 3
 refine F94 _ _ ?_
 have e:decide ((s.length:Int)<1)=false:=decide_eq_false (by omega)
 simp only [e,cond_false,Df h0,zO,bind_some]
 rw [if_pos (by omega),NW (by omega)]
 simp only [bind_some,zk]
 by_cases hx:Lib.firstT (zy s 0)<240
 ·have e2:decide (((Lib.firstT (zy s 0):Nat):Int)≥240)=false:=decide_eq_false (by omega)
  obtain ⟨f1,f2,f3,f4,f5,f6⟩:=Hv (Kx hx)
  have hslow:=Lib.slow_eq s.length (zy s 0) (zy s 1) (zy s 2) (zy s 3) h0 b1 b2 b3 hx
  rw [←hr] at hslow
  rw [←hslow]
  simp only [e2,cond_false,f1,bind_some]
  rw [if_pos f2]
  simp only [Zx,f6,bind_some,f3]
  have c2:zq 2 (.agg [.int .u8 ((Lib.accLo (Lib.firstT (zy s 0) / 16):Nat):Int),.int .u8 ((Lib.accHi (Lib.firstT (zy s 0) / 16):Nat):Int)])=some [.int .u8 ((Lib.accLo (Lib.firstT (zy s 0) / 16):Nat):Int),.int .u8 ((Lib.accHi (Lib.firstT (zy s 0) / 16):Nat):Int)]:=rfl
  rw [c2]
  simp only [bind_some]
  generalize Lib.firstT (zy s 0)%8=sz at f4 f5
  generalize Lib.accLo (Lib.firstT (zy s 0) / 16)=lo
  generalize Lib.accHi (Lib.firstT (zy s 0) / 16)=hi
  rw [zM (St.get_top _ _) (row':=[.int .u8 (lo:Int),.int .u8 (hi:Int)]) rfl,St.put_top]
  have r0:∀k,zf (zh.box 136 [.int .u8 (lo:Int),.int .u8 (hi:Int)]::st) (.bp st.length k) 1 false=zj [.int .u8 (lo:Int),.int .u8 (hi:Int)] k 1 false:=fun k=>zn (St.get_top _ _)
  have r1:zj [.int .u8 (lo:Int),.int .u8 (hi:Int)] 0 1 false=some (.int .u8 (lo:Int)):=rfl
  have r2:zj [.int .u8 (lo:Int),.int .u8 (hi:Int)] 1 1 false=some (.int .u8 (hi:Int)):=rfl
  simp only [bind_some,r0,r1,r2,zk,Hz hs]
  have k2:(2:Int)^18=((262144:Nat):Int):=by decide
  have leaf:∀(q:Nat×Nat) (a b:Int),(Lib.slowN s.length (zy s 0) (zy s 1) (zy s 2) (zy s 3) sz lo hi=q)→a=(q.1:Int)→b=(q.2:Int) →
    some (zd.ret (.tup [.int .i32 a,.int .i64 b]),st)=some (zd.ret (.tup [.int .i32 (Lib.slowN s.length (zy s 0) (zy s 1) (zy s 2) (zy s 3) sz lo hi).1,.int .i64 (Lib.slowN s.length (zy s 0) (zy s 1) (zy s 2) (zy s 3) sz lo hi).2]),st):=by
   intro q a b h1 h2 h3;rw [h1,h2,h3]
  have bad:∀(h:Lib.slowN s.length (zy s 0) (zy s 1) (zy s 2) (zy s 3) sz lo hi=(65533,1)),some (zd.ret (.tup [.int .i32 65533,.int .i64 1]),st)=some (zd.ret (.tup [.int .i32 (Lib.slowN s.length (zy s 0) (zy s 1) (zy s 2) (zy s 3) sz lo hi).1,.int .i64 (Lib.slowN s.length (zy s 0) (zy s 1) (zy s 2) (zy s 3) sz lo hi).2]),st):=fun h=>leaf _ _ _ h rfl rfl
  simp only [Bool.cond_eq_ite,decide_eq_true_eq]
  split
  ·rename_i g1
   exact bad (by unfold Lib.slowN;rw [if_pos (by omega)])
  rename_i g1
  simp only [Df (show 1<s.length by omega)]
  split
  ·rename_i g2
   exact bad (by unfold Lib.slowN;rw [if_neg (by omega),if_pos (by omega)])
  rename_i g2
  split
  ·rename_i g3
   exact bad (by unfold Lib.slowN;rw [if_neg (by omega),if_pos (by omega)])
  rename_i g3
  split
  ·rename_i g4
   simp only [zbr b0,JV b1,w32 (show zy s 0%32<2147483648 by omega),w32 (show zy s 1%64<2147483648 by omega),WW _ 64 64 rfl,w32 (show zy s 0%32*64<2147483648 by omega)]
   rw [or6 (by omega) (by omega)]
   exact leaf (zy s 0%32*64+zy s 1%64,2) _ _ (by unfold Lib.slowN;rw [if_neg (by omega),if_neg (by omega),if_pos (by omega)]) rfl rfl
  rename_i g4
  simp only [Df (show 2<s.length by omega)]
  split
  ·rename_i g5
   exact bad (by unfold Lib.slowN;rw [if_neg (by omega),if_neg (by omega),if_neg (by omega),if_pos (by omega)])
  rename_i g5
  split
  ·rename_i g6
   exact bad (by unfold Lib.slowN;rw [if_neg (by omega),if_neg (by omega),if_neg (by omega),if_pos (by omega)])
  rename_i g6
  split
  ·rename_i g7
   simp only [zbh b0,JV b1,JV b2,w32 (show zy s 0%16<2147483648 by omega),w32 (show zy s 1%64<2147483648 by omega),w32 (show zy s 2%64<2147483648 by omega),WW _ 64 64 rfl,WW _ 4096 4096 rfl,w32 (show zy s 0%16*4096<2147483648 by omega),w32 (show zy s 1%64*64<2147483648 by omega)]
   rw [zba (by omega) (by omega),show zy s 0%16*4096+zy s 1%64*64=(zy s 0%16*64+zy s 1%64)*64 by omega,or6 (by omega) (by omega)]
   exact leaf (zy s 0%16*4096+zy s 1%64*64+zy s 2%64,3) _ _ (by unfold Lib.slowN;rw [if_neg (by omega),if_neg (by omega),if_neg (by omega),if_neg (by omega),if_pos (by omega)]) (by omega) rfl
  rename_i g7
  simp only [Df (show 3<s.length by omega)]
  split
  ·rename_i g8
   exact bad (by unfold Lib.slowN;rw [if_neg (by omega),if_neg (by omega),if_neg (by omega),if_neg (by omega),if_neg (by omega),if_pos (by omega)])
  rename_i g8
  split
  ·rename_i g9
   exact bad (by unfold Lib.slowN;rw [if_neg (by omega),if_neg (by omega),if_neg (by omega),if_neg (by omega),if_neg (by omega),if_pos (by omega)])
  rename_i g9
  simp only [zbB b0,JV b1,JV b2,JV b3,w32 (show zy s 0%8<2147483648 by omega),w32 (show zy s 1%64<2147483648 by omega),w32 (show zy s 2%64<2147483648 by omega),w32 (show zy s 3%64<2147483648 by omega),WW _ 64 64 rfl,WW _ 4096 4096 rfl,WW _ 262144 (2^18) k2,
   w32 (show zy s 0%8*262144<2147483648 by omega),w32 (show zy s 1%64*4096<2147483648 by omega),w32 (show zy s 2%64*64<2147483648 by omega)]
  rw [zbP (by omega) (by omega),show zy s 0%8*262144+zy s 1%64*4096=(zy s 0%8*64+zy s 1%64)*4096 by omega,zba (by omega) (by omega),
   show (zy s 0%8*64+zy s 1%64)*4096+zy s 2%64*64=((zy s 0%8*64+zy s 1%64)*64+zy s 2%64)*64 by omega,or6 (by omega) (by omega)]
  exact leaf (zy s 0%8*262144+zy s 1%64*4096+zy s 2%64*64+zy s 3%64,4) _ _ (by unfold Lib.slowN;rw [if_neg (by omega),if_neg (by omega),if_neg (by omega),if_neg (by omega),if_neg (by omega),if_neg (by omega)]) (by omega) rfl
 ·have e2:decide (((Lib.firstT (zy s 0):Nat):Int)≥240)=true:=decide_eq_true (by omega)
  simp only [e2,cond_true,zx]
  have hb:Lib.firstT (zy s 0)=240∨Lib.firstT (zy s 0)=241:=by
   unfold Lib.firstT at hx ⊢
   repeat' split at hx
   all_goals first | omega | (simp_all;done) | (repeat' split)<;>omega
  rcases hb with hb | hb
  ·rw [hr,Lib.ascii_eq _ _ _ _ _ hb,hb]
   have:∀b:Fin 256,bits BinOp.or IntKind.i32 (bits BinOp.andNot IntKind.i32 (IntKind.i32.wrap (b.val:Int)) ((IntKind.i32.wrap (IntKind.i32.wrap ((240:Nat):Int)*2^31)).fdiv (2^31)))
     (bits BinOp.and IntKind.i32 65533 ((IntKind.i32.wrap (IntKind.i32.wrap ((240:Nat):Int)*2^31)).fdiv (2^31)))=(b.val:Int):=by decide +kernel
   rw [this ⟨zy s 0,b0⟩];rfl
  ·rw [hr,Lib.bad_eq _ _ _ _ _ b0 hb,hb]
   have:∀b:Fin 256,bits BinOp.or IntKind.i32 (bits BinOp.andNot IntKind.i32 (IntKind.i32.wrap (b.val:Int)) ((IntKind.i32.wrap (IntKind.i32.wrap ((241:Nat):Int)*2^31)).fdiv (2^31)))
     (bits BinOp.and IntKind.i32 65533 ((IntKind.i32.wrap (IntKind.i32.wrap ((241:Nat):Int)*2^31)).fdiv (2^31)))=65533:=by decide +kernel
   rw [this ⟨zy s 0,b0⟩];rfl
theorem WA (st:St) (hs:Cl st) (s:B) (hl:s.length<1000000000000):cw 72 [.str s] st=some (.ret (.tup [.int .i32 (qn s).1,.int .i64 (qn s).2]),st):=by
 refine F72 _ _ ?_
 by_cases hne:s=[]
 ·subst hne
  have h1:cw 94 [.str []] st=some (.ret (.tup [.int .i32 65533,.int .i64 0]),st):=F94 _ _ (by simp)
  simp only [zV,bind_some,zp,beq_self_eq_true,Bool.not_true,cond_false,h1,zi]
  simp [qn]
 ·have h0:0<s.length:=by cases s;exact absurd rfl hne;simp
  have e1:(!(s==[]))=true:=by simpa using hne
  simp only [zV,bind_some,zp,e1,cond_true,Df h0,HK st hs s hne hl,zi,zT,zx,zk]
  by_cases h:zy s 0<128
  ·have:qn s=(zy s 0,1):=by
    unfold qn Lib.decodeN
    rw [if_neg hne,if_pos h]
   rw [show decide ((zy s 0:Int)<128)=true from decide_eq_true (by omega),cond_true,this,w32 (by omega)];rfl
  ·rw [show decide ((zy s 0:Int)<128)=false from decide_eq_false (by omega),cond_false]
   rfl
end Go.Abs
namespace Go.Abs
open Go Go.Proofs Go.IntWalk Go.Abs.X
theorem Zm (c:UInt8) (r:B):zy (c::r) 0=c.toNat:=rfl
theorem Zp (c d:UInt8) (r:B):zy (c::d::r) 1=d.toNat:=rfl
theorem Yq (c d e:UInt8) (r:B):zy (c::d::e::r) 2=e.toNat:=rfl
theorem MT (c d e f:UInt8) (r:B):zy (c::d::e::f::r) 3=f.toNat:=rfl
structure zaZ (s:B):Prop where
 wid:(qn s).2=zI s
 le:zI s≤s.length
 one:zI s=1→(qn s).1=zy s 0∧zy s 0<128
 two:zI s=2→(qn s).1=zy s 0%32*64+zy s 1%64∧zy s 0 / 32=6∧zy s 1 / 64=2∧128≤(qn s).1
 three:zI s=3→(qn s).1=zy s 0%16*4096+zy s 1%64*64+zy s 2%64∧zy s 0 / 16=14∧zy s 1 / 64=2∧zy s 2 / 64=2∧2048≤(qn s).1∧((qn s).1<55296∨57344≤(qn s).1)
 four:zI s=4→(qn s).1=zy s 0%8*262144+zy s 1%64*4096+zy s 2%64*64+zy s 3%64∧zy s 0 / 8=30∧zy s 1 / 64=2∧zy s 2 / 64=2∧zy s 3 / 64=2∧65536≤(qn s).1∧(qn s).1≤1114111
set_option maxHeartbeats 4000000 in
theorem Jl (s:B) (hne:s≠[]):(zI s=0∧qn s=(65533,1))∨((zI s=1∨zI s=2∨zI s=3∨zI s=4)∧zaZ s):=by
 match s,hne with
 |[c],_ =>
  have h0:=c.toNat_lt
  have hr:qn [c]=Lib.decodeN 1 c.toNat 0 0 0:=rfl
  have hu:zI [c]=if c.toNat<128 then 1 else 0:=rfl
  by_cases h:c.toNat<128
  ·rw [if_pos h] at hu
   have hr':qn [c]=(c.toNat,1):=by rw [hr];unfold Lib.decodeN;rw [if_pos h]
   exact .inr ⟨.inl hu,⟨by rw [hr',hu],by rw [hu];simp,fun _=>⟨by rw [hr'];rfl,h⟩,fun h=>by omega,fun h=>by omega,fun h=>by omega⟩⟩
  ·rw [if_neg h] at hu
   refine .inl ⟨hu,?_⟩
   rw [hr];unfold Lib.decodeN
   rw [if_neg h,if_neg (by omega),if_neg (by omega),if_neg (by omega)]
 |[c,d],_ =>
  have h0:=c.toNat_lt
  have h1:=d.toNat_lt
  have hr:qn [c,d]=Lib.decodeN 2 c.toNat d.toNat 0 0:=rfl
  have hu:zI [c,d]=if c.toNat<128 then 1 else if decide (194≤c.toNat)&&decide (c.toNat<224)&&tl d then 2 else 0:=rfl
  simp only [tl,Bool.and_eq_true,decide_eq_true_eq] at hu
  by_cases h:c.toNat<128
  ·rw [if_pos h] at hu
   have hr':qn [c,d]=(c.toNat,1):=by rw [hr];unfold Lib.decodeN;rw [if_pos h]
   exact .inr ⟨.inl hu,⟨by rw [hr',hu],by rw [hu];simp,fun _=>⟨by rw [hr'];rfl,h⟩,fun h=>by omega,fun h=>by omega,fun h=>by omega⟩⟩
  rw [if_neg h] at hu
  by_cases h2:(194≤c.toNat∧c.toNat<224)∧128≤d.toNat∧d.toNat<192
  ·rw [if_pos h2] at hu
   have hr':qn [c,d]=(c.toNat%32*64+d.toNat%64,2):=by
    rw [hr];unfold Lib.decodeN;rw [if_neg h,if_pos (by omega),if_pos (by omega)]
   exact .inr ⟨.inr (.inl hu),⟨by rw [hr',hu],by rw [hu];simp,fun h=>by omega,fun _=>⟨by rw [hr'];rfl,by rw [Zm];omega,by rw [Zp];omega,by rw [hr'];show 128≤c.toNat%32*64+d.toNat%64;omega⟩,fun h=>by omega,fun h=>by omega⟩⟩
  ·rw [if_neg h2] at hu
   refine .inl ⟨hu,?_⟩
   rw [hr];unfold Lib.decodeN
   rw [if_neg h]
   split
   ·rw [if_neg (by omega)]
   ·rw [if_neg (by omega),if_neg (by omega)]
 |[c,d,e],_ =>
  have h0:=c.toNat_lt
  have h1:=d.toNat_lt
  have h2:=e.toNat_lt
  have hr:qn [c,d,e]=Lib.decodeN 3 c.toNat d.toNat e.toNat 0:=rfl
  have hu:zI [c,d,e]=if c.toNat<128 then 1 else if decide (194≤c.toNat)&&decide (c.toNat<224)&&tl d then 2 else if decide (224≤c.toNat)&&decide (c.toNat<240)&&tl d&&tl e then
     (if c.toNat==224&&decide (d.toNat<160)||c.toNat==237&&decide (160≤d.toNat) then 0 else 3) else 0:=rfl
  simp only [tl,Bool.and_eq_true,decide_eq_true_eq,Bool.or_eq_true,beq_iff_eq] at hu
  by_cases h:c.toNat<128
  ·rw [if_pos h] at hu
   have hr':qn [c,d,e]=(c.toNat,1):=by rw [hr];unfold Lib.decodeN;rw [if_pos h]
   exact .inr ⟨.inl hu,⟨by rw [hr',hu],by rw [hu];simp,fun _=>⟨by rw [hr'];rfl,h⟩,fun h=>by omega,fun h=>by omega,fun h=>by omega⟩⟩
  rw [if_neg h] at hu
  by_cases k2:(194≤c.toNat∧c.toNat<224)∧128≤d.toNat∧d.toNat<192
  ·rw [if_pos k2] at hu
   have hr':qn [c,d,e]=(c.toNat%32*64+d.toNat%64,2):=by
    rw [hr];unfold Lib.decodeN;rw [if_neg h,if_pos (by omega),if_pos (by omega)]
   exact .inr ⟨.inr (.inl hu),⟨by rw [hr',hu],by rw [hu];simp,fun h=>by omega,fun _=>⟨by rw [hr'];rfl,by rw [Zm];omega,by rw [Zp];omega,by rw [hr'];show 128≤c.toNat%32*64+d.toNat%64;omega⟩,fun h=>by omega,fun h=>by omega⟩⟩
  rw [if_neg k2] at hu
  by_cases k3:((224≤c.toNat∧c.toNat<240)∧128≤d.toNat∧d.toNat<192)∧128≤e.toNat∧e.toNat<192
  ·rw [if_pos k3] at hu
   by_cases k4:c.toNat=224∧d.toNat<160∨c.toNat=237∧160≤d.toNat
   ·rw [if_pos k4] at hu
    refine .inl ⟨hu,?_⟩
    rw [hr];unfold Lib.decodeN
    rw [if_neg h,if_neg (by omega),if_pos (by omega),if_neg (by omega)]
   ·rw [if_neg k4] at hu
    have hr':qn [c,d,e]=(c.toNat%16*4096+d.toNat%64*64+e.toNat%64,3):=by
     rw [hr];unfold Lib.decodeN;rw [if_neg h,if_neg (by omega),if_pos (by omega),if_pos (by omega)]
    exact .inr ⟨.inr (.inr (.inl hu)),⟨by rw [hr',hu],by rw [hu];simp,fun h=>by omega,fun h=>by omega,fun _=>⟨by rw [hr'];rfl,by rw [Zm];omega,by rw [Zp];omega,by rw [Yq];omega,by rw [hr'];show 2048≤c.toNat%16*4096+d.toNat%64*64+e.toNat%64;omega,by rw [hr'];show c.toNat%16*4096+d.toNat%64*64+e.toNat%64<55296∨57344≤c.toNat%16*4096+d.toNat%64*64+e.toNat%64;omega⟩,fun h=>by omega⟩⟩
  ·rw [if_neg k3] at hu
   refine .inl ⟨hu,?_⟩
   rw [hr];unfold Lib.decodeN
   rw [if_neg h]
   split
   ·rw [if_neg (by omega)]
   ·rw [if_neg (by omega),if_neg (by omega)]
 |c::d::e::f::r,_ =>
  have h0:=c.toNat_lt
  have h1:=d.toNat_lt
  have h2:=e.toNat_lt
  have h3:=f.toNat_lt
  have hn:4≤(c::d::e::f::r).length:=by simp
  have hr:qn (c::d::e::f::r)=Lib.decodeN (c::d::e::f::r).length c.toNat d.toNat e.toNat f.toNat:=rfl
  have hu:zI (c::d::e::f::r)=if c.toNat<128 then 1 else if decide (194≤c.toNat)&&decide (c.toNat<224)&&tl d then 2 else if decide (224≤c.toNat)&&decide (c.toNat<240)&&tl d&&tl e then
     (if c.toNat==224&&decide (d.toNat<160)||c.toNat==237&&decide (160≤d.toNat) then 0 else 3) else
     if decide (240≤c.toNat)&&decide (c.toNat<245)&&tl d&&tl e&&tl f then
      (if c.toNat==240&&decide (d.toNat<144)||c.toNat==244&&decide (144≤d.toNat) then 0 else 4) else 0:=rfl
  simp only [tl,Bool.and_eq_true,decide_eq_true_eq,Bool.or_eq_true,beq_iff_eq] at hu
  generalize (c::d::e::f::r).length=n at hr hn
  have hl:4≤(c::d::e::f::r).length:=by simp
  by_cases h:c.toNat<128
  ·rw [if_pos h] at hu
   have hr':qn (c::d::e::f::r)=(c.toNat,1):=by rw [hr];unfold Lib.decodeN;rw [if_pos h]
   exact .inr ⟨.inl hu,⟨by rw [hr',hu],by omega,fun _=>⟨by rw [hr'];rfl,h⟩,fun h=>by omega,fun h=>by omega,fun h=>by omega⟩⟩
  rw [if_neg h] at hu
  by_cases k2:(194≤c.toNat∧c.toNat<224)∧128≤d.toNat∧d.toNat<192
  ·rw [if_pos k2] at hu
   have hr':qn (c::d::e::f::r)=(c.toNat%32*64+d.toNat%64,2):=by
    rw [hr];unfold Lib.decodeN;rw [if_neg h,if_pos (by omega),if_pos (by omega)]
   exact .inr ⟨.inr (.inl hu),⟨by rw [hr',hu],by omega,fun h=>by omega,fun _=>⟨by rw [hr'];rfl,by rw [Zm];omega,by rw [Zp];omega,by rw [hr'];show 128≤c.toNat%32*64+d.toNat%64;omega⟩,fun h=>by omega,fun h=>by omega⟩⟩
  rw [if_neg k2] at hu
  by_cases k3:((224≤c.toNat∧c.toNat<240)∧128≤d.toNat∧d.toNat<192)∧128≤e.toNat∧e.toNat<192
  ·rw [if_pos k3] at hu
   by_cases k4:c.toNat=224∧d.toNat<160∨c.toNat=237∧160≤d.toNat
   ·rw [if_pos k4] at hu
    refine .inl ⟨hu,?_⟩
    rw [hr];unfold Lib.decodeN
    rw [if_neg h,if_neg (by omega),if_pos (by omega),if_neg (by omega)]
   ·rw [if_neg k4] at hu
    have hr':qn (c::d::e::f::r)=(c.toNat%16*4096+d.toNat%64*64+e.toNat%64,3):=by
     rw [hr];unfold Lib.decodeN;rw [if_neg h,if_neg (by omega),if_pos (by omega),if_pos (by omega)]
    exact .inr ⟨.inr (.inr (.inl hu)),⟨by rw [hr',hu],by omega,fun h=>by omega,fun h=>by omega,fun _=>⟨by rw [hr'];rfl,by rw [Zm];omega,by rw [Zp];omega,by rw [Yq];omega,by rw [hr'];show 2048≤c.toNat%16*4096+d.toNat%64*64+e.toNat%64;omega,by rw [hr'];show c.toNat%16*4096+d.toNat%64*64+e.toNat%64<55296∨57344≤c.toNat%16*4096+d.toNat%64*64+e.toNat%64;omega⟩,fun h=>by omega⟩⟩
  rw [if_neg k3] at hu
  by_cases k5:(((240≤c.toNat∧c.toNat<245)∧128≤d.toNat∧d.toNat<192)∧128≤e.toNat∧e.toNat<192)∧128≤f.toNat∧f.toNat<192
  ·rw [if_pos k5] at hu
   by_cases k6:c.toNat=240∧d.toNat<144∨c.toNat=244∧144≤d.toNat
   ·rw [if_pos k6] at hu
    refine .inl ⟨hu,?_⟩
    rw [hr];unfold Lib.decodeN
    rw [if_neg h,if_neg (by omega),if_neg (by omega),if_pos (by omega),if_neg (by omega)]
   ·rw [if_neg k6] at hu
    have hr':qn (c::d::e::f::r)=(c.toNat%8*262144+d.toNat%64*4096+e.toNat%64*64+f.toNat%64,4):=by
     rw [hr];unfold Lib.decodeN;rw [if_neg h,if_neg (by omega),if_neg (by omega),if_pos (by omega),if_pos (by omega)]
    refine .inr ⟨.inr (.inr (.inr hu)),⟨by rw [hr',hu],by omega,fun h=>by omega,fun h=>by omega,fun h=>by omega,fun _=>⟨by rw [hr'];rfl,by rw [Zm];omega,by rw [Zp];omega,by rw [Yq];omega,by rw [MT];omega,?_,?_⟩⟩⟩
    ·rw [hr'];show 65536≤c.toNat%8*262144+d.toNat%64*4096+e.toNat%64*64+f.toNat%64;omega
    ·rw [hr'];show c.toNat%8*262144+d.toNat%64*4096+e.toNat%64*64+f.toNat%64≤1114111;omega
  ·rw [if_neg k5] at hu
   refine .inl ⟨hu,?_⟩
   rw [hr];unfold Lib.decodeN
   rw [if_neg h]
   split
   ·rw [if_neg (by omega)]
   ·split
    ·rw [if_neg (by omega)]
    ·split
     ·rw [if_neg (by omega)]
     ·rfl
end Go.Abs
namespace Go.Abs
open Go Go.Proofs Go.IntWalk Go.Abs.X
def byt (c:UInt8):List AV:=[.int .u8 (c.toNat:Int)]
def qb (l:B):List (List AV):=l.map byt
theorem Xu (a b:B):qb (a++b)=qb a++qb b:=by simp [qb]
theorem ZX (a:B):(qb a).length=a.length:=by simp [qb]
def YO (n:Nat) (S:St) (v:AV) (l:B):Prop:=(v = .nils∧l=[])∨∃o,n≤o∧Mu S 0 v o (qb l)
theorem WZ (n:Nat) (l:B):AV.closedss n (qb l)=true:=by
 induction l with
 |nil=>rfl
 |cons c l ih=>simpa [qb,AV.closedss,AV.closeds,AV.closed,byt] using ih
theorem qL {st:St} (h:Cl st) {o:Nat} {x:zh} (hx:zh.closed st.length x=true):Cl (st.put o x):=by
 unfold Cl St.closed at h ⊢
 unfold St.put
 split
 ·rename_i ho
  rw [List.length_set]
  rw [List.all_eq_true] at h ⊢
  intro y hy
  rcases List.mem_or_eq_of_mem_set hy with hy | rfl
  ·exact h y hy
  ·exact hx
 ·exact h
theorem Mu.home {st:St} {kd:Nat} {v:AV} {o:Nat} {c:List (List AV)} (h:Mu st kd v o c) (t:Nat) (b:Nat) (x:AV):zR st (some (t,true)) b kd v x=zR st (some (o,true)) b kd v x:=by
 obtain ⟨ep,rfl,h2⟩:=h
 rfl
theorem Ea {n:Nat} {S:St} {v:AV} {l:B} (h:YO n S v l) (hn:n≤S.length) (bs:B) (hb:bs≠[]) (hl:l.length+bs.length<1000000000) :
  ∃v' S',zR (.free 0::S) (some (S.length+0,true)) 1 0 v (.sl 0 (qb bs) 0 bs.length .exact)=some (v',S')∧YO n S' v' (l++bs)∧(∀st0:St,st0.length≤n→Up st0 S→Up st0 S')∧n≤S'.length∧(Cl S→Cl S'):=by
 have hx:rowsOf (.free 0::S) 0 (.sl 0 (qb bs) 0 bs.length .exact)=some (qb bs):=by
  simp only [rowsOf,if_true,List.drop_zero]
  rw [List.take_of_length_le (by simp [qb])]
 have key:∀o,n≤o→MuN (.free 0::S) 0 v o (qb l)→zR (.free 0::S) (some (S.length+0,true)) 1 0 v (.sl 0 (qb bs) 0 bs.length .exact)=zR (.free 0::S) (some (o,true)) 1 0 v (.sl 0 (qb bs) 0 bs.length .exact) →
   ∃v' S',zR (.free 0::S) (some (S.length+0,true)) 1 0 v (.sl 0 (qb bs) 0 bs.length .exact)=some (v',S')∧YO n S' v' (l++bs)∧(∀st0:St,st0.length≤n→Up st0 S→Up st0 S')∧n≤S'.length∧(Cl S→Cl S'):=by
  intro o ho hM he
  obtain ⟨v',y,h1,h2,h6⟩:=hM.app (bytes:=1) hx (by simp [qb,qe];omega) (by simp [qb,qe];omega)
  refine ⟨v',_,by rw [he];exact h1,?_,fun st0 h3 h4=>(h4.push _).put (by omega) y,by simp;omega,fun hcl=>?_⟩
  rotate_left
  ·refine qL (hcl.free) ?_
   rcases h6 with ⟨e,rfl⟩ | ⟨ep,rfl⟩
   ·rfl
   ·simp only [zh.closed]
    rw [←Xu];exact WZ _ _
  rcases h2 with ⟨_,h5,_⟩ | h2
  ·exfalso
   have:=congrArg List.length h5
   simp [qb] at this
   cases bs with
   |nil=>exact hb rfl
   |cons a r=>simp at this
  ·exact .inr ⟨o,ho,by rw [Xu];exact h2⟩
 rcases h with ⟨rfl,rfl⟩ | ⟨o,ho,hM⟩
 ·exact key S.length hn (.inl ⟨rfl,rfl,0,St.get_top _ _⟩) rfl
 ·have hM':Mu (.free 0::S) 0 v o (qb l):=hM.ext (Ext.cons _ _)
  exact key o ho (.inr hM') (hM'.home _ _ _)
theorem Kl (a b:Nat) (hb:0<b):Int.fdiv (a:Int) (b:Int)=((a / b:Nat):Int):=by rw [Int.fdiv_eq_ediv_of_nonneg _ (by omega)];omega
theorem u8N {n:Nat} (h:n<256):IntKind.u8.wrap (n:Int)=(n:Int):=u8_in _ (by omega)
theorem u8W (n:Nat):IntKind.u8.wrap (n:Int)=((n%256:Nat):Int):=by rw [IntKind.wrap_u8];omega
theorem GA {n:Nat} (h:n<64):bits .or .u8 128 (n:Int)=((128+n:Nat):Int):=by rw [u8_or128 _ (by omega) (by omega)];omega
theorem zbe {n:Nat} (h:n<32):bits .or .u8 192 (n:Int)=((192+n:Nat):Int):=by rw [u8_or192 _ (by omega) (by omega)];omega
theorem zb5 {n:Nat} (h:n<16):bits .or .u8 224 (n:Int)=((224+n:Nat):Int):=by rw [u8_or224 _ (by omega) (by omega)];omega
theorem zb3 {n:Nat} (h:n<8):bits .or .u8 240 (n:Int)=((240+n:Nat):Int):=by rw [u8_or240 _ (by omega) (by omega)];omega
theorem zbz {s:B} (h:2≤s.length):qb (s.take 2)=[[.int .u8 (zy s 0:Int)],[.int .u8 (zy s 1:Int)]]:=by
 match s,h with
 |c::d::r,_=>rfl
theorem zb1 {s:B} (h:3≤s.length):qb (s.take 3)=[[.int .u8 (zy s 0:Int)],[.int .u8 (zy s 1:Int)],[.int .u8 (zy s 2:Int)]]:=by
 match s,h with
 |c::d::e::r,_=>rfl
theorem zb2 {s:B} (h:4≤s.length):qb (s.take 4)=[[.int .u8 (zy s 0:Int)],[.int .u8 (zy s 1:Int)],[.int .u8 (zy s 2:Int)],[.int .u8 (zy s 3:Int)]]:=by
 match s,h with
 |c::d::e::f::r,_=>rfl
def VL (n:Nat) (S:St) (v:AV) (l:B) (x:Int) (bs:B):Prop :=
 ∃v' S',cw 73 [v,.int .i32 x] S=some (.ret v',S')∧YO n S' v' (l++bs)∧(∀st0:St,st0.length≤n→Up st0 S→Up st0 S')∧n≤S'.length∧(Cl S→Cl S')
theorem Xe {n:Nat} {S:St} {v:AV} {l:B} (h:YO n S v l) (hn:n≤S.length) (hl:l.length<900000000) (c:UInt8) (hc:c.toNat<128):VL n S v l (c.toNat:Int) [c]:=by
 obtain ⟨v',S',h1,h2,h3,h4,h5⟩:=Ea h hn [c] (by simp) (by simp;omega)
 refine ⟨v',S',F73 _ _ _ ?_,h2,h3,h4,h5⟩
 have e1:IntKind.u32.wrap (c.toNat:Int)=(c.toNat:Int):=u32_in _ (by omega)
 have e2:decide ((c.toNat:Int)≤127)=true:=decide_eq_true (by omega)
 have e3:qb [c]=[[.int .u8 (c.toNat:Int)]]:=rfl
 rw [e1,e2,cond_true,u8N (by omega)]
 rw [e3] at h1
 rw [show [c].length=1 from rfl] at h1
 rw [h1]
 simp
theorem Ly {n:Nat} {S:St} {v:AV} {l:B} (h:YO n S v l) (hn:n≤S.length) (hl:l.length<900000000) (s:B) (hs:s≠[]) (hu:zI s≠0):VL n S v l ((qn s).1:Int) (s.take (zI s)):=by
 rcases Jl s hs with ⟨h0,_⟩ | ⟨hw,hc⟩
 ·exact absurd h0 hu
 have hle:=hc.le
 have b0:=ZY s 0;have b1:=ZY s 1;have b2:=ZY s 2;have b3:=ZY s 3
 rcases hw with hw | hw | hw | hw
 ·obtain ⟨h1,h2⟩:=hc.one hw
  match s,hs with
  |c::r,_ =>
   rw [hw,h1]
   exact Xe h hn hl c h2
 all_goals
  have hS:YO n (.free 0::S) v l:=by
   rcases h with h | ⟨o,ho,hM⟩
   ·exact .inl h
   ·exact .inr ⟨o,ho,hM.ext (Ext.cons _ _)⟩
  have htl:(s.take (zI s)).length=zI s:=by simp;omega
  obtain ⟨v',S',h1,h2,h3,h4,h5⟩:=Ea hS (by simp;omega) (s.take (zI s)) (by intro e;rw [e] at htl;simp at htl;omega) (by omega)
  have hin:cw 95 [v,.int .i32 ((qn s).1:Int)] (.free 0::S)=some (.ret v',S')→((128:Int)≤((qn s).1:Int)∧(qn s).1<2000000)→VL n S v l ((qn s).1:Int) (s.take (zI s)):=fun hin hb=>by
   refine ⟨v',S',F73 _ _ _ ?_,h2,fun st0 g1 g2=>h3 st0 g1 (g2.push _),h4,fun g=>h5 g.free⟩
   rw [u32_in _ (by omega),show decide (((qn s).1:Int)≤127)=false from decide_eq_false (by omega),cond_false,hin]
   simp
 ·obtain ⟨g1,g2,g3,g4⟩:=hc.two hw
  refine hin (F95 _ _ _ ?_) (by omega)
  rw [hw,zbz (by omega),show (s.take 2).length=2 by simp;omega] at h1
  generalize (qn s).1=x at g1 g4 ⊢
  simp only [Bool.cond_eq_ite,decide_eq_true_eq]
  rw [u32_in _ (by omega),if_pos (by omega)]
  have k1:bits BinOp.or IntKind.u8 192 (IntKind.u8.wrap ((x:Int).fdiv 64))=(zy s 0:Int):=by
   rw [show (64:Int)=((64:Nat):Int) from rfl,Kl _ _ (by omega),u8N (by omega),zbe (by omega)];congr 1;omega
  have k2:bits BinOp.or IntKind.u8 128 (bits BinOp.and IntKind.u8 (IntKind.u8.wrap (x:Int)) 63)=(zy s 1:Int):=by
   rw [u8W,JV (by omega),GA (by omega)];congr 1;omega
  rw [k1,k2,h1]
  simp
 ·obtain ⟨g1,g2,g3,g3',g4,g5⟩:=hc.three hw
  refine hin (F95 _ _ _ ?_) (by omega)
  rw [hw,zb1 (by omega),show (s.take 3).length=3 by simp;omega] at h1
  generalize (qn s).1=x at g1 g4 g5 ⊢
  have k1:bits BinOp.or IntKind.u8 224 (IntKind.u8.wrap ((x:Int).fdiv 4096))=(zy s 0:Int):=by
   rw [show (4096:Int)=((4096:Nat):Int) from rfl,Kl _ _ (by omega),u8N (by omega),zb5 (by omega)];congr 1;omega
  have k2:bits BinOp.or IntKind.u8 128 (bits BinOp.and IntKind.u8 (IntKind.u8.wrap ((x:Int).fdiv 64)) 63)=(zy s 1:Int):=by
   rw [show (64:Int)=((64:Nat):Int) from rfl,Kl _ _ (by omega),u8W,JV (by omega),GA (by omega)];congr 1;omega
  have k3:bits BinOp.or IntKind.u8 128 (bits BinOp.and IntKind.u8 (IntKind.u8.wrap (x:Int)) 63)=(zy s 2:Int):=by
   rw [u8W,JV (by omega),GA (by omega)];congr 1;omega
  simp only [Bool.cond_eq_ite,decide_eq_true_eq,k1,k2,k3]
  rw [u32_in _ (by omega),if_neg (by omega)]
  by_cases hx:x<55296
  ·rw [if_pos (by omega),h1];simp
  ·rw [if_neg (by omega),if_pos (by omega),if_pos (by omega),h1];simp
 ·obtain ⟨g1,g2,g3,g3',g3'',g4,g5⟩:=hc.four hw
  refine hin (F95 _ _ _ ?_) (by omega)
  rw [hw,zb2 (by omega),show (s.take 4).length=4 by simp;omega] at h1
  generalize (qn s).1=x at g1 g4 g5 ⊢
  have k1:bits BinOp.or IntKind.u8 240 (IntKind.u8.wrap ((x:Int).fdiv (2^18)))=(zy s 0:Int):=by
   rw [show (2:Int)^18=((262144:Nat):Int) from by decide,Kl _ _ (by omega),u8N (by omega),zb3 (by omega)];congr 1;omega
  have k2:bits BinOp.or IntKind.u8 128 (bits BinOp.and IntKind.u8 (IntKind.u8.wrap ((x:Int).fdiv 4096)) 63)=(zy s 1:Int):=by
   rw [show (4096:Int)=((4096:Nat):Int) from rfl,Kl _ _ (by omega),u8W,JV (by omega),GA (by omega)];congr 1;omega
  have k3:bits BinOp.or IntKind.u8 128 (bits BinOp.and IntKind.u8 (IntKind.u8.wrap ((x:Int).fdiv 64)) 63)=(zy s 2:Int):=by
   rw [show (64:Int)=((64:Nat):Int) from rfl,Kl _ _ (by omega),u8W,JV (by omega),GA (by omega)];congr 1;omega
  have k4:bits BinOp.or IntKind.u8 128 (bits BinOp.and IntKind.u8 (IntKind.u8.wrap (x:Int)) 63)=(zy s 3:Int):=by
   rw [u8W,JV (by omega),GA (by omega)];congr 1;omega
  simp only [Bool.cond_eq_ite,decide_eq_true_eq,k1,k2,k3,k4]
  rw [u32_in _ (by omega),if_neg (by omega),if_neg (by omega),if_pos (by omega),if_neg (by omega),if_pos (by omega),if_pos (by omega),h1]
  simp
end Go.Abs
namespace Go.Abs
open Go Go.Proofs Go.IntWalk Go.Abs.X
theorem Xl {P:Program} {H:zN} {g:FuncId} {F:List AV→St→Option (zd×St)} (h:H.prim g=some F) {args:List AV} {st:St} {r:zd×St} (hF:F args st=some r):qU P H g args st=some r:=by
 refine Xc ?_
 unfold YU
 rw [h]
 exact hF
theorem CV {l:B}:Wn l=true↔l≠[]∧l.all dig=true:=by
 unfold Wn
 cases l<;>simp [dig]
def Ur:AV:=.iface 182 (.ip [.str [118,97,108,117,101,32,111,117,116,32,111,102,32,114,97,110,103,101]] 0)
theorem Nh (st:St) (s:B) (hl:s.length<1000000000) (ha:s.all dig=true) (h0:0<s.length):∀(r:B) (i:Nat),s.drop i=r →
  aw 92 st.length GQ ⟨[(0,.str s),(17,.int .i64 (s.length:Int)),(18,.int .i64 (i:Int))],[]⟩ st=some (.ret (.bool (decide (zy s 0≠48))),st):=by
 intro r
 induction r with
 |nil =>
  intro i hd
  have:=jw hd
  refine IP _ _ _ _ _ ?_
  rw [show decide ((i:Int)<(s.length:Int))=false from decide_eq_false (by omega),cond_false,show decide ((s.length:Int)>0)=true from decide_eq_true (by omega),cond_true]
  simp only [Df h0,zx]
  congr 4
  rw [Bool.eq_iff_iff,bne_iff_ne,decide_eq_true_eq]
  omega
 |cons c r ih =>
  intro i hd
  obtain ⟨g,hd2,hlt⟩:=qa hd
  refine IP _ _ _ _ _ ?_
  have hc:dig c=true:=by
   rw [List.all_eq_true] at ha
   exact ha c (List.mem_of_getElem? g)
  simp only [dig,Bool.and_eq_true,decide_eq_true_eq] at hc
  rw [show decide ((i:Int)<(s.length:Int))=true from decide_eq_true (by omega),cond_true]
  simp only [zO,bind_some,jH g]
  rw [show decide ((c.toNat:Int)<48)=false from decide_eq_false (by omega),cond_false,show decide ((c.toNat:Int)>57)=false from decide_eq_false (by omega),cond_false,e1i (by omega)]
  exact ih (i+1) hd2
theorem Ng (st:St) (s:B) (hl:s.length<1000000000) (ha:s.all dig=true) (h0:0<s.length) (hz:zy s 0≠48) :
  cw 68 [.str s] st=some (.ret (.tup [.int .i64 (if dec s≤9223372036854775807 then (dec s:Int) else 0),.int .i64 (if dec s≤9223372036854775807 then 0 else 100)]),st):=by
 have hne:s≠[]:=by intro e;rw [e] at h0;simp at h0
 have hb:48≤zy s 0∧zy s 0≤57:=by
  rw [List.all_eq_true] at ha
  have:=ha (s.getD 0 0) (List.mem_of_getElem? (DY h0))
  simpa [dig,zy] using this
 have h1:cw 92 [.str s] st=some (.ret (.bool true),st):=by
  refine F92 _ _ ?_
  have e1:(s==[ofNat 48])=false:=by
   rw [beq_eq_false_iff_ne]
   intro e;rw [e] at hz;exact hz rfl
  simp only [qr,bind_some,zp,e1,cond_false]
  rw [show decide ((s.length:Int)>0)=true from decide_eq_true (by omega),cond_true]
  simp only [Df h0]
  have e2:((zy s 0:Int)==45)=false:=by rw [beq_eq_false_iff_ne];omega
  rw [e2,cond_false]
  have:=Nh st s hl ha h0 s 0 rfl
  rw [show ((0:Nat):Int)=0 from rfl] at this
  rw [this]
  simp [hz]
 have hd:Wn s=true:=CV.2 ⟨hne,ha⟩
 have ne:∀x:AV,x = .nili∨(∃t v,x = .iface t v)→True:=fun _ _=>trivial
 refine F68 _ _ ?_
 by_cases hx:dec s≤9223372036854775807
 ·have h2:cw 93 [.str s] st=some (.ret (.tup [.int .i64 (dec s:Int),.nili]),st):=by
   refine Xl (F:=Vv _ _) (by rfl) ?_
   simp only [Vv]
   rw [if_pos ⟨hd,by omega⟩,if_pos (show ZR s≤9223372036854775807 from hx)]
   rfl
  have e3:XJ Tryz.prog BinOp.neq 95 true .nili .nili=some (.bool false):=by kernel_rfl
  simp only [h1,zi,zp,bind_some,Bool.not_true,cond_false,h2,zT,List.getElem?_cons_zero,List.getElem?_cons_succ,zk,e3,zx,if_pos hx]
 ·have h2:cw 93 [.str s] st=some (.ret (.tup [.int .i64 9223372036854775807,.iface 150 (.ip [.str [65,116,111,105],.str s,Ur] 0)]),st):=by
   refine Xl (F:=Vv 150 Ur) (by rfl) ?_
   simp only [Vv]
   rw [if_pos ⟨hd,by omega⟩,if_neg (show ¬ZR s≤9223372036854775807 from hx)]
   rfl
  have e3:XJ Tryz.prog BinOp.neq 95 true (.iface 150 (.ip [.str [65,116,111,105],.str s,Ur] 0)) .nili=some (.bool true):=by kernel_rfl
  simp only [h1,zi,zp,bind_some,Bool.not_true,cond_false,h2,zT,List.getElem?_cons_zero,List.getElem?_cons_succ,zk,e3,cond_true,zx,if_neg hx]
theorem De:∀(f n:Nat),n<10^f→0<f→qM f n=Lib.decDigits n:=by
 intro f
 induction f with
 |zero=>intro n _ h;omega
 |succ f ih =>
  intro n hn _
  rw [Lib.decDigits]
  unfold qM
  have e:∀k:Nat,k<10→(48+k).toUInt8=ofNat (48+k):=fun k _=>rfl
  split
  ·rename_i h;rw [e n h]
  ·rename_i h
   rw [e (n%10) (by omega)]
   cases f with
   |zero=>simp at hn;omega
   |succ f=>rw [ih (n / 10) (by rw [Nat.pow_succ] at hn;omega) (by omega)]
theorem UB (st:St) (n:Int) (h0:0≤n) (h1:n≤9223372036854775807):cw 58 [.int .i64 n] st=some (.ret (.str (X.digits n.toNat)),st):=by
 have e:X.digits n.toNat=Lib.itoa n:=by
  unfold X.digits Lib.itoa
  rw [De 20 n.toNat (by omega) (by omega),if_neg (by omega)]
 have h2:cw 118 [.int .i64 n,.int .i64 10] st=some (.ret (.str (X.digits n.toNat)),st):=by
  refine Xl (F:=GO) (by rfl) ?_
  simp only [GO]
  rw [if_pos ⟨trivial,by omega,h1⟩,e]
 have h3:cw 104 [.int .i64 n] st=some (.ret (.str (X.digits n.toNat)),st):=zbC _ _ (by simp only [h2,zi,zr,bind_some,zx])
 have h4:cw 88 [.int .i64 n] st=some (.ret (.str (X.digits n.toNat)),st):=F88 _ _ (by simp only [h3,zi,zr,bind_some,zx])
 exact F58 _ _ (by simp only [h4,zi,zr,bind_some,zx])
end Go.Abs
namespace Go.Abs
open Go Go.Proofs Go.IntWalk Go.Abs.X
theorem JC (s:B) (i k:Nat):zy (s.drop i) k=zy s (i+k):=by simp [zy,List.getD]
theorem YN (s:B) (i:Nat):(ByteArray.get! ⟨s.toArray⟩ i).toNat=zy s i:=by
 show (s.toArray[i]!).toNat=_
 rw [Array.getElem!_eq_getD]
 simp [zy,List.getD]
 rfl
theorem CR (s:B) (i:Nat) (h:i<s.length):Utf8.decode ⟨s.toArray⟩ i=qn (s.drop i):=by
 have hne:s.drop i≠[]:=by intro e;have:=jw e;omega
 rw [Lib.decode_at,YN,YN,YN,YN]
 unfold qn
 rw [if_neg hne,JC,JC,JC,JC]
 have:(ByteArray.size ⟨s.toArray⟩)=s.length:=by show s.toArray.size=_;simp
 rw [this]
 simp
theorem KS (st:St) (s:B) (p:Nat) (h:p<s.length):YZ (.iter s p::st) true (.it st.length)=some (.tup [.bool true,.int .i64 p,.int .i32 ((qn (s.drop p)).1:Int)],.iter s (p+(qn (s.drop p)).2)::st):=by
 unfold YZ
 simp only [St.get_top,if_pos h,CR s p h,St.put_top]
theorem Dz (st:St) (s:B) (p:Nat) (h:¬p<s.length):YZ (.iter s p::st) true (.it st.length)=some (.tup [.bool false],.iter s p::st):=by
 unfold YZ
 simp only [St.get_top,if_neg h]
theorem LC (st:St) (s:B) (h:Tryz.prog.underlying 9=some .string):ZI Tryz.prog st 9 (.str s)=some (.it st.length,.iter s 0::st):=by
 unfold ZI;rw [h]
theorem Ku:Tryz.prog.underlying 9=some .string:=by kernel_rfl
theorem Xv {st:St} (hs:Cl st) (x:zh) {v:AV} (h1:AV.stripR st.length v=v) (h2:AV.closed st.length v=true):ze false st.length (.ret v) (x::st)=some (.ret v,st):=by
 rw [QO (n:=st.length) h1 h2 (by rw [St.trunc_cons];exact hs) (by simp),St.trunc_cons]
theorem NI (st:St) (hs:Cl st) (s:B) (hl:s.length<1000000000):∀(n p:Nat),s.length≤p+n→p≤s.length →
  ∃place:Int,aw 85 st.length Nk ⟨[(0,.str s),(9,.it st.length)],[]⟩ (.iter s p::st)=some (.ret (.tup [.int .i64 place,.int .i64 (if qI n (s.drop p) then 0 else 300)]),st):=by
 intro n
 induction n with
 |zero =>
  intro p h1 h2
  refine ⟨0,DW _ _ _ _ ?_⟩
  rw [Dz st s p (by omega)]
  have:s.drop p=[]:=List.drop_of_length_le (by omega)
  simp only [qc,zT,List.getElem?_cons_zero,bind_some,zp,cond_false,this,qI,List.isEmpty_nil,if_true]
  exact Xv hs _ rfl rfl
 |succ n ih =>
  intro p h1 h2
  by_cases hp:p<s.length
  ·have hne:s.drop p≠[]:=by intro e;have:=jw e;omega
   have hv:qI (n+1) (s.drop p)=match zI (s.drop p) with | 0=>false | m=>qI n ((s.drop p).drop m):=by
    cases hd:s.drop p with
    |nil=>exact absurd hd hne
    |cons c r=>rfl
   have hcl:∀q,Cl (.iter s q::st):=fun q=>hs.cons rfl
   have hdl:(s.drop p).length<1000000000000:=by simp;omega
   rcases Jl (s.drop p) hne with ⟨h0,hr⟩ | ⟨hw,hc⟩
   ·refine ⟨p,DW _ _ _ _ ?_⟩
    rw [KS st s p hp]
    simp only [qc,zT,List.getElem?_cons_zero,List.getElem?_cons_succ,bind_some,zp,cond_true,zk,Yp h2,zr,WA _ (hcl _) _ hdl,zi,hr]
    rw [show (((65533:Nat):Int)==65533)=true from by decide +kernel,show (((1:Nat):Int)==1)=true from by decide +kernel]
    simp only [cond_true,hv,h0]
    exact Xv hs _ rfl rfl
   ·have hw1:1≤zI (s.drop p):=by omega
    have hle:p+zI (s.drop p)≤s.length:=by have:=hc.le;simp at this;omega
    obtain ⟨place,hrec⟩:=ih (p+zI (s.drop p)) (by omega) hle
    refine ⟨place,DW _ _ _ _ ?_⟩
    rw [KS st s p hp]
    simp only [qc,zT,List.getElem?_cons_zero,List.getElem?_cons_succ,bind_some,zp,cond_true,zk,Yp h2,zr,WA _ (hcl _) _ hdl,zi]
    have hv2:qI (n+1) (s.drop p)=qI n (s.drop (p+zI (s.drop p))):=by
     rw [hv,←List.drop_drop]
     cases hu:zI (s.drop p) with
     |zero=>omega
     |succ m=>rfl
    have hw2:(qn (s.drop p)).2=1→(qn (s.drop p)).1<128:=fun h=>by
     have h3:=hc.one (by rw [←hc.wid];exact h);omega
    rw [hv2,hc.wid]
    by_cases hx:(qn (s.drop p)).1=65533
    ·have e1:(((qn (s.drop p)).1:Int)==65533)=true:=by rw [beq_iff_eq];omega
     have e2:((zI (s.drop p):Int)==1)=false:=by
      rw [beq_eq_false_iff_ne];intro h
      have:=hw2 (by rw [hc.wid];omega);omega
     rw [e1,cond_true,e2,cond_false]
     exact hrec
    ·have e1:(((qn (s.drop p)).1:Int)==65533)=false:=by rw [beq_eq_false_iff_ne];omega
     rw [e1,cond_false]
     exact hrec
  ·refine ⟨0,DW _ _ _ _ ?_⟩
   rw [Dz st s p hp]
   have:s.drop p=[]:=List.drop_of_length_le (by omega)
   simp only [qc,zT,List.getElem?_cons_zero,bind_some,zp,cond_false,this,qI,if_true]
   exact Xv hs _ rfl rfl
theorem MO (st:St) (hs:Cl st) (s:B) (hl:s.length<1000000000):∃place:Int,cw 85 [.str s] st=some (.ret (.tup [.int .i64 place,.int .i64 (if qI s.length s then 0 else 300)]),st):=by
 obtain ⟨place,h⟩:=NI st hs s hl s.length 0 (by omega) (by omega)
 exact ⟨place,F85 _ _ (by rw [LC st s Ku,qc];exact h)⟩
theorem Gy (st:St) (hs:Cl st) (s:B) (hl:s.length<1000000000):cw 52 [.str s] st=some (.ret (.bool (XG s)),st):=by
 obtain ⟨place,h⟩:=MO st hs s hl
 refine F52 _ _ ?_
 simp only [h,zi,zT,List.getElem?_cons_zero,List.getElem?_cons_succ,bind_some,zk,zx]
 unfold XG
 cases hv:qI s.length s with
 |true =>
  simp only [if_true,beq_self_eq_true,cond_true,Bool.true_and]
  congr 4
  rw [Bool.eq_iff_iff,decide_eq_true_eq,decide_eq_true_eq];omega
 |false =>
  simp only [Bool.false_eq_true,if_false,Bool.false_and]
  rw [show ((300:Int)==0)=false from rfl,cond_false]
def okB (c:UInt8):Bool:=decide (32≤c.toNat)||c.toNat==10
theorem LD {c:UInt8} (h:32≤c.toNat):okB c=true:=by simp [okB,h]
theorem Fc {r:B} {i:Nat} {c:UInt8} (h:r[i]?=some c):zy r i=c.toNat:=by
 simp [zy,List.getD,h]
theorem ER (st:St) (hs:Cl st) (s:B) (hl:s.length<1000000000):∀(n p:Nat),s.length≤p+n→p≤s.length →
  aw 53 st.length GT ⟨[(0,.str s),(6,.it st.length)],[]⟩ (.iter s p::st)=some (.ret (.bool (XG s&&(s.drop p).all okB)),st):=by
 intro n
 have fin:∀p,¬p<s.length→aw 53 st.length GT ⟨[(0,.str s),(6,.it st.length)],[]⟩ (.iter s p::st)=some (.ret (.bool (XG s&&(s.drop p).all okB)),st):=by
  intro p hp
  refine IM _ _ _ _ ?_
  rw [Dz st s p hp]
  have:s.drop p=[]:=List.drop_of_length_le (by omega)
  have hv:=Gy (.iter s p::st) (hs.cons rfl) s hl
  simp only [qc,zT,List.getElem?_cons_zero,bind_some,zp,cond_false,this,hv,zi,List.all_nil,Bool.and_true]
  exact Xv hs _ rfl rfl
 induction n with
 |zero=>intro p h1 h2;exact fin p (by omega)
 |succ n ih =>
  intro p h1 h2
  by_cases hp:p<s.length
  ·have hne:s.drop p≠[]:=by intro e;have:=jw e;omega
   refine IM _ _ _ _ ?_
   rw [KS st s p hp]
   simp only [qc,zT,List.getElem?_cons_zero,List.getElem?_cons_succ,bind_some,zp,cond_true,zk]
   rcases Jl (s.drop p) hne with ⟨h0,hr⟩ | ⟨hw,hc⟩
   ·have hrec:=ih (p+1) (by omega) (by omega)
    rw [hr]
    have e1:decide (((65533:Nat):Int)<32)=false:=by decide
    rw [e1,cond_false]
    have hall:(s.drop p).all okB=(s.drop (p+1)).all okB:=by
     cases hd:s.drop p with
     |nil=>exact absurd hd hne
     |cons c r =>
      rw [←List.drop_drop,hd,List.drop_succ_cons,List.drop_zero,List.all_cons]
      have hcc:okB c=true:=by
       refine LD ?_
       rw [hd] at h0
       by_cases hlo:c.toNat<128
       ·simp [zI,hlo] at h0
       ·omega
      rw [hcc,Bool.true_and]
    rw [hall]
    exact hrec
   ·have hle:p+zI (s.drop p)≤s.length:=by have:=hc.le;simp at this;omega
    have hrec:=ih (p+zI (s.drop p)) (by omega) hle
    rw [hc.wid]
    have hsplit:(s.drop p).all okB=(((s.drop p).take (zI (s.drop p))).all okB&&(s.drop (p+zI (s.drop p))).all okB):=by
     rw [←List.all_append,←List.drop_drop,List.take_append_drop]
    have hk:∀k,k<zI (s.drop p)→32≤zy (s.drop p) k→True:=fun _ _ _=>trivial
    have hmem:(∀k,k<zI (s.drop p)→32≤zy (s.drop p) k)→((s.drop p).take (zI (s.drop p))).all okB=true:=by
     intro h
     rw [List.all_eq_true]
     intro c hcm
     obtain ⟨k,hk⟩:=List.getElem?_of_mem hcm
     rw [List.getElem?_take] at hk
     split at hk
     ·rename_i hkl
      have:=h k hkl
      rw [Fc hk] at this
      exact LD this
     ·cases hk
    by_cases h1':zI (s.drop p)=1
    ·obtain ⟨g1,g2⟩:=hc.one h1'
     have ht:((s.drop p).take 1).all okB=okB ((s.drop p).getD 0 0):=by
      cases hd:s.drop p with
      |nil=>exact absurd hd hne
      |cons c r=>simp
     rw [g1]
     by_cases hlo:zy (s.drop p) 0<32
     ·rw [show decide ((zy (s.drop p) 0:Int)<32)=true from decide_eq_true (by omega),cond_true]
      by_cases h10:zy (s.drop p) 0=10
      ·have e:((zy (s.drop p) 0:Int) != 10)=false:=by rw [bne_eq_false_iff_eq];omega
       rw [e,cond_false,hsplit,h1',ht]
       have:okB ((s.drop p).getD 0 0)=true:=by unfold okB;rw [show ((s.drop p).getD 0 0).toNat=zy (s.drop p) 0 from rfl,h10];rfl
       rw [this,Bool.true_and,←h1']
       exact hrec
      ·have e:((zy (s.drop p) 0:Int) != 10)=true:=by rw [bne_iff_ne];omega
       have h2':okB ((s.drop p).getD 0 0)=false:=by
        unfold okB;rw [show ((s.drop p).getD 0 0).toNat=zy (s.drop p) 0 from rfl]
        simp [h10];omega
       rw [e,cond_true,hsplit,h1',ht,h2',Bool.false_and,Bool.and_false]
       exact Xv hs _ rfl rfl
     ·have hone:∀k,k<zI (s.drop p)→32≤zy (s.drop p) k:=by
       intro k hk
       have hk0:k=0:=by omega
       subst hk0;omega
      rw [show decide ((zy (s.drop p) 0:Int)<32)=false from decide_eq_false (by omega),cond_false,hsplit,hmem hone,Bool.true_and]
      exact hrec
    ·have hbig:128≤(qn (s.drop p)).1∧∀k,k<zI (s.drop p)→32≤zy (s.drop p) k:=by
      rcases hw with hw | hw | hw | hw
      ·exact absurd hw h1'
      ·obtain ⟨g1,g2,g3,g4⟩:=hc.two hw
       refine ⟨g4,fun k hk=>?_⟩
       have:k=0∨k=1:=by omega
       rcases this with rfl | rfl<;>omega
      ·obtain ⟨g1,g2,g3,g3',g4,g5⟩:=hc.three hw
       refine ⟨by omega,fun k hk=>?_⟩
       have:k=0∨k=1∨k=2:=by omega
       rcases this with rfl | rfl | rfl<;>omega
      ·obtain ⟨g1,g2,g3,g3',g3'',g4,g5⟩:=hc.four hw
       refine ⟨by omega,fun k hk=>?_⟩
       have:k=0∨k=1∨k=2∨k=3:=by omega
       rcases this with rfl | rfl | rfl | rfl<;>omega
     rw [show decide (((qn (s.drop p)).1:Int)<32)=false from decide_eq_false (by omega),cond_false,hsplit,hmem hbig.2,Bool.true_and]
     exact hrec
  ·exact fin p hp
theorem Qn (st:St) (hs:Cl st) (s:B) (hl:s.length<1000000000):cw 53 [.str s] st=some (.ret (.bool (Ju s)),st):=by
 have h:=ER st hs s hl s.length 0 (by omega) (by omega)
 exact F53 _ _ (by rw [LC st s Ku,qc];exact h)
theorem jz (st:St) (hs:Cl st):cw 51 [] st=some (.ret (.sl 1 (qw X.calls) 0 8 .no),st):=by
 refine F51 _ ?_
 have h:=Kk st hs X.calls (by unfold word;decide +kernel) (by decide) (by decide +kernel)
 have e:jW X.calls=[108,101,110,32,115,116,114,32,105,56,32,117,56,32,105,49,54,32,117,49,54,32,105,51,50,32,117,51,50]:=by decide
 rw [e] at h
 have h':cw 84 [AV.str [ofNat 108,ofNat 101,ofNat 110,ofNat 32,ofNat 115,ofNat 116,ofNat 114,ofNat 32,ofNat 105,ofNat 56,ofNat 32,ofNat 117,ofNat 56,ofNat 32,
   ofNat 105,ofNat 49,ofNat 54,ofNat 32,ofNat 117,ofNat 49,ofNat 54,ofNat 32,ofNat 105,ofNat 51,ofNat 50,ofNat 32,ofNat 117,ofNat 51,
   ofNat 50]] st=some (.ret (.sl 1 (qw X.calls) 0 8 .no),st):=h
 rw [h',zi]
 simp [qN]
theorem BK (st:St) (hs:Cl st):cw 74 [] st=some (.ret (.sl 1 (qw X.signs) 0 27 .no),st):=by
 refine F74 _ ?_
 have h:=Kk st hs X.signs (by unfold word;decide +kernel) (by decide) (by decide +kernel)
 have e:jW X.signs=[124,124,32,38,38,32,61,61,32,33,61,32,60,61,32,62,61,32,60,60,32,62,62,32,63,32,58,32,60,32,62,32,124,32,94,32,38,32,126,32,43,32,45,32,42,32,47,32,37,32,33,32,46,32,91,32,93,32,40,32,41]:=by decide +kernel
 rw [e] at h
 refine Eq.trans (b:=zg (cw 84 [.str [124,124,32,38,38,32,61,61,32,33,61,32,60,61,32,62,61,32,60,60,32,62,62,32,63,32,58,32,60,32,62,32,124,32,94,32,38,32,126,32,43,32,45,32,42,32,47,32,37,32,33,32,46,32,91,32,93,32,40,32,41]] st)
  (fun v st_1=>zX (qN st_1 v) fun v st_2=>ze false (st.length) (zd.ret v) st_2) fun v st_1=>ze false (st.length) (zd.pan v) st_1) rfl ?_
 rw [h,zi]
 simp [qN]
 rfl
end Go.Abs
namespace Go.Abs
open Go Go.Proofs Go.IntWalk Go.Abs.X
def rd (s:B) (i c:Int) (k:Int) (ts:B) (n a:Int):List AV:=[.str s,.int .i64 i,.int .i64 c,.int .i64 k,.str ts,.int .i64 n,.int .i64 a]
def tk (k:Int) (ts:B) (n a:Int):List AV:=[.int .i64 k,.str ts,.int .i64 n,.int .i64 a]
abbrev RB (cs:List AV):zh:=.box 49 cs
abbrev TB (cs:List AV):zh:=.box 47 cs
section
variable (s:B) (i c k:Int) (ts:B) (n a:Int)
@[simp] theorem Wy:zj (rd s i c k ts n a) 0 1 false=some (.str s):=rfl
@[simp] theorem JW:zj (rd s i c k ts n a) 1 1 false=some (.int .i64 i):=rfl
@[simp] theorem Bx:zj (rd s i c k ts n a) 2 1 false=some (.int .i64 c):=rfl
@[simp] theorem zaj:zj (rd s i c k ts n a) 3 1 false=some (.int .i64 k):=rfl
@[simp] theorem zbs:zj (rd s i c k ts n a) 4 1 false=some (.str ts):=rfl
@[simp] theorem zbT:zj (rd s i c k ts n a) 5 1 false=some (.int .i64 n):=rfl
@[simp] theorem zb4:zj (rd s i c k ts n a) 6 1 false=some (.int .i64 a):=rfl
@[simp] theorem zaS:zj (rd s i c k ts n a) 3 4 true=some (.agg (tk k ts n a)):=rfl
@[simp] theorem Ux (x:Int):setAt (rd s i c k ts n a) 1 [.int .i64 x]=some (rd s x c k ts n a):=rfl
@[simp] theorem LJ (x:Int):setAt (rd s i c k ts n a) 2 [.int .i64 x]=some (rd s i x k ts n a):=rfl
@[simp] theorem Kg (k':Int) (ts':B) (n' a':Int):setAt (rd s i c k ts n a) 3 (tk k' ts' n' a')=some (rd s i c k' ts' n' a'):=rfl
@[simp] theorem Hi:zj (tk k ts n a) 0 1 false=some (.int .i64 k):=rfl
@[simp] theorem Hg:zj (tk k ts n a) 1 1 false=some (.str ts):=rfl
@[simp] theorem zbS:zj (tk k ts n a) 2 1 false=some (.int .i64 n):=rfl
@[simp] theorem Lq:zj (tk k ts n a) 3 1 false=some (.int .i64 a):=rfl
@[simp] theorem WV:zj (tk k ts n a) 0 4 true=some (.agg (tk k ts n a)):=rfl
@[simp] theorem MN (x:Int):setAt (tk k ts n a) 0 [.int .i64 x]=some (tk x ts n a):=rfl
@[simp] theorem Hj (x:B):setAt (tk k ts n a) 1 [.str x]=some (tk k x n a):=rfl
@[simp] theorem zbf (x:Int):setAt (tk k ts n a) 2 [.int .i64 x]=some (tk k ts x a):=rfl
@[simp] theorem QN:zq 4 (.agg (tk k ts n a))=some (tk k ts n a):=rfl
end
def W2 (st:St) (o q:Nat) (x y:List AV):St:=(st.put o (RB x)).put q (TB y)
section
variable {st:St} {o q:Nat} {x y:List AV}
structure Two (st:St) (o q:Nat):Prop where
 ne:o≠q
 o:o<st.length
 q:q<st.length
variable (h:Two st o q)
include h
theorem W2.get_o:(W2 st o q x y).get o=some (RB x):=by
 unfold W2
 rw [St.get_put_other h.ne,St.get_put_same h.o]
theorem W2.get_q:(W2 st o q x y).get q=some (TB y):=by
 unfold W2
 rw [St.get_put_same (by simpa using h.q)]
theorem W2.rd_o (k n:Nat) (ag:Bool):zf (W2 st o q x y) (.bp o k) n ag=zj x k n ag:=zn (W2.get_o h)
theorem W2.rd_q (k n:Nat) (ag:Bool):zf (W2 st o q x y) (.bp q k) n ag=zj y k n ag:=zn (W2.get_q h)
omit h in
theorem St.put_comm {a b:Nat} {u v:zh} (hab:a≠b):(st.put a u).put b v=(st.put b v).put a u:=by
 unfold St.put
 by_cases ha:a<st.length<;>by_cases hb:b<st.length<;>simp only [if_pos,if_neg,ha,hb,List.length_set,not_false_eq_true]
 exact List.set_comm _ _ (by omega)
theorem W2.put_o (x':List AV):(W2 st o q x y).put o (RB x')=W2 st o q x' y:=by
 unfold W2
 rw [St.put_comm (fun e=>h.ne e.symm),St.put_put]
omit h in
theorem W2.put_q (y':List AV):(W2 st o q x y).put q (TB y')=W2 st o q x y':=by
 unfold W2
 rw [St.put_put]
theorem W2.wr_o {k:Nat} {cs x':List AV} (hs:setAt x k cs=some x'):zl (W2 st o q x y) (.bp o k) cs=some (W2 st o q x' y):=by
 rw [zM (W2.get_o h) hs,W2.put_o h]
theorem W2.wr_q {k:Nat} {cs y':List AV} (hs:setAt y k cs=some y'):zl (W2 st o q x y) (.bp q k) cs=some (W2 st o q x y'):=by
 rw [zM (W2.get_q h) hs,W2.put_q]
omit h in
theorem W2.len:(W2 st o q x y).length=st.length:=by unfold W2;simp
omit h in
end
theorem Ht {st:St} (h:Cl st) {o:Nat} {x:zh} (hx:zh.closed st.length x=true):Cl (st.put o x):=by
 unfold Cl St.closed at h ⊢
 unfold St.put
 split
 ·rename_i ho
  rw [List.length_set]
  rw [List.all_eq_true] at h ⊢
  intro y hy
  rcases List.mem_or_eq_of_mem_set hy with hy | rfl
  ·exact h y hy
  ·exact hx
 ·exact h
theorem W2.cl {st:St} (h:Cl st) {o q:Nat} {s:B} {i c k:Int} {ts:B} {n a k':Int} {ts':B} {n' a':Int}:Cl (W2 st o q (rd s i c k ts n a) (tk k' ts' n' a')):=by
 unfold W2
 exact Ht (Ht h rfl) rfl
theorem LH (st:St) (c:UInt8):cw 70 [.int .u8 (c.toNat:Int)] st=some (.ret (.bool (dig c)),st):=by
 refine F70 _ _ ?_
 simp only [zx,Bool.cond_eq_ite,decide_eq_true_eq]
 have:∀p r:Prop,[Decidable p]→[Decidable r]→(p↔r)→decide p=decide r:=fun p r _ _ h=>by simp [h]
 split
 ·congr 4
  unfold dig
  rw [decide_eq_true (p:=48≤c.toNat) (by omega),Bool.true_and]
  exact this _ _ (by omega)
 ·congr 4
  unfold dig
  rw [decide_eq_false (p:=48≤c.toNat) (by omega),Bool.false_and]
theorem Cd (st:St) (c:UInt8):cw 71 [.int .u8 (c.toNat:Int)] st=some (.ret (.bool (nam c)),st):=by
 refine F71 _ _ ?_
 simp only [LH,zi,zp,bind_some,zx]
 cases hd:dig c with
 |true=>simp [nam,hd]
 |false =>
  have e95:((c.toNat:Int)==95)=(c.toNat==95):=by rw [Bool.eq_iff_iff,beq_iff_eq,beq_iff_eq];omega
  rw [cond_false]
  simp only [Bool.cond_eq_ite,decide_eq_true_eq,nam,hd,Bool.false_or,sml,e95]
  split
  ·split
   ·congr 4
    rw [decide_eq_true (p:=97≤c.toNat) (by omega),decide_eq_true (p:=c.toNat≤122) (by omega)];rfl
   ·congr 4
    rw [decide_eq_false (p:=c.toNat≤122) (by omega),Bool.and_false,Bool.false_or]
  ·congr 4
   rw [decide_eq_false (p:=97≤c.toNat) (by omega),Bool.false_and,Bool.false_or]
section
variable (st:St) (o q:Nat) (h2:Two st o q) (s:B) (hl:s.length<1000000000) (y:List AV) (c k:Int) (ts:B) (n a:Int)
include h2 hl
theorem CN (w:UInt8→Bool) (g:FuncId) (hg:∀(S:St) (c:UInt8),cw g [.int .u8 (c.toNat:Int)] S=some (.ret (.bool (w c)),S)) (hx:(if g=103 then some JA else if g=91 then some ZN else none).isSome=false) (f:Nat):∀(r:B) (i:Nat),s.drop i=r→f≤i→i≤s.length →
  aw 69 (W2 st o q [] []).length DI ⟨[(0,.bp o 0),(1,.fn g []),(5,.int .i64 (f:Int))],[]⟩ (W2 st o q (rd s i c k ts n a) y)
   = some (.ret (.str ((s.take (i+(r.takeWhile w).length)).drop f)),W2 st o q (rd s ((i+(r.takeWhile w).length:Nat):Int) c k ts n a) y):=by
 have hlen:(W2 st o q [] []).length=st.length:=W2.len
 have hout:∀(v:AV) (x y:List AV),ze false (W2 st o q [] []).length (.ret v) (W2 st o q x y)=some (.ret v,W2 st o q x y):=fun v x y=>by
  rw [hlen,←W2.len (st:=st) (o:=o) (q:=q) (x:=x) (y:=y)];exact zx _ _
 have hend:∀i:Nat,f≤i→i≤s.length→∀K:Option (zd×St),K=((qA (.str s) (some (.int .i64 (f:Int))) (some (.int .i64 (i:Int)))).bind fun v=>(zA v).bind fun s_1=>ze false (W2 st o q [] []).length (.ret (.str s_1)) (W2 st o q (rd s i c k ts n a) y)) →
   K=some (.ret (.str ((s.take i).drop f)),W2 st o q (rd s i c k ts n a) y):=by
  intro i h1 h3 K hK
  rw [hK,DG h1 h3]
  simp only [bind_some,zr,hout]
 intro r
 induction r with
 |nil =>
  intro i hd hf hi
  have:=jw hd
  refine za5 _ _ _ _ _ ?_
  simp only [zu,zE,bind_some,Nat.zero_add,W2.rd_o h2,Wy,JW,zk,zr]
  rw [show decide ((i:Int)<(s.length:Int))=false from decide_eq_false (by omega),cond_false]
  simp only [List.takeWhile_nil,List.length_nil,Nat.add_zero]
  exact hend i hf hi _ rfl
 |cons b r ih =>
  intro i hd hf hi
  obtain ⟨gb,hd2,hlt⟩:=qa hd
  refine za5 _ _ _ _ _ ?_
  simp only [zu,zE,bind_some,Nat.zero_add,W2.rd_o h2,Wy,JW,zk,zr]
  rw [show decide ((i:Int)<(s.length:Int))=true from decide_eq_true (by omega),cond_true]
  simp only [zO,bind_some,jH gb,fnV,hx,Bool.false_eq_true,if_false,List.append_nil,hg,zi,zp,W2.rd_o h2,Wy,JW,zk,zr]
  cases hw:w b with
  |true =>
   simp only [cond_true,e1i (show i<1000000000000 by omega)]
   rw [W2.wr_o h2 (Ux _ _ _ _ _ _ _ _)]
   simp only [bind_some]
   rw [show (W2 st o q (rd s i c k ts n a) y).length=(W2 st o q (rd s ((i+1:Nat):Int) c k ts n a) y).length by rw [W2.len,W2.len],QQ]
   simp only [bind_some]
   rw [List.takeWhile_cons,if_pos hw,List.length_cons,show i+((r.takeWhile w).length+1)=i+1+(r.takeWhile w).length by omega]
   exact ih (i+1) hd2 (by omega) (by omega)
  |false =>
   simp only [cond_false]
   rw [List.takeWhile_cons,if_neg (by simp [hw])]
   simp only [List.length_nil,Nat.add_zero]
   exact hend i hf hi _ rfl
theorem Cj (w:UInt8→Bool) (g:FuncId) (hg:∀(S:St) (c:UInt8),cw g [.int .u8 (c.toNat:Int)] S=some (.ret (.bool (w c)),S)) (hx:(if g=103 then some JA else if g=91 then some ZN else none).isSome=false) (b:UInt8) (r:B) (i:Nat) (hd:s.drop i=b::r) :
  cw 69 [.bp o 0,.fn g []] (W2 st o q (rd s i c k ts n a) y)
   = some (.ret (.str (b::r.takeWhile w)),W2 st o q (rd s ((i+(b::r.takeWhile w).length:Nat):Int) c k ts n a) y):=by
 obtain ⟨gb,hd2,hlt⟩:=qa hd
 refine F69 _ _ _ ?_
 simp only [zu,zE,bind_some,Nat.zero_add,W2.rd_o h2,JW,zk,e1i (show i<1000000000000 by omega)]
 rw [W2.wr_o h2 (Ux _ _ _ _ _ _ _ _)]
 simp only [bind_some]
 have h:=CN st o q h2 s hl y c k ts n a w g hg hx i r (i+1) hd2 (by omega) (by omega)
 rw [show (W2 st o q [] []).length=(W2 st o q (rd s i c k ts n a) y).length by rw [W2.len,W2.len]] at h
 rw [h]
 have e:(s.take (i+1+(r.takeWhile w).length)).drop i=b::r.takeWhile w:=by
  rw [List.drop_take,hd,show i+1+(r.takeWhile w).length - i=(r.takeWhile w).length+1 by omega,List.take_succ_cons]
  exact congrArg (b::·) (List.prefix_iff_eq_take.1 (List.takeWhile_prefix (l:=r) w)).symm
 rw [e,List.length_cons,show i+1+(r.takeWhile w).length=i+((r.takeWhile w).length+1) by omega]
end
theorem Da {st:St} {o q:Nat} (m:Nat) (hm:m=st.length) (v:zd) (x y:List AV):ze false m v (W2 st o q x y)=some (v,W2 st o q x y):=by
 rw [hm,←W2.len (st:=st) (o:=o) (q:=q) (x:=x) (y:=y)];exact zx _ _
def jo (code:Int) (p:Nat):AV:=.iface 43 (.agg [.int .i64 code,.int .i64 (p:Int)])
theorem jf (st:St) (code:Int) (p:Nat):cw 38 [.int .i64 code,.int .i64 (p:Int)] st=some (.pan (jo code p),st) :=
 F38 _ _ _ (by simp only [zx];rfl)
section
variable (st:St) (o q:Nat) (h2:Two st o q) (s:B) (hl:s.length<1000000000) (c k:Int) (ts:B) (n a:Int) (x:Nat)
include h2 hl
theorem FA (b:UInt8) (r:B) (i:Nat) (hd:s.drop i=b::r) (hb:dig b=true) (tq:B) :
  cw 34 [.bp o 0,.bp q 0] (W2 st o q (rd s i c k ts n a) (tk 0 [] 0 (x:Int))) =
   (if b.toNat=48 then some (.ret (.tup []),W2 st o q (rd s ((i+1:Nat):Int) c k ts n a) (tk 1 [] 0 x))
   else if dec (b::r.takeWhile dig)≤9223372036854775807 then some (.ret (.tup []),W2 st o q (rd s ((i+(b::r.takeWhile dig).length:Nat):Int) c k ts n a) (tk 1 [] (dec (b::r.takeWhile dig):Nat) x))
   else some (.pan (jo 1000 x),W2 st o q (rd s ((i+(b::r.takeWhile dig).length:Nat):Int) c k ts n a) (tk 1 [] 0 x))):=by
 obtain ⟨gb,hd2,hlt⟩:=qa hd
 by_cases h48:b.toNat=48
 ·rw [if_pos h48]
  refine F34 _ _ _ ?_
  simp only [zu,zE,bind_some,Nat.zero_add]
  rw [W2.wr_q h2 (MN _ _ _ _ _)]
  simp only [bind_some,W2.rd_o h2,Wy,JW,zk,zr,zO,jH gb]
  rw [show ((b.toNat:Int)==48)=true by rw [beq_iff_eq];omega,cond_true,e1i (show i<1000000000000 by omega),W2.wr_o h2 (Ux _ _ _ _ _ _ _ _)]
  simp only [bind_some]
  exact Da _ W2.len _ _ _
 ·rw [if_neg h48]
  have hrun:=Cj st o q h2 s hl (tk 1 [] 0 x) c k ts n a dig 70 (fun S c=>LH S c) (by rfl) b r i hd
  have hall:(b::r.takeWhile dig).all dig=true:=by
   rw [List.all_cons,hb,Bool.true_and,List.all_eq_true]
   intro z hz
   exact List.all_eq_true.1 List.all_takeWhile z hz
  have hlen:(b::r.takeWhile dig).length≤s.length:=by
   have h1:=(List.takeWhile_prefix (l:=r) dig).length_le
   have h3:=congrArg List.length hd
   simp at h3 ⊢;omega
  have hpar:∀S,cw 68 [.str (b::r.takeWhile dig)] S=_:=fun S=>Ng S (b::r.takeWhile dig) (by omega) hall (by simp) h48
  have key:∀R,_:=fun R=>F34 (.bp o 0) (.bp q 0) (W2 st o q (rd s i c k ts n a) (tk 0 [] 0 (x:Int))) (r:=R)
  simp only [zu,zE,bind_some,Nat.zero_add] at key
  simp only [W2.wr_q h2 (MN _ _ _ _ _),bind_some,W2.rd_o h2,Wy,JW,zk,zr,zO,jH gb] at key
  rw [show ((b.toNat:Int)==48)=false by rw [beq_eq_false_iff_ne];omega] at key
  simp only [cond_false,hrun,zi,zr,bind_some,hpar,zT,List.getElem?_cons_zero,List.getElem?_cons_succ,zk] at key
  by_cases hx:dec (b::r.takeWhile dig)≤9223372036854775807
  ·rw [if_pos hx]
   simp only [if_pos hx] at key
   rw [show ((0:Int) != 0)=false from rfl] at key
   simp only [cond_false,W2.wr_q h2 (zbf _ _ _ _ _),bind_some] at key
   exact key _ (Da _ W2.len _ _ _)
  ·rw [if_neg hx]
   simp only [if_neg hx] at key
   rw [show ((100:Int) != 0)=true from rfl] at key
   simp only [cond_true,W2.rd_q h2,Lq,bind_some,zk,jf,zF] at key
   exact key _ (Da _ W2.len _ _ _)
theorem CM (b:UInt8) (r:B) (i:Nat) (hd:s.drop i=b::r) :
  cw 35 [.bp o 0,.bp q 0] (W2 st o q (rd s i c k ts n a) (tk 0 [] 0 (x:Int))) =
   (if (b::r.takeWhile nam).length>32 then some (.pan (jo 1000 x),W2 st o q (rd s ((i+(b::r.takeWhile nam).length:Nat):Int) c k ts n a) (tk 3 (b::r.takeWhile nam) 0 x))
   else some (.ret (.tup []),W2 st o q (rd s ((i+(b::r.takeWhile nam).length:Nat):Int) c k ts n a) (tk 3 (b::r.takeWhile nam) 0 x))):=by
 have hrun:=Cj st o q h2 s hl (tk 3 [] 0 x) c k ts n a nam 71 (fun S c=>Cd S c) (by rfl) b r i hd
 have key:∀R,_:=fun R=>F35 (.bp o 0) (.bp q 0) (W2 st o q (rd s i c k ts n a) (tk 0 [] 0 (x:Int))) (r:=R)
 simp only [zu,zE,bind_some,Nat.zero_add] at key
 simp only [W2.wr_q h2 (MN _ _ _ _ _),bind_some,hrun,zi,zr,W2.wr_q h2 (Hj _ _ _ _ _),W2.rd_q h2,Hg] at key
 generalize b::r.takeWhile nam=d at key ⊢
 by_cases hx:d.length>32
 ·rw [if_pos hx]
  rw [show decide ((d.length:Int)>32)=true from decide_eq_true (by omega)] at key
  simp only [cond_true,W2.rd_q h2,Lq,bind_some,zk,jf,zF] at key
  exact key _ (Da _ W2.len _ _ _)
 ·rw [if_neg hx]
  rw [show decide ((d.length:Int)>32)=false from decide_eq_false (by omega)] at key
  simp only [cond_false] at key
  exact key _ (Da _ W2.len _ _ _)
theorem Fg (hi:∃i:Nat,True) (i:Nat) (hil:i≤s.length) (base:Nat) (hb:base=st.length):∀(rest:List B) (j:Nat),X.signs.drop j=rest→j≤27 →
  aw 37 base Ec ⟨[(0,.bp o 0),(1,.bp q 0),(9,.sl 1 (qw X.signs) 0 27 .no),(10,.int .i64 27),(11,.int .i64 (j:Int))],[]⟩ (W2 st o q (rd s i c k ts n a) (tk 4 [] 0 (x:Int))) =
   (match rest.find? fun g=>g.isPrefixOf (s.drop i) with
   |some g=>some (.ret (.tup []),W2 st o q (rd s ((i+g.length:Nat):Int) c k ts n a) (tk 4 g 0 x))
   |none=>some (.pan (jo 1000 x),W2 st o q (rd s i c k ts n a) (tk 4 [] 0 x))):=by
 intro rest
 induction rest with
 |nil =>
  intro j hj hj2
  have hj3:27≤j:=by have:=congrArg List.length hj;simp [X.signs] at this;omega
  have key:∀R,_:=fun R=>za2 (.bp o 0) (.bp q 0) (.sl 1 (qw X.signs) 0 27 .no) 27 (j:Int) base (W2 st o q (rd s i c k ts n a) (tk 4 [] 0 (x:Int))) (r:=R)
  rw [show decide ((j:Int)<27)=false from decide_eq_false (by omega)] at key
  simp only [cond_false,zu,zE,bind_some,Nat.zero_add,W2.rd_q h2,Lq,zk,jf,zF] at key
  exact key _ (Da _ hb _ _ _)
 |cons g rest ih =>
  intro j hj hj2
  have hgl:=congrArg List.length hj
  have hj3:j<27:=by simp [X.signs] at hgl;omega
  have hg:X.signs[j]?=some g:=by
   have:(X.signs.drop j)[0]?=some g:=by rw [hj];rfl
   rw [List.getElem?_drop] at this;simpa using this
  have hrest:X.signs.drop (j+1)=rest:=by rw [←List.drop_drop,hj];rfl
  have hrow:(qw X.signs)[0+j]?=some [.str g]:=by simp [qw,hg]
  have hix:∀S,zt S 1 (.sl 1 (qw X.signs) 0 27 .no) j=some (.ip [.str g] 0):=fun S=>by
   unfold zt
   dsimp only
   rw [if_pos ⟨rfl,hj3⟩,hrow];rfl
  have hgs:g.length≤2:=by
   have:∀g ∈ X.signs,g.length≤2:=by decide
   exact this g (List.mem_of_getElem? hg)
  have key:∀R,_:=fun R=>za2 (.bp o 0) (.bp q 0) (.sl 1 (qw X.signs) 0 27 .no) 27 (j:Int) base (W2 st o q (rd s i c k ts n a) (tk 4 [] 0 (x:Int))) (r:=R)
  rw [show decide ((j:Int)<27)=true from decide_eq_true (by omega)] at key
  simp only [cond_true,zO,bind_some,hix,GH,zr,zu,zE,Nat.zero_add,W2.rd_o h2,Wy,JW,zk,Yp hil,Lc _ (s.drop i) g (by simp;omega),zi,zp,e1i (show j<1000000000000 by omega)] at key
  rw [List.find?_cons]
  cases hp:g.isPrefixOf (s.drop i) with
  |true =>
   simp only [hp,cond_true,W2.wr_q h2 (Hj _ _ _ _ _),bind_some,W2.rd_o h2,JW,zk] at key
   rw [zbb (by omega)] at key
   simp only [W2.wr_o h2 (Ux _ _ _ _ _ _ _ _),bind_some] at key
   exact key _ (Da _ hb _ _ _)
  |false =>
   simp only [hp,cond_false,ih (j+1) hrest (by omega)] at key
   simp only
   cases hf:rest.find? fun g=>g.isPrefixOf (s.drop i) with
   |some g'=>simp only [hf] at key;exact key _ rfl
   |none=>simp only [hf] at key;exact key _ rfl
theorem In (i:Nat) (hs:Cl st) (hil:i≤s.length) :
  cw 37 [.bp o 0,.bp q 0] (W2 st o q (rd s i c k ts n a) (tk 0 [] 0 (x:Int))) =
   (match X.signs.find? fun g=>g.isPrefixOf (s.drop i) with
   |some g=>some (.ret (.tup []),W2 st o q (rd s ((i+g.length:Nat):Int) c k ts n a) (tk 4 g 0 x))
   |none=>some (.pan (jo 1000 x),W2 st o q (rd s i c k ts n a) (tk 4 [] 0 x))):=by
 have key:∀R,_:=fun R=>F37 (.bp o 0) (.bp q 0) (W2 st o q (rd s i c k ts n a) (tk 0 [] 0 (x:Int))) (r:=R)
 have hlen:zL (.sl 1 (qw X.signs) 0 27 .no)=some (.int .i64 27):=rfl
 have hloop:=Fg st o q h2 s hl c k ts n a x ⟨0,trivial⟩ i hil (W2 st o q (rd s i c k ts n a) (tk 0 [] 0 (x:Int))).length W2.len X.signs 0 rfl (by omega)
 rw [show ((0:Nat):Int)=0 from rfl] at hloop
 simp only [zu,zE,bind_some,Nat.zero_add,W2.wr_q h2 (MN _ _ _ _ _),BK _ (W2.cl hs),zi,hlen,zk,hloop] at key
 cases hf:X.signs.find? fun g=>g.isPrefixOf (s.drop i) with
 |some g'=>simp only [hf] at key;exact key _ rfl
 |none=>simp only [hf] at key;exact key _ rfl
end
end Go.Abs
namespace Go.Abs
open Go Go.Proofs Go.IntWalk Go.Abs.X
theorem zU {B S:St} {v:AV} (hU:Up B S) (hB:Cl B) (h1:AV.stripR B.length v=v) (h2:AV.closed B.length v=true):ze false B.length (.ret v) S=some (.ret v,B):=by
 rw [QO h1 h2 (by rw [hU.low];exact hB) hU.len,hU.low]
theorem Yn {B S:St} {v:AV} (hU:Up B S) (hB:Cl B) (h2:AV.closed B.length v=true):ze false B.length (.pan v) S=some (.pan v,B):=by
 unfold ze
 by_cases he:S.length=B.length
 ·have:S=B:=by
   have:=hU.low
   unfold St.trunc at this
   rw [he,Nat.sub_self] at this;simpa using this
  rw [this];simp
 ·have:(S.length==B.length)=false:=by simpa using he
  simp only [this,Bool.or_self,Bool.false_eq_true,if_false,h2,hU.low,Bool.true_and]
  rw [if_pos (show St.closed B.length B=true from hB)]
theorem Uk (l:B):qj (qb l)=some l:=by
 induction l with
 |nil=>rfl
 |cons c l ih =>
  have:qj (qb (c::l))=(qj (qb l)).map (ofNat (c.toNat:Int).toNat::·):=rfl
  rw [this,ih]
  have:ofNat (c.toNat:Int).toNat=c:=by
   apply UInt8.toNat_inj.1
   have:=c.toNat_lt
   simp [UInt8.toNat_ofNat]
  rw [this];rfl
theorem YO.str {n:Nat} {S:St} {v:AV} {l:B} (h:YO n S v l):Jg S v=some (.str l):=by
 rcases h with ⟨rfl,rfl⟩ | ⟨o,ho,hM⟩
 ·rfl
 ·have hr:=hM.rd.rows
  obtain ⟨ep,rfl,hg⟩:=hM
  unfold Jg
  simp only [hr,bind_some,Uk,map_some]
theorem YO.len {n:Nat} {S:St} {v:AV} {l:B} (h:YO n S v l):zL v=some (.int .i64 l.length):=by
 rcases h with ⟨rfl,rfl⟩ | ⟨o,ho,hM⟩
 ·rfl
 ·rw [hM.rd.len,ZX]
theorem YO.put {n:Nat} {S:St} {v:AV} {l:B} (h:YO n S v l) {o:Nat} (ho:o<n) (x:zh):YO n (S.put o x) v l:=by
 rcases h with h | ⟨t,ht,hM⟩
 ·exact .inl h
 ·exact .inr ⟨t,ht,hM.same (St.get_put_other (by omega))⟩
section
variable (st:St) (o q:Nat) (h2:Two st o q) (hst:Cl st) (s:B) (hl:s.length<800000000) (c k:Int) (ts:B) (n a:Int) (x:Nat)
structure TS (st:St) (o q:Nat) (s:B) (c k:Int) (ts:B) (n a:Int) (x:Nat) (i:Int) (S:St):Prop where
 up:Up (W2 st o q (rd s i c k ts n a) (tk 2 [] 0 (x:Int))) S
 cl:Cl S
variable {st o q s c k ts n a x}
variable {i:Int} {S:St} (hT:TS st o q s c k ts n a x i S)
include h2 hT
theorem TS.rdo (j m:Nat) (ag:Bool):zf S (.bp o j) m ag=zj (rd s i c k ts n a) j m ag:=zn (hT.up.get (W2.get_o h2))
theorem TS.rdq (j m:Nat) (ag:Bool):zf S (.bp q j) m ag=zj (tk 2 [] 0 (x:Int)) j m ag:=zn (hT.up.get (W2.get_q h2))
theorem TS.wr (i':Int):zl S (.bp o 1) [.int .i64 i']=some (S.put o (RB (rd s i' c k ts n a))):=zM (hT.up.get (W2.get_o h2)) (Ux _ _ _ _ _ _ _ _)
theorem TS.at (i':Int):TS st o q s c k ts n a x i' (S.put o (RB (rd s i' c k ts n a))):=by
 refine ⟨?_,qL hT.cl rfl⟩
 have:=hT.up.putLow (o:=o) (by rw [W2.len];exact h2.o) (RB (rd s i' c k ts n a))
 rwa [W2.put_o h2] at this
theorem TS.pan (hst:Cl st) (code:Int) (p:Nat):ze false (W2 st o q [] []).length (.pan (jo code p)) S=some (.pan (jo code p),W2 st o q (rd s i c k ts n a) (tk 2 [] 0 (x:Int))):=by
 rw [W2.len,←W2.len (st:=st) (o:=o) (q:=q) (x:=rd s i c k ts n a) (y:=tk 2 [] 0 (x:Int))]
 exact Yn hT.up (W2.cl hst) rfl
theorem TS.done (hst:Cl st) (l:B):(zl S (.bp q 1) [.str l]).bind (fun S'=>ze false (W2 st o q [] []).length (.ret (.tup [])) S')=some (.ret (.tup []),W2 st o q (rd s i c k ts n a) (tk 2 l 0 (x:Int))):=by
 rw [zM (hT.up.get (W2.get_q h2)) (Hj _ _ _ _ _)]
 have:=hT.up.putLow (o:=q) (by rw [W2.len];exact h2.q) (TB (tk 2 l 0 (x:Int)))
 rw [W2.put_q] at this
 rw [bind_some,W2.len,←W2.len (st:=st) (o:=o) (q:=q) (x:=rd s i c k ts n a) (y:=tk 2 l 0 (x:Int))]
 exact zU this (W2.cl hst) rfl rfl
end
section
variable {st:St} {o q:Nat} (h2:Two st o q) (hst:Cl st) {s:B} (hl:s.length<800000000) {c k:Int} {ts:B} {n a:Int} {x:Nat}
def Za (st:St) (o q:Nat) (s:B) (c k:Int) (ts:B) (n a:Int) (x:Nat) (r:Except F (B×B×Nat)):Option (zd×St):=match r with
 | .ok (out,_,j)=>if out.length>4096 then some (.pan (jo 1002 x),W2 st o q (rd s (j:Int) c k ts n a) (tk 2 [] 0 (x:Int))) else some (.ret (.tup []),W2 st o q (rd s (j:Int) c k ts n a) (tk 2 out 0 (x:Int)))
 | .error (e,p)=>some (.pan (jo e p),W2 st o q (rd s (p:Int) c k ts n a) (tk 2 [] 0 (x:Int)))
theorem Vp (f i:Nat) (out:B):zH (f+1) [] i out = .error (1000,i):=rfl
theorem Qr (f i:Nat) (c:UInt8) (r' out:B):zH (f+1) (c::r') i out=(if c.toNat<32 then .error (1000,i)
   else if c.toNat=39 then .ok (out,r',i+1)
   else if c.toNat=92 then match r' with
    |[]=>.error (1000,i+1)
    |d::r''=>if d.toNat=39∨d.toNat=92∨d.toNat=125 then zH f r'' (i+2) (out++[d]) else if d.toNat=110 then zH f r'' (i+2) (out++[10]) else .error (1000,i+1)
   else match zI (c::r') with
    | 0=>.error (1000,i)
    |m=>zH f ((c::r').drop m) (i+m) (out++(c::r').take m)):=rfl
theorem Qc (st:St) (o q:Nat) (s:B) (c k:Int) (ts:B) (n a:Int) (x:Nat) (e:Int) (p:Nat):Za st o q s c k ts n a x (.error (e,p))=some (.pan (jo e p),W2 st o q (rd s (p:Int) c k ts n a) (tk 2 [] 0 (x:Int))):=rfl
theorem jt (st:St) (o q:Nat) (s:B) (c k:Int) (ts:B) (n a:Int) (x:Nat) (r:Except F (B×B×Nat)):∃T,Za st o q s c k ts n a x r=some T:=by
 unfold Za
 split
 ·split<;>exact ⟨_,rfl⟩
 ·exact ⟨_,rfl⟩
theorem ID (d:UInt8):LY [39,92,125,110] d=if d.toNat=39 then 0 else if d.toNat=92 then 1 else if d.toNat=125 then 2 else if d.toNat=110 then 3 else -1:=by
 have e:∀m:UInt8,(m==d)=decide (d.toNat=m.toNat):=fun m=>by rw [Bool.eq_iff_iff,beq_iff_eq,decide_eq_true_eq,LE];omega
 unfold LY
 simp only [List.findIdx?_cons,List.findIdx?_nil,e]
 by_cases h1:d.toNat=39
 ·simp [h1]
 by_cases h2:d.toNat=92
 ·simp [h2]
 by_cases h3:d.toNat=125
 ·simp [h3]
 by_cases h4:d.toNat=110
 ·simp [h4]
 simp [h1,h2,h3,h4]
include h2 hst hl
set_option maxHeartbeats 4000000 in
theorem Bq:∀(f:Nat) (i:Nat) (S:St) (v:AV) (out:B),(s.drop i).length<f→i≤s.length→out.length≤i→TS st o q s c k ts n a x (i:Int) S→YO (W2 st o q [] []).length S v out →
  aw 36 (W2 st o q [] []).length QD ⟨[(0,.bp o 0),(1,.bp q 0),(4,v)],[]⟩ S=Za st o q s c k ts n a x (zH f (s.drop i) i out):=by
 intro f
 induction f with
 |zero=>intro i S v out h;omega
 |succ f ih =>
  intro i S v out hf hi ho hT hO
  have hb:(W2 st o q [] []).length=st.length:=W2.len
  have key:∀R,_:=fun R=>zbx (.bp o 0) (.bp q 0) v (W2 st o q [] []).length S (r:=R)
  have hdl:(s.drop i).length<1000000000000:=by simp;omega
  simp only [zu,zE,bind_some,Nat.zero_add,hT.rdo h2,Wy,JW,zk,zr,Yp hi,WA S hT.cl (s.drop i) hdl,zi,zT,List.getElem?_cons_zero,List.getElem?_cons_succ] at key
  cases hd:s.drop i with
  |nil =>
   have hr:qn (s.drop i)=(65533,0):=by rw [hd];rfl
   rw [hr] at key
   rw [show (((65533:Nat),(0:Nat)).2:Int)=0 from rfl,show ((0:Int)==0)=true from rfl] at key
   simp only [cond_true,jf,zF] at key
   rw [Vp,Qc]
   have hp:=hT.pan h2 hst 1000 i
   have:=key _ hp
   exact this
  |cons b r =>
   obtain ⟨gb,hd2,hlt⟩:=qa hd
   have hne:s.drop i≠[]:=by rw [hd];simp
   have hrl:r.length<f:=by rw [hd] at hf;simp at hf;omega
   have more:∀(S1:St) (j m:Nat) (z:Int) (bs:B),TS st o q s c k ts n a x (j:Int) S1→YO (W2 st o q [] []).length S1 v out→VL (W2 st o q [] []).length S1 v out z bs→j+m≤s.length→(out++bs).length≤j+m→(s.drop (j+m)).length<f →
     (zg (cw 73 [v,.int .i32 z] S1)
      (fun v sx=>(zf sx (.bp o 1) 1 false).bind fun v_4=>(zm .i64 v_4).bind fun n=>(zl sx (.bp o 1) [.int .i64 (IntKind.i64.wrap (n+(m:Int)))]).bind fun sx =>
       aw 36 (W2 st o q [] []).length QD ⟨[(0,.bp o 0),(1,.bp q 0),(4,v)],[]⟩ sx)
      fun v sx=>ze false (W2 st o q [] []).length (.pan v) sx)=Za st o q s c k ts n a x (zH f (s.drop (j+m)) (j+m) (out++bs)):=by
    intro S1 j m z bs g1 g2 g3 g4 g5 g6
    obtain ⟨v',S',k1,k2,k3,k4,k5⟩:=g3
    have hT':TS st o q s c k ts n a x (j:Int) S':=⟨k3 _ (by rw [W2.len,W2.len];exact Nat.le_refl _) g1.up,k5 g1.cl⟩
    simp only [k1,zi,hT'.rdo h2,JW,bind_some,zk,zbb (show j+m<1000000000000 by omega),hT'.wr h2]
    rw [ih (j+m) (S'.put o (RB (rd s ((j+m:Nat):Int) c k ts n a))) v' (out++bs) g6 g4 g5 (hT'.at h2 _) (k2.put (by rw [hb];exact h2.o) _)]
   have hbl:out.length<900000000:=by omega
   have hbs:(W2 st o q [] []).length≤S.length:=by rw [W2.len];have:=hT.up.len;rw [W2.len] at this;exact this
   rcases Jl (s.drop i) hne with ⟨h0,hr⟩ | ⟨hw,hc⟩
   ·
    have hb128:¬b.toNat<128:=by
     intro hlo
     rw [hd] at h0
     cases r<;>simp [zI,hlo] at h0
    rw [hr] at key
    rw [show ((((65533:Nat),(1:Nat)).2:Nat):Int)=1 from rfl,show ((((65533:Nat),(1:Nat)).1:Nat):Int)=65533 from rfl,show ((1:Int)==0)=false from rfl,show ((65533:Int)==65533)=true from by decide +kernel,show ((1:Int)==1)=true from rfl] at key
    simp only [cond_true,cond_false,jf,zF] at key
    have hx:zH (f+1) (b::r) i out = .error (1000,i):=by
     rw [hd] at h0
     rw [Qr,if_neg (by omega),if_neg (by omega),if_neg (by omega),h0]
     rfl
    rw [hx,Qc]
    exact key _ (hT.pan h2 hst 1000 i)
   ·have hwid:(qn (s.drop i)).2=zI (s.drop i):=hc.wid
    have hle:i+zI (s.drop i)≤s.length:=by have:=hc.le;simp at this;omega
    rw [show (((qn (s.drop i)).2:Int)==0)=false by rw [beq_eq_false_iff_ne,hwid];omega] at key
    simp only [cond_false] at key
    by_cases h1:zI (s.drop i)=1
    ·
     obtain ⟨g1,g2⟩:=hc.one h1
     have hb0:zy (s.drop i) 0=b.toNat:=by rw [hd];rfl
     rw [hb0] at g1 g2
     have hu1:zI (b::r)=1:=by rw [←hd];exact h1
     rw [g1,show ((b.toNat:Int)==65533)=false by rw [beq_eq_false_iff_ne];omega] at key
     simp only [cond_false] at key
     rw [Qr]
     by_cases c1:b.toNat<32
     ·rw [if_pos c1,Qc]
      rw [show decide ((b.toNat:Int)<32)=true from decide_eq_true (by omega)] at key
      simp only [cond_true,jf,zF] at key
      exact key _ (hT.pan h2 hst 1000 i)
     rw [if_neg c1]
     rw [show decide ((b.toNat:Int)<32)=false from decide_eq_false (by omega)] at key
     simp only [cond_false] at key
     by_cases c2:b.toNat=39
     ·rw [if_pos c2]
      rw [show ((b.toNat:Int)==39)=true by rw [beq_iff_eq];omega] at key
      simp only [cond_true,e1i (show i<1000000000000 by omega),hT.wr h2,bind_some,hO.len,zk] at key
      have hT':=hT.at h2 ((i+1:Nat):Int)
      have hO':=hO.put (o:=o) (by rw [hb];exact h2.o) (RB (rd s ((i+1:Nat):Int) c k ts n a))
      by_cases c3:out.length>4096
      ·rw [show decide ((out.length:Int)>4096)=true from decide_eq_true (by omega)] at key
       simp only [cond_true,hT'.rdq h2,Lq,bind_some,zk,jf,zF] at key
       simp only [Za,if_pos c3]
       exact key _ (hT'.pan h2 hst 1002 x)
      ·rw [show decide ((out.length:Int)>4096)=false from decide_eq_false (by omega)] at key
       simp only [cond_false,hO'.str,bind_some,zr] at key
       simp only [Za,if_neg c3]
       exact key _ (hT'.done h2 hst out)
     rw [if_neg c2]
     rw [show ((b.toNat:Int)==39)=false by rw [beq_eq_false_iff_ne];omega] at key
     simp only [cond_false] at key
     by_cases c4:b.toNat=92
     ·rw [if_pos c4]
      rw [show ((b.toNat:Int)==92)=true by rw [beq_iff_eq];omega] at key
      have hT':=hT.at h2 ((i+1:Nat):Int)
      have hO':=hO.put (o:=o) (by rw [hb];exact h2.o) (RB (rd s ((i+1:Nat):Int) c k ts n a))
      simp only [cond_true,e1i (show i<1000000000000 by omega),hT.wr h2,bind_some,hT'.rdo h2,Wy,JW,zk,zr] at key
      cases r with
      |nil =>
       have:=jw hd2
       rw [show decide (((i+1:Nat):Int)<(s.length:Int))=false from decide_eq_false (by omega)] at key
       simp only [cond_false,jf,zF] at key
       dsimp only
       rw [Qc]
       exact key _ (hT'.pan h2 hst 1000 (i+1))
      |cons d r =>
       obtain ⟨gd,hd3,hlt2⟩:=qa hd2
       rw [show decide (((i+1:Nat):Int)<(s.length:Int))=true from decide_eq_true (by omega)] at key
       have hix:∀S,cw 33 [AV.str [ofNat 39,ofNat 92,ofNat 125,ofNat 110],AV.int .u8 (d.toNat:Int)] S=some (.ret (.int .i64 (LY [39,92,125,110] d)),S):=fun S=>Xx S [39,92,125,110] d
       simp only [cond_true,zO,bind_some,jH gd,hix,zi,zk,ID,hwid,h1] at key
       dsimp only
       have hup:(W2 st o q [] []).length≤(S.put o (RB (rd s ((i+1:Nat):Int) c k ts n a))).length:=by simpa using hbs
       have w1:∀z:UInt8,IntKind.i32.wrap (z.toNat:Int)=(z.toNat:Int):=fun z=>w32 (by have:=z.toNat_lt;omega)
       have esc:∀(jn:Nat) (z:UInt8),z.toNat<128→[ofNat 39,ofNat 92,ofNat 125,ofNat 10][jn]?=some z →
         ((zJ (.int .i64 (jn:Int))).bind fun j=>(Option.map (fun b:UInt8=>AV.int IntKind.u8 (b.toNat:Int)) [ofNat 39,ofNat 92,ofNat 125,ofNat 10][j]?).bind
          fun v_1=>(zm IntKind.u8 v_1).bind fun n_2=>zg (cw 73 [v,AV.int IntKind.i32 (IntKind.i32.wrap n_2)] (S.put o (RB (rd s ((i+1:Nat):Int) c k ts n a))))
           (fun v sx=>(zf sx (.bp o 1) 1 false).bind fun v_4=>(zm .i64 v_4).bind fun n=>(zl sx (.bp o 1) [.int .i64 (IntKind.i64.wrap (n+((1:Nat):Int)))]).bind fun sx =>
            aw 36 (W2 st o q [] []).length QD ⟨[(0,.bp o 0),(1,.bp q 0),(4,v)],[]⟩ sx)
           fun v sx=>ze false (W2 st o q [] []).length (.pan v) sx)=Za st o q s c k ts n a x (zH f r (i+2) (out++[z])):=by
        intro jn z hz hj
        simp only [zO,bind_some,hj,map_some,zk,w1]
        have:=more _ (i+1) 1 (z.toNat:Int) [z] hT' hO' (Xe hO' hup hbl z hz) (by omega) (by simp;omega) (by rw [hd3];simp at hrl;omega)
        rw [show i+1+1=i+2 from rfl,show s.drop (i+2)=r from hd3] at this
        exact this
       have n3:∀m:UInt8,d.toNat=m.toNat→d=m:=fun m h=>LE.2 h
       by_cases d1:d.toNat=39
       ·rw [if_pos (.inl d1),n3 39 d1]
        rw [if_pos d1] at key
        have e:=esc 0 39 (by decide) rfl
        rw [show ((0:Nat):Int)=0 from rfl] at e
        rw [show decide ((0:Int)<0)=false from rfl] at key
        simp only [cond_false] at key
        obtain ⟨T,hTs⟩:=jt st o q s c k ts n a x (zH f r (i+2) (out++[39]))
        rw [hTs] at e ⊢
        exact key _ e
       rw [if_neg d1] at key
       by_cases d2:d.toNat=92
       ·rw [if_pos (.inr (.inl d2)),n3 92 d2]
        rw [if_pos d2] at key
        have e:=esc 1 92 (by decide) rfl
        rw [show ((1:Nat):Int)=1 from rfl] at e
        rw [show decide ((1:Int)<0)=false from rfl] at key
        simp only [cond_false] at key
        obtain ⟨T,hTs⟩:=jt st o q s c k ts n a x (zH f r (i+2) (out++[92]))
        rw [hTs] at e ⊢
        exact key _ e
       rw [if_neg d2] at key
       by_cases d3:d.toNat=125
       ·rw [if_pos (.inr (.inr d3)),n3 125 d3]
        rw [if_pos d3] at key
        have e:=esc 2 125 (by decide) rfl
        rw [show ((2:Nat):Int)=2 from rfl] at e
        rw [show decide ((2:Int)<0)=false from rfl] at key
        simp only [cond_false] at key
        obtain ⟨T,hTs⟩:=jt st o q s c k ts n a x (zH f r (i+2) (out++[125]))
        rw [hTs] at e ⊢
        exact key _ e
       rw [if_neg d3] at key
       rw [if_neg (by omega)]
       by_cases d4:d.toNat=110
       ·rw [if_pos d4]
        rw [if_pos d4] at key
        have e:=esc 3 10 (by decide) rfl
        rw [show ((3:Nat):Int)=3 from rfl] at e
        rw [show decide ((3:Int)<0)=false from rfl] at key
        simp only [cond_false] at key
        obtain ⟨T,hTs⟩:=jt st o q s c k ts n a x (zH f r (i+2) (out++[10]))
        rw [hTs] at e ⊢
        exact key _ e
       rw [if_neg d4] at key
       rw [if_neg d4,Qc]
       rw [show decide ((-1:Int)<0)=true from rfl] at key
       simp only [cond_true,hT'.rdo h2,JW,bind_some,zk,jf,zF] at key
       exact key _ (hT'.pan h2 hst 1000 (i+1))
     ·have hy:(match 1 with | 0=>Except.error (1000,i) | m=>zH f ((b::r).drop m) (i+m) (out++(b::r).take m))=zH f r (i+1) (out++[b]):=rfl
      rw [if_neg c4,hu1,hy]
      rw [show ((b.toNat:Int)==92)=false by rw [beq_eq_false_iff_ne];omega] at key
      simp only [cond_false,hwid,h1] at key
      have e:=more S i 1 (b.toNat:Int) [b] hT hO (Xe hO hbs hbl b g2) (by omega) (by simp;omega) (by rw [hd2];exact hrl)
      obtain ⟨T,hTs⟩:=jt st o q s c k ts n a x (zH f (s.drop (i+1)) (i+1) (out++[b]))
      rw [hTs] at e
      have hx:Za st o q s c k ts n a x (zH f r (i+1) (out++[b]))=some T:=by rw [←hd2];exact hTs
      rw [hx]
      exact key _ e
    ·
     have hbig:128≤(qn (s.drop i)).1∧128≤b.toNat:=by
      have hb0:zy (s.drop i) 0=b.toNat:=by rw [hd];rfl
      rcases hw with hw | hw | hw | hw
      ·exact absurd hw h1
      ·obtain ⟨g1,g2,g3,g4⟩:=hc.two hw;omega
      ·obtain ⟨g1,g2,g3,g3',g4,g5⟩:=hc.three hw;omega
      ·obtain ⟨g1,g2,g3,g3',g3'',g4,g5⟩:=hc.four hw;omega
     have hul:zI (b::r)=zI (s.drop i):=by rw [hd]
     have e:=more S i (zI (s.drop i)) ((qn (s.drop i)).1:Int) ((s.drop i).take (zI (s.drop i))) hT hO (Ly hO hbs hbl (s.drop i) hne (by omega)) hle (by simp;omega) (by simp at hf ⊢;omega)
     obtain ⟨T,hTs⟩:=jt st o q s c k ts n a x (zH f (s.drop (i+zI (s.drop i))) (i+zI (s.drop i)) (out++(s.drop i).take (zI (s.drop i))))
     rw [hTs] at e
     rw [Qr,if_neg (by omega),if_neg (by omega),if_neg (by omega)]
     have hx:(match zI (b::r) with | 0=>Except.error (1000,i) | m=>zH f ((b::r).drop m) (i+m) (out++(b::r).take m))=zH f (s.drop (i+zI (s.drop i))) (i+zI (s.drop i)) (out++(s.drop i).take (zI (s.drop i))):=by
      rw [←List.drop_drop,hul,←hd]
      cases hu:zI (s.drop i) with
      |zero=>omega
      |succ m=>rfl
     rw [hx,hTs]
     rw [show decide (((qn (s.drop i)).1:Int)<32)=false from decide_eq_false (by omega),show (((qn (s.drop i)).1:Int)==39)=false by rw [beq_eq_false_iff_ne];omega,show (((qn (s.drop i)).1:Int)==92)=false by rw [beq_eq_false_iff_ne];omega,
      show (((qn (s.drop i)).2:Int)==1)=false by rw [beq_eq_false_iff_ne,hwid];omega] at key
     simp only [cond_false,hwid] at key
     cases hq:(((qn (s.drop i)).1:Int)==65533) with
     |true=>rw [hq] at key;simp only [cond_true] at key;exact key _ e
     |false=>rw [hq] at key;simp only [cond_false] at key;exact key _ e
theorem If (b:UInt8) (r:B) (i:Nat) (hd:s.drop i=b::r) :
  cw 36 [.bp o 0,.bp q 0] (W2 st o q (rd s i c k ts n a) (tk 0 [] 0 (x:Int)))=Za st o q s c k ts n a x (zH (r.length+1) r (i+1) []):=by
 obtain ⟨gb,hd2,hlt⟩:=qa hd
 have key:∀R,_:=fun R=>F36 (.bp o 0) (.bp q 0) (W2 st o q (rd s i c k ts n a) (tk 0 [] 0 (x:Int))) (r:=R)
 simp only [zu,zE,bind_some,Nat.zero_add,W2.wr_q h2 (MN _ _ _ _ _),W2.rd_o h2,JW,zk,e1i (show i<1000000000000 by omega),W2.wr_o h2 (Ux _ _ _ _ _ _ _ _)] at key
 have e:=Bq h2 hst hl (c:=c) (k:=k) (ts:=ts) (n:=n) (a:=a) (x:=x) (r.length+1) (i+1) (W2 st o q (rd s ((i+1:Nat):Int) c k ts n a) (tk 2 [] 0 (x:Int))) .nils [] (by rw [hd2];omega) (by omega) (by simp) ⟨.refl _,W2.cl hst⟩ (.inl ⟨rfl,rfl⟩)
 rw [hd2] at e
 rw [show (W2 st o q [] []).length=(W2 st o q (rd s i c k ts n a) (tk 0 [] 0 (x:Int))).length by rw [W2.len,W2.len]] at e
 obtain ⟨T,hTs⟩:=jt st o q s c k ts n a x (zH (r.length+1) r (i+1) [])
 rw [hTs] at e ⊢
 exact key _ e
end
end Go.Abs
