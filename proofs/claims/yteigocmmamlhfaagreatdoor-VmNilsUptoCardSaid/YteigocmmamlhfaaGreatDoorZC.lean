/- VmNils returns true for every value of bulk at most 1048576 and leaves it as it was: where the package-level variables that the row lists stand as it lists them. -/
import Derived.Test.YteigocmmamlhfaaGreatDoorZB
import Derived.IntWalk
set_option linter.unusedVariables false
set_option linter.unusedSimpArgs false
set_option linter.unusedSectionVars false
namespace Go.Abs
open Go
abbrev CallF0:=FuncId→List AV→St→Option (AOut×St)
abbrev AgainF0:=Task→Fr→St→Option (AX×Fr×St)
section leafs
def boolV:AV→Option Bool
 | .bool b=>some b
 |_=>none
def cell1:AV→Option AV
 | .agg cs=>match cs with | [c]=>some c | _=>none
 | .tup _=>none
 |v=>some v
def cellsV (n:Nat) (v:AV):Option (List AV):=if v.cells.length=n∧v.isTup=false then some v.cells else none
def aggV:AV→Option (List AV)
 | .agg cs=>some cs
 |_=>none
def pickV (t:Bool):AV→AV→AV
 | .bool x,.bool y=>.bool (if t then x else y)
 |x,y=>if t then x else y
def ptrAdd (off:Nat):AV→Option AV
 | .ip row c=>some (.ip row (c+off))
 | .bp o c=>some (.bp o (c+off))
 | .ptr o ep i c=>some (.ptr o ep i (c+off))
 |_=>none
def readA (st:St) (p:AV) (n:Nat) (ag:Bool):Option AV :=
 match p with
 | .ip row c=>readRow row c n ag
 | .bp o c=>match st.get o with | some (.box _ row)=>readRow row c n ag | _=>none
 | .ptr o ep i c =>
  match st.get o with
  |some (.rows _ ep' rs)=>if ep=ep' then (rs[i]?).bind fun row=>readRow row c n ag else none
  |_=>none
 |_=>none
def writeA (st:St) (p:AV) (cs:List AV):Option St :=
 match p with
 | .bp o c=>match st.get o with | some (.box ty row)=>(setAt row c cs).map fun row'=>st.put o (.box ty row') | _=>none
 | .ptr o ep i c =>
  match st.get o with
  |some (.rows sz ep' rs)=>if ep=ep' then (rs[i]?).bind fun row=>(setAt row c cs).map fun row'=>st.put o (.rows sz ep' (rs.set i row')) else none
  |_=>none
 |_=>none
def idxSl (st:St) (kd:Nat) (x:AV) (j:Nat):Option AV :=
 match x with
 | .sl sz rows off len _=>if sz=kd∧j<len then (rows[off+j]?).map fun row=>.ip row 0 else none
 | .ms o ep off len _=>(msKd st o ep).bind fun k=>if k=kd∧j<len then some (.ptr o ep (off+j) 0) else none
 |_=>none
def appendL (st:St) (home:Option (Nat×Bool)) (bytes kd:Nat) (s x:AV):Option (AV×St) :=
  (rowsOf st kd x).bind fun new =>
  match s with
  | .nils =>
   if new.length=0 then some (.nils,st)
   else if new.length*bytes≤roomA∧new.length≤roomA then
    match home with
    |some (h,m)=>homeA st h m kd new
    |none=>some (.sl kd new 0 new.length .no,st)
   else none
  | .sl sz rows off len tok =>
   if sz=kd∧off+len=rows.length∧(len+new.length)*bytes≤roomA∧len+new.length≤roomA then
    match tok with
    | .exact =>
     if new.length=0 then some (s,st)
     else match home with
      |some (h,m)=>homeA st h m kd (rows.drop off++new)
      |none=>some (.sl kd (rows.drop off++new) 0 (len+new.length) .no,st)
    | .spare t ep =>
     if off=0 then
      match st.get t with
      |some (.spare ep' n) =>
       if ep=ep'∧n=rows.length then
        if new.length=0 then some (s,st)
        else some (.sl kd (rows++new) 0 (len+new.length) (.spare t ep),st.put t (.spare ep (n+new.length)))
       else none
      |_=>none
     else none
    | .no=>none
   else none
  | .ms o ep off len cap =>
   match st.get o with
   |some (.rows sz ep' rs) =>
    if sz=kd∧ep=ep'∧(len+new.length)*bytes≤roomA∧len+new.length≤roomA∧off+cap≤rs.length∧len≤cap then
     if len+new.length≤cap then some (.ms o ep off (len+new.length) cap,st.put o (.rows sz ep (rs.take (off+len)++new++rs.drop (off+len+new.length))))
     else some (.ms o (ep+1) 0 (len+new.length) (len+new.length),st.put o (.rows sz (ep+1) ((rs.drop off).take len++new)))
    else none
   |_=>none
  |_=>none
def sliceSl (st:St) (kd:Nat) (x:AV) (lo hi mx:Option AV):Option AV :=
 match x with
 | .nils=>(optA hi 0).bind fun h=>(optA lo 0).bind fun l=>(optA mx 0).bind fun m=>if h=0∧l=0∧m=0∧(mx.isSome→hi.isSome) then some .nils else none
 | .sl sz rows off len tok =>
  (optA hi len).bind fun h=>(optA lo 0).bind fun l =>
  if sz=kd∧l≤h then
   match mx with
   |none=>if off+h≤rows.length then some (.sl sz rows (off+l) (h - l) tok) else none
   |some mv=>(natA mv).bind fun m=>if hi.isSome∧h≤m∧off+m≤rows.length then some (.sl sz (rows.take (off+m)) (off+l) (h - l) (if rows.length=0 then .no else .exact)) else none
  else none
 | .ms o ep off len cap =>
  (msKd st o ep).bind fun k =>
  (optA hi len).bind fun h=>(optA lo 0).bind fun l =>
  if k=kd∧l≤h then
   match mx with
   |none=>if h≤cap then some (.ms o ep (off+l) (h - l) (cap - l)) else none
   |some mv=>(natA mv).bind fun m=>if hi.isSome∧h≤m∧m≤cap then some (.ms o ep (off+l) (h - l) (m - l)) else none
  else none
 |_=>none
def sliceStr (x:AV) (lo hi:Option AV):Option AV :=
 match x with
 | .str s=>(optA hi s.length).bind fun h=>(optA lo 0).bind fun l=>if l≤h∧h≤s.length then some (.str ((s.take h).drop l)) else none
 |_=>none
def strAt (x:AV) (j:Nat):Option AV :=
 match x with
 | .str s=>(s[j]?).map fun b=>.int .u8 b.toNat
 |_=>none
def lenSl:AV→Option AV
 | .nils=>some (.int .i64 0)
 | .sl _ _ _ len _=>some (.int .i64 len)
 | .ms _ _ _ len _=>some (.int .i64 len)
 |_=>none
def lenStr:AV→Option AV
 | .str s=>some (.int .i64 s.length)
 |_=>none
def lenMap (st:St):AV→Option AV
 | .nilm=>some (.int .i64 0)
 | .mp o=>match st.get o with | some (.amap es)=>some (.int .i64 es.length) | _=>none
 |_=>none
def strOf (st:St) (x:AV):Option AV :=
 match x with
 | .str _=>none
 |_=>(rowsOf st 0 x).bind fun rs=>(bytesOfRows rs).map .str
def bytesV (x:AV):Option AV :=
 match x with
 | .str s=>some (.sl 0 (s.map fun b=>[.int .u8 b.toNat]) 0 s.length .no)
 |_=>none
def makeSl (st:St) (home:Option (Nat×Bool)) (bytes kd:Nat) (z:List AV) (l c:AV):Option (AV×St) :=
 match l,c with
 | .int .i64 l,.int .i64 c =>
  if 0≤l∧l≤c∧c.toNat*bytes≤roomA∧c.toNat≤roomA then
   match home with
   |some (h,true)=>(homeA st h true kd (List.replicate c.toNat z)).bind fun r=>match r.1 with | .ms o ep off _ cap=>some (.ms o ep off l.toNat cap,r.2) | _=>none
   |some (h,false)=>if l=0 then homeA st h false kd [] else none
   |none=>some (.ms st.length 0 0 l.toNat c.toNat,.rows kd 0 (List.replicate c.toNat z)::st)
  else none
 |_,_=>none
def copySl (st:St) (sz:Nat) (d s:AV):Option (AV×St) :=
  (rowsOf st sz s).bind fun new =>
  match d with
  | .nils=>some (.int .i64 0,st)
  | .ms o ep off len _ =>
   match st.get o with
   |some (.rows sz' ep' rs) =>
    if sz'=sz∧ep=ep'∧off+len≤rs.length then
     some (.int .i64 (min new.length len:Nat),st.put o (.rows sz ep (rs.take off++new.take len++rs.drop (off+min new.length len))))
    else none
   |_=>none
  |_=>none
def assertV (z x:AV) (t:TypeId) (ok:Bool):Option AV :=
 match x with
 | .iface t' v=>if t'=t then some (if ok then .tup [v,.bool true] else v) else if ok then some (.tup [z,.bool false]) else none
 | .nili=>if ok then some (.tup [z,.bool false]) else none
 |_=>none
def panicV:AV→Option AV
 | .iface t w=>some (.iface t w)
 |_=>none
def fnV:AV→Option (FuncId×List AV)
 | .fn g cap=>some (g,cap)
 |_=>none
def callB {R:Type} (x:Option (AOut×St)) (kv kp:AV→St→Option R):Option R:=x.bind fun r=>match r.1 with | .ret v=>kv v r.2 | .pan v=>kp v r.2
def headB {R:Type} (x:Option (AX×Fr×St)) (k:AX→Fr→St→Option R):Option R:=x.bind fun r=>k r.1 r.2.1 r.2.2
def roundV (n:Nat) (fr:Fr) (st:St):Option (Fr×St) :=
 if st.length==n then some (fr,st)
 else if St.closed n (st.trunc n)&&fr.defers.all fun d=>AV.closeds n d.2 then some ({fr with env:=fr.env.filter fun p=>AV.closed n p.2},st.trunc n) else none
def homeV (cidx:TypeId→Nat→Nat) (wr:Bool) (st:St) (v:AV):Option (Nat×Bool) :=
 match v with | .bp o c=>(match st.get o with | some (.box ty _)=>some (o+1+cidx ty c,wr) | _=>none) | _=>none
def condB {R:Type} (v:AV) (x y:AV→Option R):Option R:=match v with | .bool t=>cond t (x (.bool true)) (y (.bool false)) | _=>none
def guardB {R:Type} (v:AV) (want:Bool) (yes no:AV→Option R):Option R :=
 match v with
 | .bool b=>(match want with | true=>cond b (yes (.bool true)) (no (.bool false)) | false=>cond b (no (.bool true)) (yes (.bool false)))
 | .tup []=>no (.tup [])
 |_=>none
def reput:Env→Nat→AV→Env
 |[],_,_=>[]
 |(s,u)::r,t,v=>if s=t then (s,v)::r else (s,u)::reput r t v
def withCells {R:Type} (n:Nat) (v:AV) (k:List AV→Option R):Option R:=if n=1 then (cell1 v).bind fun c=>k [c] else (cellsV n v).bind k
def bind2 {R:Type} (x:Option (AV×St)) (k:AV→St→Option R):Option R:=x.bind fun r=>k r.1 r.2
def intV (k:IntKind):AV→Option Int
 | .int k' n=>if k'=k then some n else none
 |_=>none
def strV:AV→Option (List UInt8)
 | .str s=>some s
 |_=>none
end leafs
section types
variable (P:Program)
def fieldPart (t:TypeId) (f:Nat):Option (Bool×Nat×Nat) :=
 match P.underlying t with
 |some (.struct fields)=>(fields[f]?).bind fun fd=>(aggT P fd.type).bind fun ag=>(szOf P fd.type).map fun n=>(ag,n,fd.offset)
 |_=>none
def fieldOff (t:TypeId) (f:Nat):Option Nat :=
 match P.underlying t with
 |some (.struct fields)=>(fields[f]?).bind fun fd=>(szOf P fd.type).bind fun n=>if n=0 then none else some fd.offset
 |_=>none
inductive IxT where
 |sl (kd:Nat)
 |arr (len n:Nat) (ag:Bool)
 |str
def ixT (t:TypeId):Option IxT :=
 match P.underlying t with
 |some (.slice e)=>(kdOf P e).map .sl
 |some (.array len e)=>(aggT P e).bind fun ag=>(szOf P e).map fun n=>.arr len n ag
 |some .string=>some .str
 |_=>none
def elemT (t:TypeId):Option (Nat×Nat×Option AV) :=
 match P.underlying t with
 |some (.slice e)=>(P.info? e).bind fun i=>(kdOf P e).map fun kd=>(i.bytes,kd,zeroA P e)
 |_=>none
def okNull (kd:Nat):Option AV→Bool
 |some z=>z.cells.length==szk kd && !z.isTup
 |none=>false
def placesT (t:TypeId):Option (List (Nat×Nat)) :=
 match P.underlying t with
 |some (.struct fields)=>fields.toList.mapM fun f=>(szOf P f.type).map fun s=>(f.offset,s)
 |some (.array n e)=>(szOf P e).map fun s=>(List.range n).map fun i=>(i*s,s)
 |_=>none
inductive ConvT where
 |same
 |int (k:IntKind)
 |str
 |bytes
 |ofBytes
def convT (s d:TypeId):Option ConvT :=
 match P.underlying s,P.underlying d with
 |some (.int _),some (.int k)=>some (.int k)
 |some .string,some .string=>some .str
 |some .string,some (.slice e)=>(match P.underlying e with | some (.int .u8)=>if P.cellsOf e=1 then some .bytes else none | _=>none)
 |some (.slice e),some .string=>(match P.underlying e with | some (.int .u8)=>some .ofBytes | _=>none)
 |_,_=>none
def convV (st:St):ConvT→AV→Option AV
 | .int k,.int _ n=>some (.int k (k.wrap n))
 | .str,.str s=>some (.str s)
 | .bytes,v=>bytesV v
 | .ofBytes,v=>strOf st v
 |_,_=>none
inductive LenT where
 |str | sl | map
 |arr (n:Nat)
def lenT (t:TypeId):Option LenT :=
 match P.underlying t with
 |some .string=>some .str
 |some (.array n _)=>some (.arr n)
 |some (.slice _)=>some .sl
 |some (.map _ _)=>some .map
 |_=>none
def lenV (st:St):LenT→AV→Option AV
 | .str,v=>lenStr v
 | .sl,v=>lenSl v
 | .map,v=>lenMap st v
 | .arr n,_=>some (.int .i64 n)
inductive KT where
 |bool | str | other
 |int (k:IntKind)
def kindT (t:TypeId):KT :=
 match P.underlying t with
 |some .bool=>.bool
 |some .string=>.str
 |some (.int k)=>.int k
 |_=>.other
def plainT (t:TypeId):Bool:=match P.underlying t with | some (.interface _)=>false | some _=>true | none=>false
end types
section run
variable {R:Type} (P:Program) (H:Hints) (callF:CallF0) (again:AgainF0) (f:FuncId) (base:Nat)
def fillK (places:List (Nat×Nat)):List (Nat×AV)→List AV→(List AV→Option R)→Option R
 |[],cells,k=>k cells
 |(i,v)::rest,cells,k=>(places[i]?).bind fun p=>withCells p.2 v fun cs=>(setAt cells p.1 cs).bind fun c=>fillK places rest c k
def rowsK (sz:Nat):List (Nat×AV)→List (List AV)→(List (List AV)→Option R)→Option R
 |[],rows,k=>k rows
 |(i,v)::rest,rows,k=>if i<rows.length then withCells sz v fun cs=>rowsK sz rest (rows.set i (cs.map AV.strip)) k else none
def homeK (H:Hints) (f:FuncId) (ev:Operand→Option AV) (st:St) (base:Nat) (dst:Option Tmp):Option (Nat×Bool) :=
 (dst.bind (H.home f)).bind fun h =>
 match h.1 with
 |none=>some (base+h.2.1,h.2.2)
 |some s=>(ev (.tmp s)).bind (homeV H.cidx h.2.2 st)
theorem homeK_eq (H:Hints) (f:FuncId) (ev:Operand→Option AV) (st:St) (base:Nat) (dst:Option Tmp):homeK H f ev st base dst=homeOf H f ev st base dst:=rfl
section op
variable (ev:Operand→Option AV) (st:St) (dst:Option Tmp) (kv:AV→St→Option R) (ks:St→Option R) (kd:FuncId→List AV→St→Option R) (kp:AV→St→Option R)
def optK (x:Option Operand) (k:Option AV→Option R):Option R:=match x with | none=>k none | some x=>(ev x).bind fun v=>k (some v)
def callBK (c:Call):Option R :=
 match c.callee with
 | .builtin b=>(evs ev c.args.toList).bind fun args =>
  match b,args with
  | .append,[s,x]=>(c.argTypes[0]?).bind fun t =>
   match (c.argTypes[1]?).bind P.underlying with
   |some (.int _)=>none
   |none=>none
   |_=>(elemT P t).bind fun e=>if okNull e.2.1 e.2.2 then bind2 (appendL st (homeK H f ev st base dst) e.1 e.2.1 s x) kv else none
  | .len,[x]=>(c.argTypes[0]?).bind fun t=>(lenT P t).bind fun q=>(lenV st q x).bind fun v=>kv v st
  | .copy,[d,s]=>(c.argTypes[0]?).bind fun t=>(elemT P t).bind fun e=>bind2 (copySl st e.2.1 d s) kv
  | .max,x::r=>(maxA x r).bind fun v=>kv v st
  | .min,x::r=>(minA x r).bind fun v=>kv v st
  | .unsafeSliceData,[x]=>(sliceDataA st x).bind fun v=>kv v st
  | .unsafeString,[p,.int .i64 n]=>(unsafeStringA P (c.argTypes[0]?) p n).bind fun v=>kv v st
  |_,_=>none
 | .value (.func g)=>(H.ext g).bind fun F=>(evs ev c.args.toList).bind fun args=>(F args).bind fun v=>kv v st
 |_=>none
def opK (op:Op):Option R :=
 match op with
 | .move x | .assign x=>(ev x).bind fun v=>kv v st
 | .pick c a b=>(ev c).bind fun vc=>(boolV vc).bind fun t=>(ev a).bind fun va=>(ev b).bind fun vb=>kv (pickV t va vb) st
 | .alloc t=>(zeroA P t).bind fun z=>if z.isTup then none else kv (.bp st.length 0) (homesA (compOf H f dst) (.box t z.cells::st))
 | .box t x=>(ev x).bind fun v=>(szOf P t).bind fun n=>withCells n v fun cs=>kv (.bp st.length 0) (homesA (compOf H f dst) (.box t cs::st))
 | .build t ps=>(zeroA P t).bind fun z=>if z.isTup then none else (placesT P t).bind fun pl=>(evps ev ps.toList).bind fun ps=>fillK pl ps z.cells fun cs=>kv (.agg cs) st
 | .buildSlice t len ps=>(elemT P t).bind fun e=>e.2.2.bind fun z=>(evps ev ps.toList).bind fun ps =>
  if z.cells.length=szk e.2.1∧z.isTup=false∧len*szk e.2.1≤16777216 then
   rowsK (szk e.2.1) ps (List.replicate len z.cells) fun rows =>
   match homeK H f ev st base dst with
   |some (h,m)=>bind2 (homeA st h m e.2.1 rows) kv
   |none=>kv (.sl e.2.1 rows 0 len .exact) st
  else none
 | .load t a=>(ev a).bind fun p=>(aggT P t).bind fun ag=>(szOf P t).bind fun n=>(readA st p n ag).bind fun v=>kv v st
 | .store t a x=>(ev a).bind fun p=>(ev x).bind fun v=>(szOf P t).bind fun n=>withCells n v fun cs=>(writeA st p cs).bind ks
 | .nilCheck x=>(ev x).bind fun v=>(nilCheckA v).bind fun v=>kv v st
 | .binOp op t x y _=>(ev x).bind fun a=>(ev y).bind fun b=>(binA P op t (isConst x||isConst y) a b).bind fun v=>kv v st
 | .unOp op _ x=>(ev x).bind fun a=>(unA op a).bind fun v=>kv v st
 | .convert s d x=>(ev x).bind fun a=>match convT P s d with
  |some q=>(match q with | .bytes=>if (homeOf H f ev st base dst).isSome then none else (convV st q a).bind fun v=>kv v st | q=>(convV st q a).bind fun v=>kv v st)
  |none=>bind2 (convA P st (homeK H f ev st base dst) s d a) kv
 | .makeInterface t x=>if plainT P t then (ev x).bind fun v=>kv (.iface t v) st else none
 | .makeFunc fn first cap=>(funcA ev fn first cap).bind fun v=>kv v st
 | .makeMap _ r=>match r with | none=>kv (.mp st.length) (.amap []::st) | some _=>none
 | .makeSlice t l c=>(elemT P t).bind fun e=>e.2.2.bind fun z=>if z.cells.length=szk e.2.1∧z.isTup=false then
   (ev l).bind fun l=>(ev c).bind fun c=>bind2 (makeSl st (homeK H f ev st base dst) e.1 e.2.1 z.cells l c) kv else none
 | .slice t x lo hi mx=>(ev x).bind fun x=>(ixT P t).bind fun q=>match q with
  | .str=>match mx with | none=>optK ev lo fun lo=>optK ev hi fun hi=>(sliceStr x lo hi).bind fun v=>kv v st | some _=>none
  | .sl n=>optK ev lo fun lo=>optK ev hi fun hi=>optK ev mx fun mx=>(sliceSl st n x lo hi mx).bind fun v=>kv v st
  |_=>none
 | .fieldAddr t x i=>(ev x).bind fun x=>(fieldOff P t i).bind fun off=>(ptrAdd off x).bind fun v=>kv v st
 | .field t x i=>(ev x).bind fun x=>(fieldPart P t i).bind fun q=>(aggV x).bind fun cs=>(readRow cs q.2.2 q.2.1 q.1).bind fun v=>kv v st
 | .indexAddr t x i=>(ev x).bind fun x=>(ev i).bind fun i=>(natA i).bind fun j=>(ixT P t).bind fun q=>match q with
  | .sl n=>(idxSl st n x j).bind fun v=>kv v st
  | .arr len n _=>if j<len then (ptrAdd (j*n) x).bind fun v=>kv v st else none
  | .str=>none
 | .index t x i=>(ev x).bind fun x=>(ev i).bind fun i=>(natA i).bind fun j=>(ixT P t).bind fun q=>match q with
  | .str=>(strAt x j).bind fun v=>kv v st
  | .arr len n ag=>if j<len then (aggV x).bind fun cs=>(readRow cs (j*n) n ag).bind fun v=>kv v st else none
  | .sl _=>none
 | .lookup t x k ok=>(ev x).bind fun x=>(ev k).bind fun k=>(lookupA P st t x k ok).bind fun v=>kv v st
 | .mapUpdate t m k x=>(ev m).bind fun m=>(ev k).bind fun k=>(ev x).bind fun x=>(mapUpdateA P st t m k x).bind ks
 | .insert t m k x=>(ev m).bind fun m=>(ev k).bind fun k=>(ev x).bind fun x=>(mapUpdateA P st t m k x).bind ks
 | .range t x=>(ev x).bind fun x=>bind2 (rangeA P st t x) kv
 | .next x isStr=>(ev x).bind fun x=>bind2 (nextA st isStr x) kv
 | .typeAssert x _ t ok=>if plainT P t then (ev x).bind fun x=>match zeroA P t with
   |some z=>(assertV z x t ok).bind fun v=>kv v st
   |none=>if ok then none else (assertV .nili x t false).bind fun v=>kv v st
  else none
 | .extract t i=>(ev t).bind fun v=>(extractA i v).bind fun v=>kv v st
 | .call c=>callBK P H f base ev st dst kv c
 | .defer c =>
  match c.callee with
  | .value x=>(ev x).bind fun fv=>(fnV fv).bind fun q=>if spId q.1 then none else (evs ev c.args.toList).bind fun args=>kd q.1 (args++q.2) st
  |_=>none
 | .panic x=>(ev x).bind fun v=>(panicV v).bind fun v=>kp v st
 |_=>none
def stepK (o:Oper):Option R :=
 match o.op with
 | .call c =>
  match c.callee with
  | .value x =>
   match x with
   | .func g=>if (H.ext g).isSome then callBK P H f base ev st dst kv c else if spId g then none else (evs ev c.args.toList).bind fun args=>callB (callF g args st) kv kp
   |x=>(ev x).bind fun fv=>(fnV fv).bind fun q=>if (H.ext q.1).isSome then none else (evs ev c.args.toList).bind fun args=>callB (callF q.1 (args++q.2) st) kv kp
  |_=>callBK P H f base ev st dst kv c
 |op=>opK P H f base ev st dst kv ks kd kp op
end op
def typK (t:TypeId) (v:AV) (k:AV→Option R):Option R :=
 match kindT P t with
 | .bool=>(boolV v).bind fun b=>k (.bool b)
 | .int kd=>(intV kd v).bind fun n=>k (.int kd n)
 | .str=>(strV v).bind fun s=>k (.str s)
 | .other=>k v
def guardK (ops:Array Oper) (loc:Env) (fr:Fr) (o:Oper) (yes no:Env→Fr→Option R):Option R :=
 match o.guard with
 |none=>yes loc fr
 |some (j,want)=>((ops[j]?).bind (·.dst)).bind fun d =>
  match Env.get loc d with
  |some v=>guardB v want (fun v=>yes (reput loc d v) fr) (fun v=>no (reput loc d v) fr)
  |none=>(Env.get fr.env d).bind fun v=>guardB v want (fun v=>yes loc {fr with env:=reput fr.env d v}) (fun v=>no loc {fr with env:=reput fr.env d v})
def putK (dst:Option Tmp) (v:AV) (loc:Env) (fr:Fr) (k:Env→Fr→Option R):Option R :=
 match dst with
 |none=>k loc fr
 |some d=>if (H.keep f).contains d then k loc {fr with env:=Env.set fr.env d v} else k ((d,v)::loc) fr
def landK (dst:Option Tmp) (v:AV) (st:St) (loc:Env) (fr:Fr) (k:Env→Fr→St→Option R):Option R :=
 match dst with
 |none=>k loc fr st
 |some d=>if H.frz f d then bind2 (freezeA st v) fun v st=>putK H f dst v loc fr fun loc fr=>k loc fr st else putK H f dst v loc fr fun loc fr=>k loc fr st
def opsK (ops:Array Oper):List Oper→Env→Fr→St→(AX→Fr→St→Option R)→Option R
 |[],_,fr,st,k=>k .normal fr st
 |o::rest,loc,fr,st,k =>
  guardK ops loc fr o
   (fun loc fr=>stepK P H callF f base (evO H loc fr.env) st o.dst
    (fun v st=>typK P o.type v fun v=>landK H f o.dst v st loc fr fun loc fr st=>opsK ops rest loc fr st k)
    (fun st=>putK H f o.dst undefA loc fr fun loc fr=>opsK ops rest loc fr st k)
    (fun g as st=>putK H f o.dst undefA loc fr fun loc fr=>opsK ops rest loc {fr with defers:=(g,as)::fr.defers} st k)
    (fun v st=>k (.panic v) fr st) o)
   (fun loc fr=>putK H f o.dst undefA loc fr fun loc fr=>opsK ops rest loc fr st k)
def opsDK (ops:Array Oper):List Oper→Env→Fr→St→List St→Nat→(AX→Env→Fr→St→List St→Nat→Option R)→Option R
 |[],loc,fr,st,tr,n,k=>k .normal loc fr st tr n
 |o::rest,loc,fr,st,tr,n,k =>
  guardK ops loc fr o
   (fun loc fr=>stepK P H callF f base (evO H loc fr.env) st o.dst
    (fun v st=>typK P o.type v fun v=>landK H f o.dst v st loc fr fun loc fr st=>opsDK ops rest loc fr st (if isO H f o then st::tr else tr) (n+1) k)
    (fun st=>putK H f o.dst undefA loc fr fun loc fr=>opsDK ops rest loc fr st (if isO H f o then st::tr else tr) (n+1) k)
    (fun g as st=>putK H f o.dst undefA loc fr fun loc fr=>opsDK ops rest loc {fr with defers:=(g,as)::fr.defers} st (if isO H f o then st::tr else tr) (n+1) k)
    (fun v st=>k (.panic v) loc fr st tr n) o)
   (fun loc fr=>putK H f o.dst undefA loc fr fun loc fr=>opsDK ops rest loc fr st (if isO H f o then st::tr else tr) (n+1) k)
def againK (P:Program) (H:Hints) (f:FuncId) (base:Nat) (ops:Array Oper) (loc env:Env) (tr:List St) (k:Nat) (x:Nat×Nat×Nat):Bool :=
 if k≤x.1 then true else
 match ops[x.1]? with
 |none=>false
 |some o =>
  match wantA ops loc env o with
  |some false=>true
  |none=>false
  |some true =>
   match o.op with
   | .slice ..=>(stillOp (evO H loc env) o.op&&o.dst.isSome)||again1 P H f base ops loc env tr k x
   | .indexAddr ..=>(stillOp (evO H loc env) o.op&&o.dst.isSome)||again1 P H f base ops loc env tr k x
   | .call ..=>(stillOp (evO H loc env) o.op&&o.dst.isSome)||again1 P H f base ops loc env tr k x
   |_=>again1 P H f base ops loc env tr k x
def offEnv (ops:Array Oper) (env:Env):Env:=env.filter fun p=>!(ops.toList.any fun o=>o.dst==some p.1)
def regionK (id:Nat) (ops:Array Oper) (draw:Bool) (fr:Fr) (st:St) (k:AX→Fr→St→Option R):Option R :=
 if draw then
  if (H.recheck f id).isEmpty&&(H.swp f id).isNone then
   opsK P H callF f base ops ops.toList [] fr st fun ax fr' st'=>match ax with
    | .panic v=>if H.pok f id then k (.panic v) {fr' with env:=offEnv ops fr.env} st' else none
    |ax=>k ax fr' st'
  else
   opsDK P H callF f base ops ops.toList [] fr st [st] 0 fun ax loc fr' st' tr n =>
    if (H.recheck f id).all (againK P H f base ops loc fr'.env tr n) then
     match ax with
     | .panic v=>if H.pok f id then k (.panic v) {fr' with env:=offEnv ops fr.env} st' else none
     |ax=>if swapB P H f base id ops loc fr'.env tr then k ax fr' st' else none
    else none
 else opsK P H callF f base ops ops.toList [] fr st k
def jmpB (j:Option Jmp) (kn kr:Option R) (ke kg:Nat→Option R):Option R:=match j with | none=>kn | some .ret=>kr | some (.exit i)=>ke i | some (.goto l)=>kg l
def execK:Code→Fr→St→(AX→Fr→St→Option R)→Option R
 | .skip,fr,st,k=>k .normal fr st
 | .label _,fr,st,k=>k .normal fr st
 | .region id ops draw,fr,st,k=>regionK P H callF f base id ops draw fr st k
 | .seq a b,fr,st,k=>execK a fr st fun ax fr st=>match ax with | .normal=>execK b (liveF H f b fr) st k | ax=>k ax fr st
 | .cond c a b,fr,st,k=>(evO H [] fr.env c).bind fun v=>match c with
  | .tmp t=>condB v (fun v=>execK a {fr with env:=reput fr.env t v} st k) (fun v=>execK b {fr with env:=reput fr.env t v} st k)
  |_=>condB v (fun _=>execK a fr st k) (fun _=>execK b fr st k)
 | .block id body,fr,st,k=>execK body fr st fun ax fr st=>match ax with | .exit i=>if i=id then k .normal fr st else k (.exit i) fr st | ax=>k ax fr st
 | .loop body,fr,st,k=>headB (again (.round body) fr st) k
 | .scope body,fr,st,k=>execK body fr st fun ax fr st=>match ax with
  | .goto l=>match findLabel body l with | some rest=>headB (again (.resume body rest) fr st) k | none=>k (.goto l) fr st
  |ax=>k ax fr st
 | .exit id,fr,st,k=>k (.exit id) fr st
 | .goto l,fr,st,k=>k (.goto l) fr st
 | .ret,fr,st,k=>k .ret fr st
 | .rangeFunc g ps asg body,fr,st,k=>(evO H [] fr.env g).bind fun v=>(fnV v).bind fun q=>if spId q.1 then none else
  callB (callF q.1 (.fn yieldId [.bp (st.length+1) 0]::q.2) (.loop f base (liveF H f asg fr).env ps.toList asg body (some none)::.coll true::st))
   (fun _ st'=>(rangeEnd (H.loopKeep f) st.length st').bind fun e=>jmpB e.1 (k .normal ⟨fr.env,(collId,[.bp st.length 0])::fr.defers⟩ e.2) (k .ret ⟨fr.env,(collId,[.bp st.length 0])::fr.defers⟩ e.2)
    (fun i=>k (.exit i) ⟨fr.env,(collId,[.bp st.length 0])::fr.defers⟩ e.2) (fun l=>k (.goto l) ⟨fr.env,(collId,[.bp st.length 0])::fr.defers⟩ e.2))
   (fun v st'=>(rangePan (H.loopKeep f) st.length v st').bind fun s=>k (.panic v) ⟨fr.env,(collId,[.bp st.length 0])::fr.defers⟩ s)
 | .refuse _,_,_,_=>none
def loopK (body:Code) (n:Nat) (k:AX→Fr→St→Option R):AX→Fr→St→Option R:=fun ax fr st=>match ax with
 | .normal=>if H.loopKeep f then headB (again (.round body) (liveF H f body fr) st) k else (roundV n (liveF H f body fr) st).bind fun e=>headB (again (.round body) e.1 e.2) k
 |ax=>k ax fr st
def scopeK (body:Code) (k:AX→Fr→St→Option R):AX→Fr→St→Option R:=fun ax fr st=>match ax with
 | .goto l=>match findLabel body l with | some rest=>headB (again (.resume body rest) fr st) k | none=>k (.goto l) fr st
 |ax=>k ax fr st
end run
def outL (ko:Bool) (n:Nat) (r:AOut) (st:St):Option (AOut×St) :=
 if ko||st.length==n then some (r,st) else
 match r with
 | .ret v=>let v':=AV.stripR n v;if AV.closed n v'&&St.closed n (st.trunc n) then some (.ret v',st.trunc n) else none
 | .pan v=>if AV.closed n v&&St.closed n (st.trunc n) then some (.pan v,st.trunc n) else none
section call
variable (P:Program) (H:Hints) (callF:CallF0) (again:FuncId→Nat→AgainF0)
def outV1 (vs:List AV):AV:=match vs with | [v]=>v | vs=>.tup vs
def endK (g:FuncId) (fn:Func) (base:Nat):AX→Fr→St→Option (AOut×St):=fun ax fr st =>
 match ax with
 | .normal | .ret =>
  (match fr.defers with
  |[]=>(resultsA P fr.env st fn.results.toList).bind fun vs=>outL (H.keepObj g) base (.ret (outV1 vs)) st
  |[(d,as)]=>if d=collId then (collA as st).bind fun s=>(resultsA P fr.env s fn.results.toList).bind fun vs=>outL (H.keepObj g) base (.ret (outV1 vs)) s
   else (leaveA P (callDA P H callF again) fn fr.env [(d,as)] .ret st).bind fun o=>outL (H.keepObj g) base o.1 o.2
  |ds=>(leaveA P (callDA P H callF again) fn fr.env ds .ret st).bind fun o=>outL (H.keepObj g) base o.1 o.2)
 | .panic v =>
  (match fr.defers with
  |[]=>outL (H.keepObj g) base (.pan v) st
  |[(d,as)]=>if d=collId then (collA as st).bind fun s=>outL (H.keepObj g) base (.pan v) s
   else (leaveA P (callDA P H callF again) fn fr.env [(d,as)] (.pan v) st).bind fun o=>outL (H.keepObj g) base o.1 o.2
  |ds=>(leaveA P (callDA P H callF again) fn fr.env ds (.pan v) st).bind fun o=>outL (H.keepObj g) base o.1 o.2)
 |_=>none
def doneK (ko:Bool) (n o:Nat) (j:Option Jmp) (b:Bool) (st:St):Option (AOut×St):=(doneA o j st).bind fun s=>outL ko n (.ret (.bool b)) s
def rendK (f:FuncId) (n o:Nat):AX→Fr→St→Option (AOut×St):=fun ax _ st=>match ax with
 | .normal=>doneK (H.keepObj f) n o none true st
 | .ret=>doneK (H.keepObj f) n o (some .ret) false st
 | .exit i=>doneK (H.keepObj f) n o (some (.exit i)) false st
 | .goto l=>doneK (H.keepObj f) n o (some (.goto l)) false st
 | .panic _=>none
def roundK (o:Nat) (f:FuncId) (base:Nat) (env:Env) (ps:List Nat) (asg body:Code) (vals:List AV) (st:St):Option (AOut×St) :=
 if vals.length=ps.length∧loopOk P H f env ps asg body=true then
  execK P H callF (again f base) f base asg ⟨putPs env ps vals,[]⟩ st fun ax fr st1=>match ax with
   | .normal=>(busyA o st1).bind fun s=>execK P H callF (again f base) f base body (liveF H f body fr) s (rendK H f st.length o)
   |_=>none
 else none
def callK (g:FuncId) (args:List AV) (st:St):Option (AOut×St) :=
 if g=yieldId then none else
 match H.prim g with
 |some _=>none
 |none =>
  (P.funcs[g]?).bind fun fn=>fn.body.bind fun c =>
  if args.length≤fn.params.size+fn.nfree then execK P H callF (again g st.length) g st.length c ⟨entry args,[]⟩ (homesA (H.homes g) st) (endK P H callF again g fn st.length)
  else none
end call
end Go.Abs
namespace Go.Abs
open Go
section
variable {R:Type} {P:Program} {H:Hints} {callF:CallF0} {again:AgainF0} {f:FuncId} {base:Nat}
variable {ev:Operand→Option AV} {st:St} {dst:Option Tmp} {kv:AV→St→Option R} {ks:St→Option R} {kd:FuncId→List AV→St→Option R} {kp:AV→St→Option R} {r:R}
def resK (kv:AV→St→Option R) (ks:St→Option R) (kd:FuncId→List AV→St→Option R) (kp:AV→St→Option R) (q:Res×St):Option R :=
 match q.1 with
 | .val v=>kv v q.2
 | .skip=>ks q.2
 | .defer g as=>kd g as q.2
 | .pan v=>kp v q.2
theorem pickV_eq (t:Bool) (a b:AV):pickV t a b=if t then a else b:=by
 unfold pickV
 split
 ·cases t<;>rfl
 ·rfl
theorem boolV_some {v:AV} {t:Bool} (h:boolV v=some t):v = .bool t:=by
 unfold boolV at h;split at h<;>simp at h;subst h;rfl
theorem cell1_some {v c:AV} (h:cell1 v=some c):v.cells=[c]∧v.isTup=false:=by
 unfold cell1 at h
 split at h
 ·split at h<;>simp at h
  subst h;exact ⟨rfl,rfl⟩
 ·simp at h
 ·simp only [Option.some.injEq] at h
  subst h
  cases v<;>simp_all [AV.cells,AV.isTup]
theorem withCells_some {n:Nat} {v:AV} {k:List AV→Option R} (h:withCells n v k=some r):v.cells.length=n∧v.isTup=false∧k v.cells=some r:=by
 unfold withCells at h
 split at h
 ·obtain ⟨c,hc,h2⟩:=Option.bind_eq_some_iff.1 h
  obtain ⟨h3,h4⟩:=cell1_some hc
  rw [h3];subst n;exact ⟨rfl,h4,h2⟩
 ·obtain ⟨c,hc,h2⟩:=Option.bind_eq_some_iff.1 h
  unfold cellsV at hc
  split at hc
  ·rename_i hh
   simp only [Option.some.injEq] at hc;subst hc
   exact ⟨hh.1,hh.2,h2⟩
  ·simp at hc
theorem aggV_some {v:AV} {cs:List AV} (h:aggV v=some cs):v = .agg cs:=by
 unfold aggV at h;split at h<;>simp at h;subst h;rfl
theorem panicV_some {v w:AV} (h:panicV v=some w):∃t x,v = .iface t x∧w = .iface t x:=by
 unfold panicV at h;split at h<;>simp at h;exact ⟨_,_,rfl,h.symm⟩
theorem fnV_some {v:AV} {q:FuncId×List AV} (h:fnV v=some q):v = .fn q.1 q.2:=by
 unfold fnV at h;split at h<;>simp at h;subst h;rfl
theorem fillA_mono {p p':Nat→Option (Nat×Nat)} (h:∀i x,p i=some x→p' i=some x):∀{ps:List (Nat×AV)} {cs cs':List AV},fillA p cs ps=some cs'→fillA p' cs ps=some cs'
 |[],cs,cs',hf=>hf
 |(i,v)::rest,cs,cs',hf=>by
  simp only [fillA] at hf ⊢
  obtain ⟨x,hx,h2⟩:=Option.bind_eq_some_iff.1 hf
  rw [h i x hx]
  simp only [Option.bind_some]
  split at h2
  ·rename_i hc
   rw [if_pos hc]
   obtain ⟨c,hc,h3⟩:=Option.bind_eq_some_iff.1 h2
   rw [hc]
   exact fillA_mono h h3
  ·simp at h2
theorem fillK_some {pl:List (Nat×Nat)} {k:List AV→Option R}:∀{ps:List (Nat×AV)} {cs:List AV},fillK pl ps cs k=some r→∃cs',fillA (fun i=>pl[i]?) cs ps=some cs'∧k cs'=some r
 |[],cs,h=>⟨cs,rfl,h⟩
 |(i,v)::rest,cs,h=>by
  simp only [fillK] at h
  obtain ⟨x,hx,h2⟩:=Option.bind_eq_some_iff.1 h
  obtain ⟨h3,h4,h5⟩:=withCells_some h2
  obtain ⟨c,hc,h6⟩:=Option.bind_eq_some_iff.1 h5
  obtain ⟨cs',h7,h8⟩:=fillK_some h6
  refine ⟨cs',?_,h8⟩
  simp only [fillA,hx,Option.bind_some]
  rw [if_pos ⟨h3,h4⟩,hc]
  exact h7
theorem rowsK_some {sz:Nat} {k:List (List AV)→Option R}:∀{ps:List (Nat×AV)} {rows:List (List AV)},rowsK sz ps rows k=some r→∃rows',rowsPut sz rows ps=some rows'∧k rows'=some r
 |[],rows,h=>⟨rows,rfl,h⟩
 |(i,v)::rest,rows,h=>by
  simp only [rowsK] at h
  split at h
  ·rename_i hi
   obtain ⟨h3,h4,h5⟩:=withCells_some h
   obtain ⟨rows',h6,h7⟩:=rowsK_some h5
   refine ⟨rows',?_,h7⟩
   simp only [rowsPut]
   rw [if_pos ⟨hi,h3,h4⟩];exact h6
  ·simp at h
theorem mapM_get {α β:Type} {g:α→Option β}:∀{l:List α} {l':List β},l.mapM g=some l'→∀i:Nat,l'[i]?=(l[i]?).bind g
 |[],l',h,i=>by simp at h;subst h;simp
 |a::l,l',h,i=>by
  rw [List.mapM_cons] at h
  obtain ⟨b,hb,h2⟩:=Option.bind_eq_some_iff.1 h
  obtain ⟨bs,hbs,h3⟩:=Option.bind_eq_some_iff.1 h2
  simp only [Option.pure_def,Option.some.injEq] at h3
  subst h3
  cases i with
  |zero=>simp [hb]
  |succ i=>simpa using mapM_get hbs i
theorem buildA_of {t:TypeId} {z:AV} {pl:List (Nat×Nat)} {ps:List (Nat×AV)} {cs:List AV} (hz:zeroA P t=some z) (hzt:z.isTup=false) (hpl:placesT P t=some pl) (hf:fillA (fun i=>pl[i]?) z.cells ps=some cs) :
  buildA P t ps=some (.agg cs):=by
 unfold buildA
 rw [hz]
 simp only [Option.bind_some,hzt,Bool.false_eq_true,if_false]
 unfold placesT at hpl
 split at hpl
 ·rename_i fields hu
  have hg:=mapM_get hpl
  rw [hu]
  simp only
  rw [if_pos,fillA_mono (p':=fun i=>(fields[i]?).bind fun f=>(szOf P f.type).map fun s=>(f.offset,s)) (fun i x hx=>by
   rw [hg i] at hx;simpa using hx) hf]
  ·rfl
  ·refine List.all_eq_true.2 fun f hfm=>?_
   obtain ⟨i,hi,rfl⟩:=List.mem_iff_getElem.1 hfm
   have:=hg i
   cases hs:szOf P (fields.toList[i]).type with
   |some s=>rfl
   |none =>
    rw [List.getElem?_eq_getElem hi] at this
    simp only [Option.bind_some,hs,Option.map_none] at this
    have hlen:∀{α β:Type} {g:α→Option β} {l:List α} {l':List β},l.mapM g=some l'→l'.length=l.length:=by
     intro α β g l
     induction l with
     |nil=>intro l' h;simp at h;subst h;rfl
     |cons a l ih =>
      intro l' h
      rw [List.mapM_cons] at h
      obtain ⟨b,hb,h2⟩:=Option.bind_eq_some_iff.1 h
      obtain ⟨bs,hbs,h3⟩:=Option.bind_eq_some_iff.1 h2
      simp only [Option.pure_def,Option.some.injEq] at h3
      subst h3
      simp [ih hbs]
    have:=hlen hpl
    have h4:pl[i]?=none:=by assumption
    rw [List.getElem?_eq_none_iff] at h4
    omega
 ·rename_i n e hu
  obtain ⟨s,hs,rfl⟩:=Option.map_eq_some_iff.1 hpl
  rw [hu]
  simp only [hs,Option.bind_some]
  rw [fillA_mono (p':=fun i=>some (i*s,s)) (fun i x hx=>by
   rw [List.getElem?_map] at hx
   obtain ⟨j,hj,rfl⟩:=Option.map_eq_some_iff.1 hx
   have:=List.getElem?_eq_some_iff.1 hj
   obtain ⟨h1,h2⟩:=this
   simp at h2
   rw [h2]) hf]
  rfl
 ·simp at hpl
theorem ldA_read (st:St) (t:TypeId) (p:AV):ldA P st t p=(aggT P t).bind fun ag=>(szOf P t).bind fun n=>readA st p n ag:=by
 unfold ldA readA;rfl
theorem stA_write {st:St} {t:TypeId} {p v:AV} {n:Nat} (hn:szOf P t=some n) (h1:v.cells.length=n) (h2:v.isTup=false):stA P st t p v=writeA st p v.cells:=by
 unfold stA writeA
 rw [hn]
 simp only [Option.bind_some]
 rw [if_pos ⟨h1,h2⟩]
 rfl
theorem elemT_some {t:TypeId} {e:Nat×Nat×Option AV} (h:elemT P t=some e):∃et i,P.underlying t=some (.slice et)∧P.info? et=some i∧kdOf P et=some e.2.1∧e.1=i.bytes∧e.2.2=zeroA P et:=by
 unfold elemT at h
 split at h
 ·rename_i et hu
  obtain ⟨i,hi,h2⟩:=Option.bind_eq_some_iff.1 h
  obtain ⟨kd,hk,rfl⟩:=Option.map_eq_some_iff.1 h2
  exact ⟨et,i,hu,hi,hk,rfl,rfl⟩
 ·simp at h
theorem callBK_le {c:Call} (h:callBK P H f base ev st dst kv c=some r):∃v s,callBA P H f ev st base dst c=some (.val v,s)∧kv v s=some r:=by
 unfold callBK at h
 simp only [homeK_eq] at h
 unfold callBA
 split at h
 ·rename_i b hc
  rw [hc]
  simp only
  obtain ⟨args,ha,h2⟩:=Option.bind_eq_some_iff.1 h
  rw [ha]
  simp only [Option.bind_some]
  split at h2
  ·rename_i s x
   obtain ⟨t,ht,h3⟩:=Option.bind_eq_some_iff.1 h2
   split at h3
   ·simp at h3
   ·simp at h3
   ·rename_i hn1 hn2
    obtain ⟨e,he,h4⟩:=Option.bind_eq_some_iff.1 h3
    split at h4
    ·rename_i hnull
     obtain ⟨q,hq,h5⟩:=Option.bind_eq_some_iff.1 h4
     refine ⟨q.1,q.2,?_,h5⟩
     obtain ⟨et,i,e1,e2,e3,e4,e5⟩:=elemT_some he
     have hn:nullOk P et e.2.1=true:=by
      unfold nullOk;rw [←e5]
      unfold okNull at hnull
      exact hnull
     have happ:appendA P st (homeOf H f ev st base dst) t s x=some q:=by
      unfold appendA
      rw [e1]
      simp only [e2,e3,Option.bind_some,hn,if_true]
      rw [←e4]
      exact hq
     unfold builtinA
     simp only [ht,Option.bind_some,happ]
     cases hu1:(c.argTypes[1]?).bind P.underlying with
     |none=>exact absurd hu1 hn2
     |some d =>
      cases d<;>first | rfl | exact absurd hu1 (hn1 _)
    ·simp at h4
  ·rename_i x
   obtain ⟨t,ht,h3⟩:=Option.bind_eq_some_iff.1 h2
   obtain ⟨q,hq,h4⟩:=Option.bind_eq_some_iff.1 h3
   obtain ⟨v,hv,h5⟩:=Option.bind_eq_some_iff.1 h4
   refine ⟨v,st,?_,h5⟩
   have:lenA P st t x=some v:=by
    unfold lenT at hq
    unfold lenA
    split at hq<;>first | (simp only [Option.some.injEq] at hq;subst hq) | (simp at hq;done)
    ·rename_i hu;simp only [lenV,lenStr] at hv;split at hv<;>simp_all
    ·rename_i hu;rw [hu];exact hv
    ·rename_i hu;simp only [lenV,lenSl] at hv;split at hv<;>simp_all
    ·rename_i hu
     simp only [lenV,lenMap] at hv
     split at hv
     ·rw [hu];exact hv
     ·rw [hu];exact hv
     ·simp at hv
   unfold builtinA
   simp only [ht,Option.bind_some,this,Option.map_some]
  ·rename_i d s
   obtain ⟨t,ht,h3⟩:=Option.bind_eq_some_iff.1 h2
   obtain ⟨e,he,h4⟩:=Option.bind_eq_some_iff.1 h3
   obtain ⟨q,hq,h5⟩:=Option.bind_eq_some_iff.1 h4
   refine ⟨q.1,q.2,?_,h5⟩
   obtain ⟨et,i,e1,e2,e3,e4,e5⟩:=elemT_some he
   have:copyA P st t d s=some q:=by
    unfold copyA
    rw [e1]
    simp only [e3,Option.bind_some]
    exact hq
   unfold builtinA
   simp only [ht,Option.bind_some,this,Option.map_some]
  ·rename_i x r'
   obtain ⟨v,hv,h3⟩:=Option.bind_eq_some_iff.1 h2
   exact ⟨v,st,by simp only [builtinA,hv,Option.map_some],h3⟩
  ·rename_i x r'
   obtain ⟨v,hv,h3⟩:=Option.bind_eq_some_iff.1 h2
   exact ⟨v,st,by simp only [builtinA,hv,Option.map_some],h3⟩
  ·obtain ⟨v,hv,h3⟩:=Option.bind_eq_some_iff.1 h2
   exact ⟨v,st,by simp only [builtinA,hv,Option.map_some],h3⟩
  ·obtain ⟨v,hv,h3⟩:=Option.bind_eq_some_iff.1 h2
   exact ⟨v,st,by simp only [builtinA,hv,Option.map_some],h3⟩
  ·simp at h2
 ·rename_i g hc
  rw [hc]
  simp only
  obtain ⟨F,hF,h2⟩:=Option.bind_eq_some_iff.1 h
  obtain ⟨args,ha,h3⟩:=Option.bind_eq_some_iff.1 h2
  obtain ⟨v,hv,h4⟩:=Option.bind_eq_some_iff.1 h3
  exact ⟨v,st,by simp only [hF,ha,Option.bind_some,vA,hv,Option.map_some],h4⟩
 ·simp at h
theorem opK_le {op:Op} (h:opK P H f base ev st dst kv ks kd kp op=some r):∃q,opA P H f ev st base dst op=some q∧resK kv ks kd kp q=some r:=by
 cases op<;>simp only [opK,homeK_eq] at h<;>try (simp at h;done)
 case move x =>
  obtain ⟨v,hv,h2⟩:=Option.bind_eq_some_iff.1 h
  exact ⟨(.val v,st),by simp only [opA,vA,hv,Option.map_some],h2⟩
 case assign x =>
  obtain ⟨v,hv,h2⟩:=Option.bind_eq_some_iff.1 h
  exact ⟨(.val v,st),by simp only [opA,vA,hv,Option.map_some],h2⟩
 case pick c a b =>
  obtain ⟨vc,hc,h2⟩:=Option.bind_eq_some_iff.1 h
  obtain ⟨t,ht,h3⟩:=Option.bind_eq_some_iff.1 h2
  obtain ⟨va,ha,h4⟩:=Option.bind_eq_some_iff.1 h3
  obtain ⟨vb,hb,h5⟩:=Option.bind_eq_some_iff.1 h4
  have:=boolV_some ht
  subst this
  rw [pickV_eq] at h5
  refine ⟨(.val (if t then va else vb),st),?_,h5⟩
  simp only [opA,vA,pickA,hc,Option.bind_some]
  cases t
  ·simp [hb]
  ·simp [ha]
 case alloc t =>
  obtain ⟨z,hz,h2⟩:=Option.bind_eq_some_iff.1 h
  split at h2
  ·simp at h2
  ·rename_i hn
   exact ⟨(.val (.bp st.length 0),homesA (compOf H f dst) (.box t z.cells::st)),by simp only [opA,vsA,allocA,hz,Option.bind_some,if_neg hn,Option.map_some,madeA],h2⟩
 case box t x =>
  obtain ⟨v,hv,h2⟩:=Option.bind_eq_some_iff.1 h
  obtain ⟨n,hn,h3⟩:=Option.bind_eq_some_iff.1 h2
  obtain ⟨h4,h5,h6⟩:=withCells_some h3
  exact ⟨(.val (.bp st.length 0),homesA (compOf H f dst) (.box t v.cells::st)),by simp only [opA,vsA,boxA,hv,Option.bind_some,h5,Bool.false_eq_true,if_false,Option.map_some,madeA],h6⟩
 case build t ps =>
  obtain ⟨z,hz,h2⟩:=Option.bind_eq_some_iff.1 h
  split at h2
  ·simp at h2
  ·rename_i hn
   obtain ⟨pl,hpl,h3⟩:=Option.bind_eq_some_iff.1 h2
   obtain ⟨qs,hq,h4⟩:=Option.bind_eq_some_iff.1 h3
   obtain ⟨cs,hcs,h5⟩:=fillK_some h4
   refine ⟨(.val (.agg cs),st),?_,h5⟩
   simp only [opA,vA,buildOA,hq,Option.bind_some,buildA_of hz (by simpa using hn) hpl hcs,Option.map_some]
 case buildSlice t len ps =>
  obtain ⟨e,he,h2⟩:=Option.bind_eq_some_iff.1 h
  obtain ⟨z,hz,h3⟩:=Option.bind_eq_some_iff.1 h2
  obtain ⟨qs,hq,h4⟩:=Option.bind_eq_some_iff.1 h3
  obtain ⟨et,i,e1,e2,e3,e4,e5⟩:=elemT_some he
  split at h4
  ·rename_i hc
   obtain ⟨rows,hr,h5⟩:=rowsK_some h4
   rw [e5] at hz
   simp only [opA,vsA,buildSliceA,e1,e3,hz,hq,Option.bind_some,literalA]
   rw [if_pos hc,hr]
   simp only [Option.bind_some]
   split at h5
   ·rename_i hm m hh
    obtain ⟨q,hq2,h6⟩:=Option.bind_eq_some_iff.1 h5
    exact ⟨(.val q.1,q.2),by simp only [hh,hq2,Option.map_some],h6⟩
   ·rename_i hh
    exact ⟨(.val (.sl e.2.1 rows 0 len .exact),st),by simp only [hh,Option.map_some],h5⟩
  ·simp at h4
 case load t a =>
  obtain ⟨p,hp,h2⟩:=Option.bind_eq_some_iff.1 h
  obtain ⟨ag,hag,h3⟩:=Option.bind_eq_some_iff.1 h2
  obtain ⟨n,hn,h4⟩:=Option.bind_eq_some_iff.1 h3
  obtain ⟨v,hv,h5⟩:=Option.bind_eq_some_iff.1 h4
  refine ⟨(.val v,st),?_,h5⟩
  simp only [opA,vA,hp,Option.bind_some,ldA_read,hag,hn,hv,Option.map_some]
 case store t a x =>
  obtain ⟨p,hp,h2⟩:=Option.bind_eq_some_iff.1 h
  obtain ⟨v,hv,h3⟩:=Option.bind_eq_some_iff.1 h2
  obtain ⟨n,hn,h4⟩:=Option.bind_eq_some_iff.1 h3
  obtain ⟨h5,h6,h7⟩:=withCells_some h4
  obtain ⟨s,hs,h8⟩:=Option.bind_eq_some_iff.1 h7
  refine ⟨(.skip,s),?_,h8⟩
  simp only [opA,usA,storeOA,hp,hv,Option.bind_some,stA_write hn h5 h6,hs,Option.map_some]
 case nilCheck x =>
  obtain ⟨v,hv,h2⟩:=Option.bind_eq_some_iff.1 h
  obtain ⟨u,hu,h3⟩:=Option.bind_eq_some_iff.1 h2
  exact ⟨(.val u,st),by simp only [opA,vA,hv,hu,Option.bind_some,Option.map_some],h3⟩
 case binOp op t x y ty =>
  obtain ⟨a,ha,h2⟩:=Option.bind_eq_some_iff.1 h
  obtain ⟨b,hb,h3⟩:=Option.bind_eq_some_iff.1 h2
  obtain ⟨v,hv,h4⟩:=Option.bind_eq_some_iff.1 h3
  exact ⟨(.val v,st),by simp only [opA,vA,binOA,ha,hb,hv,Option.bind_some,Option.map_some],h4⟩
 case unOp op ty x =>
  obtain ⟨a,ha,h2⟩:=Option.bind_eq_some_iff.1 h
  obtain ⟨v,hv,h3⟩:=Option.bind_eq_some_iff.1 h2
  exact ⟨(.val v,st),by simp only [opA,vA,ha,hv,Option.bind_some,Option.map_some],h3⟩
 case convert s d x =>
  obtain ⟨a,ha,h2⟩:=Option.bind_eq_some_iff.1 h
  have key:∀{q:ConvT} {v:AV},convT P s d=some q→(q.ctorIdx=ConvT.bytes.ctorIdx→(homeOf H f ev st base dst).isSome=false)→convV st q a=some v→convA P st (homeOf H f ev st base dst) s d a=some (v,st):=by
   intro q v hq hh hv
   unfold convT at hq
   unfold convA
   split at hq
   ·rename_i k' k hs hd
    simp only [Option.some.injEq] at hq;subst hq
    rw [hs,hd]
    simp only
    unfold convV at hv
    split at hv<;>simp_all
   ·rename_i hs hd
    simp only [Option.some.injEq] at hq;subst hq
    rw [hs,hd]
    simp only
    unfold convV at hv
    split at hv<;>simp_all
   ·rename_i e hs hd
    rw [hs,hd]
    simp only
    split at hq
    ·rename_i hu
     split at hq
     ·rename_i hce
      simp only [Option.some.injEq] at hq;subst hq
      have hh':=hh rfl
      simp only [convV,bytesV] at hv
      split at hv
      ·simp only [Option.some.injEq] at hv
       subst hv
       simp [hu,hce,hh']
      ·simp at hv
     ·simp at hq
    ·simp at hq
   ·rename_i e hs hd
    rw [hs,hd]
    simp only
    split at hq
    ·rename_i hu
     simp only [Option.some.injEq] at hq;subst hq
     rw [hu]
     simp only [convV,strOf] at hv
     simp only
     split at hv
     ·simp at hv
     ·obtain ⟨rs,hrs,h3⟩:=Option.bind_eq_some_iff.1 hv
      obtain ⟨bs,hbs,rfl⟩:=Option.map_eq_some_iff.1 h3
      simp only [hrs,hbs,Option.bind_some,Option.map_some]
    ·simp at hq
   ·simp at hq
  split at h2
  ·rename_i q hq
   split at h2
   ·split at h2
    ·simp at h2
    ·rename_i hh
     obtain ⟨v,hv,h3⟩:=Option.bind_eq_some_iff.1 h2
     exact ⟨(.val v,st),by simp only [opA,vsA,convOA,ha,Option.bind_some,key hq (fun _=>by simpa using hh) hv,Option.map_some],h3⟩
   ·rename_i hne
    obtain ⟨v,hv,h3⟩:=Option.bind_eq_some_iff.1 h2
    exact ⟨(.val v,st),by simp only [opA,vsA,convOA,ha,Option.bind_some,key hq (fun e=>by cases q<;>simp_all [ConvT.ctorIdx]) hv,Option.map_some],h3⟩
  ·obtain ⟨q,hq,h3⟩:=Option.bind_eq_some_iff.1 h2
   exact ⟨(.val q.1,q.2),by simp only [opA,vsA,convOA,ha,Option.bind_some,hq,Option.map_some],h3⟩
 case makeInterface t x =>
  split at h
  ·rename_i hp
   obtain ⟨v,hv,h2⟩:=Option.bind_eq_some_iff.1 h
   refine ⟨(.val (.iface t v),st),?_,h2⟩
   simp only [opA,vA,ifaceA]
   unfold plainT at hp
   split at hp
   ·simp at hp
   ·rename_i q hu hnu
    rw [hnu]
    cases q<;>first | (exact (hu _ rfl).elim) | (simp only [hv,Option.map_some])
   ·simp at hp
  ·simp at h
 case makeFunc fn first cap =>
  obtain ⟨v,hv,h2⟩:=Option.bind_eq_some_iff.1 h
  exact ⟨(.val v,st),by simp only [opA,vA,hv,Option.map_some],h2⟩
 case makeMap t x =>
  split at h
  ·exact ⟨(.val (.mp st.length),.amap []::st),rfl,h⟩
  ·simp at h
 case makeSlice t l c =>
  obtain ⟨e,he,h2⟩:=Option.bind_eq_some_iff.1 h
  obtain ⟨z,hz,h3⟩:=Option.bind_eq_some_iff.1 h2
  obtain ⟨et,i,e1,e2,e3,e4,e5⟩:=elemT_some he
  rw [e5] at hz
  split at h3
  ·rename_i hc
   obtain ⟨lv,hl,h4⟩:=Option.bind_eq_some_iff.1 h3
   obtain ⟨cv,hcv,h5⟩:=Option.bind_eq_some_iff.1 h4
   obtain ⟨q,hq,h6⟩:=Option.bind_eq_some_iff.1 h5
   refine ⟨(.val q.1,q.2),?_,h6⟩
   have:makeSliceA P st (homeOf H f ev st base dst) t lv cv=some q:=by
    unfold makeSl at hq
    split at hq
    ·rename_i l c
     unfold makeSliceA
     rw [e1]
     simp only [e2,e3,hz,Option.bind_some]
     split at hq
     ·rename_i hb
      rw [if_pos ⟨hb.1,hb.2.1,by rw [←e4];exact hb.2.2.1,hb.2.2.2,hc.1,hc.2⟩]
      exact hq
     ·simp at hq
    ·simp at hq
   simp only [opA,vsA,makeSliceOA,hl,hcv,Option.bind_some,this,Option.map_some]
  ·simp at h3
 case slice t x lo hi mx =>
  obtain ⟨xv,hx,h2⟩:=Option.bind_eq_some_iff.1 h
  obtain ⟨q,hq,h3⟩:=Option.bind_eq_some_iff.1 h2
  have optK_some:∀{o:Option Operand} {k:Option AV→Option R},optK ev o k=some r→(∃vs,evs ev o.toList=some vs)∧k (o.bind ev)=some r:=by
   intro o k ho
   cases o with
   |none=>exact ⟨⟨[],rfl⟩,ho⟩
   |some o =>
    obtain ⟨v,hv,h4⟩:=Option.bind_eq_some_iff.1 ho
    exact ⟨⟨[v],by simp [evs,hv]⟩,by simpa [hv] using h4⟩
  have evs_app:∀{a b:List Operand} {va vb:List AV},evs ev a=some va→evs ev b=some vb→evs ev (a++b)=some (va++vb):=by
   intro a
   induction a with
   |nil=>intro b va vb h1 h2;simp [evs] at h1;subst h1;simpa using h2
   |cons x a ih =>
    intro b va vb h1 h2
    simp only [evs] at h1
    obtain ⟨v,hv,h4⟩:=Option.bind_eq_some_iff.1 h1
    obtain ⟨vs,hvs,rfl⟩:=Option.map_eq_some_iff.1 h4
    simp only [List.cons_append,evs,hv,Option.bind_some,ih hvs h2,Option.map_some]
  unfold ixT at hq
  split at hq
  ·rename_i et hu
   obtain ⟨kdv,hkd,rfl⟩:=Option.map_eq_some_iff.1 hq
   simp only at h3
   obtain ⟨⟨v1,g1⟩,h4⟩:=optK_some h3
   obtain ⟨⟨v2,g2⟩,h5⟩:=optK_some h4
   obtain ⟨⟨v3,g3⟩,h6⟩:=optK_some h5
   obtain ⟨v,hv,h7⟩:=Option.bind_eq_some_iff.1 h6
   refine ⟨(.val v,st),?_,h7⟩
   have:sliceA P st t xv (lo.bind ev) (hi.bind ev) (mx.bind ev)=some v:=by
    unfold sliceSl at hv
    unfold sliceA
    rw [hu]
    split at hv
    ·simp only
     have:(szOf P et).isSome=true:=by
      unfold kdOf at hkd
      unfold szOf
      split at hkd
      ·obtain ⟨i,hi,_⟩:=Option.bind_eq_some_iff.1 hkd;simp [hi]
      ·obtain ⟨i,hi,_⟩:=Option.bind_eq_some_iff.1 hkd;simp [hi]
      ·simp at hkd
     obtain ⟨s,hs⟩:=Option.isSome_iff_exists.1 this
     rw [hs];exact hv
    ·simp only [hkd,Option.bind_some];exact hv
    ·simp only [hkd,Option.bind_some];exact hv
    ·simp at hv
   simp only [opA,vA,sliceOA,hx,Option.bind_some,evs_app (evs_app g1 g2) g3,this,Option.map_some]
  ·rename_i len e hu
   obtain ⟨ag,_,h4⟩:=Option.bind_eq_some_iff.1 hq
   obtain ⟨n,_,rfl⟩:=Option.map_eq_some_iff.1 h4
   simp at h3
  ·rename_i hu
   simp only [Option.some.injEq] at hq;subst hq
   simp only at h3
   split at h3
   ·obtain ⟨⟨v1,g1⟩,h4⟩:=optK_some h3
    obtain ⟨⟨v2,g2⟩,h5⟩:=optK_some h4
    obtain ⟨v,hv,h7⟩:=Option.bind_eq_some_iff.1 h5
    refine ⟨(.val v,st),?_,h7⟩
    have:sliceA P st t xv (lo.bind ev) (hi.bind ev) none=some v:=by
     unfold sliceStr at hv
     unfold sliceA
     rw [hu]
     split at hv
     ·simp only [Option.isNone_none,true_and];exact hv
     ·simp at hv
    have g3:evs ev (Option.toList (none:Option Operand))=some []:=rfl
    simp only [opA,vA,sliceOA,hx,Option.bind_some,evs_app (evs_app g1 g2) g3,Option.bind_none,this,Option.map_some]
   ·simp at h3
  ·simp at hq
 case fieldAddr t x i =>
  obtain ⟨xv,hx,h2⟩:=Option.bind_eq_some_iff.1 h
  obtain ⟨off,hoff,h3⟩:=Option.bind_eq_some_iff.1 h2
  obtain ⟨v,hv,h4⟩:=Option.bind_eq_some_iff.1 h3
  refine ⟨(.val v,st),?_,h4⟩
  have:fieldAddrA P t xv i=some v:=by
   unfold fieldOff at hoff
   unfold fieldAddrA
   split at hoff
   ·rename_i fields hu
    rw [hu]
    obtain ⟨fd,hfd,h5⟩:=Option.bind_eq_some_iff.1 hoff
    obtain ⟨n,hn,h6⟩:=Option.bind_eq_some_iff.1 h5
    split at h6
    ·simp at h6
    ·rename_i hn0
     simp only [Option.some.injEq] at h6;subst h6
     simp only [hfd,hn,Option.bind_some,if_neg hn0]
     unfold ptrAdd at hv
     exact hv
   ·simp at hoff
  simp only [opA,vA,hx,Option.bind_some,this,Option.map_some]
 case field t x i =>
  obtain ⟨xv,hx,h2⟩:=Option.bind_eq_some_iff.1 h
  obtain ⟨q,hq,h3⟩:=Option.bind_eq_some_iff.1 h2
  obtain ⟨cs,hcs,h4⟩:=Option.bind_eq_some_iff.1 h3
  obtain ⟨v,hv,h5⟩:=Option.bind_eq_some_iff.1 h4
  refine ⟨(.val v,st),?_,h5⟩
  have:=aggV_some hcs
  subst this
  have:fieldA P t (.agg cs) i=some v:=by
   unfold fieldPart at hq
   unfold fieldA
   split at hq
   ·rename_i fields hu
    rw [hu]
    obtain ⟨fd,hfd,h5⟩:=Option.bind_eq_some_iff.1 hq
    obtain ⟨ag,hag,h6⟩:=Option.bind_eq_some_iff.1 h5
    obtain ⟨n,hn,rfl⟩:=Option.map_eq_some_iff.1 h6
    simp only [hfd,Option.bind_some,partA,hag,hn]
    exact hv
   ·simp at hq
  simp only [opA,vA,hx,Option.bind_some,this,Option.map_some]
 case indexAddr t x i =>
  obtain ⟨xv,hx,h2⟩:=Option.bind_eq_some_iff.1 h
  obtain ⟨iv,hi,h3⟩:=Option.bind_eq_some_iff.1 h2
  obtain ⟨j,hj,h4⟩:=Option.bind_eq_some_iff.1 h3
  obtain ⟨q,hq,h5⟩:=Option.bind_eq_some_iff.1 h4
  unfold ixT at hq
  split at hq
  ·rename_i et hu
   obtain ⟨kdv,hkd,rfl⟩:=Option.map_eq_some_iff.1 hq
   simp only at h5
   obtain ⟨v,hv,h6⟩:=Option.bind_eq_some_iff.1 h5
   refine ⟨(.val v,st),?_,h6⟩
   have:indexAddrA P st t xv iv=some v:=by
    unfold indexAddrA
    simp only [hj,hu,hkd,Option.bind_some]
    exact hv
   simp only [opA,vA,hx,hi,Option.bind_some,this,Option.map_some]
  ·rename_i len e hu
   obtain ⟨ag,_,h6⟩:=Option.bind_eq_some_iff.1 hq
   obtain ⟨n,hn,rfl⟩:=Option.map_eq_some_iff.1 h6
   simp only at h5
   split at h5
   ·rename_i hjl
    obtain ⟨v,hv,h7⟩:=Option.bind_eq_some_iff.1 h5
    refine ⟨(.val v,st),?_,h7⟩
    have:indexAddrA P st t xv iv=some v:=by
     unfold indexAddrA
     simp only [hj,hu,hn,Option.bind_some,if_pos hjl]
     exact hv
    simp only [opA,vA,hx,hi,Option.bind_some,this,Option.map_some]
   ·simp at h5
  ·simp only [Option.some.injEq] at hq;subst hq;simp at h5
  ·simp at hq
 case index t x i =>
  obtain ⟨xv,hx,h2⟩:=Option.bind_eq_some_iff.1 h
  obtain ⟨iv,hi,h3⟩:=Option.bind_eq_some_iff.1 h2
  obtain ⟨j,hj,h4⟩:=Option.bind_eq_some_iff.1 h3
  obtain ⟨q,hq,h5⟩:=Option.bind_eq_some_iff.1 h4
  unfold ixT at hq
  split at hq
  ·obtain ⟨kdv,hkd,rfl⟩:=Option.map_eq_some_iff.1 hq
   simp at h5
  ·rename_i len e hu
   obtain ⟨ag,hag,h6⟩:=Option.bind_eq_some_iff.1 hq
   obtain ⟨n,hn,rfl⟩:=Option.map_eq_some_iff.1 h6
   simp only at h5
   split at h5
   ·rename_i hjl
    obtain ⟨cs,hcs,h6⟩:=Option.bind_eq_some_iff.1 h5
    obtain ⟨v,hv,h7⟩:=Option.bind_eq_some_iff.1 h6
    have:=aggV_some hcs
    subst this
    refine ⟨(.val v,st),?_,h7⟩
    have:indexA P t (.agg cs) iv=some v:=by
     unfold indexA
     simp only [hj,hu,hn,Option.bind_some,if_pos hjl,partA,hag]
     exact hv
    simp only [opA,vA,hx,hi,Option.bind_some,this,Option.map_some]
   ·simp at h5
  ·rename_i hu
   simp only [Option.some.injEq] at hq;subst hq
   simp only at h5
   obtain ⟨v,hv,h7⟩:=Option.bind_eq_some_iff.1 h5
   refine ⟨(.val v,st),?_,h7⟩
   have:indexA P t xv iv=some v:=by
    unfold strAt at hv
    split at hv
    ·unfold indexA
     simp only [hj,hu,Option.bind_some]
     exact hv
    ·simp at hv
   simp only [opA,vA,hx,hi,Option.bind_some,this,Option.map_some]
  ·simp at hq
 case lookup t x k ok =>
  obtain ⟨xv,hx,h2⟩:=Option.bind_eq_some_iff.1 h
  obtain ⟨kv',hk,h3⟩:=Option.bind_eq_some_iff.1 h2
  obtain ⟨v,hv,h4⟩:=Option.bind_eq_some_iff.1 h3
  exact ⟨(.val v,st),by simp only [opA,vA,lookupOA,hx,hk,hv,Option.bind_some,Option.map_some],h4⟩
 case mapUpdate t m k x =>
  obtain ⟨mv,hm,h2⟩:=Option.bind_eq_some_iff.1 h
  obtain ⟨kv',hk,h3⟩:=Option.bind_eq_some_iff.1 h2
  obtain ⟨xv,hx,h4⟩:=Option.bind_eq_some_iff.1 h3
  obtain ⟨s,hs,h5⟩:=Option.bind_eq_some_iff.1 h4
  exact ⟨(.skip,s),by simp only [opA,usA,mapUpdateOA,hm,hk,hx,hs,Option.bind_some,Option.map_some],h5⟩
 case insert t m k x =>
  obtain ⟨mv,hm,h2⟩:=Option.bind_eq_some_iff.1 h
  obtain ⟨kv',hk,h3⟩:=Option.bind_eq_some_iff.1 h2
  obtain ⟨xv,hx,h4⟩:=Option.bind_eq_some_iff.1 h3
  obtain ⟨s,hs,h5⟩:=Option.bind_eq_some_iff.1 h4
  exact ⟨(.skip,s),by simp only [opA,usA,mapUpdateOA,hm,hk,hx,hs,Option.bind_some,Option.map_some],h5⟩
 case range t x =>
  obtain ⟨xv,hx,h2⟩:=Option.bind_eq_some_iff.1 h
  obtain ⟨q,hq,h3⟩:=Option.bind_eq_some_iff.1 h2
  exact ⟨(.val q.1,q.2),by simp only [opA,vsA,hx,hq,Option.bind_some,Option.map_some],h3⟩
 case next x isStr =>
  obtain ⟨xv,hx,h2⟩:=Option.bind_eq_some_iff.1 h
  obtain ⟨q,hq,h3⟩:=Option.bind_eq_some_iff.1 h2
  exact ⟨(.val q.1,q.2),by simp only [opA,vsA,hx,hq,Option.bind_some,Option.map_some],h3⟩
 case typeAssert x ty t ok =>
  split at h
  ·rename_i hp
   obtain ⟨xv,hx,h2⟩:=Option.bind_eq_some_iff.1 h
   have hu:∃d,P.underlying t=some d∧∀i,d≠.interface i:=by
    unfold plainT at hp
    split at hp
    ·simp at hp
    ·rename_i q hne hq;exact ⟨q,hq,fun i e=>hne i e⟩
    ·simp at hp
   obtain ⟨d,hd,hdi⟩:=hu
   split at h2
   ·rename_i z hz
    obtain ⟨v,hv,h3⟩:=Option.bind_eq_some_iff.1 h2
    refine ⟨(.val v,st),?_,h3⟩
    have:typeAssertA P xv t ok=some v:=by
     unfold assertV at hv
     unfold typeAssertA
     rw [hd]
     split at hv
     ·simp only [hz,Option.map_some];first | exact hv | (cases d<;>first | exact hv | exact absurd rfl (hdi _))
     ·simp only [hz,Option.map_some];first | exact hv | (cases d<;>first | exact hv | exact absurd rfl (hdi _))
     ·simp at hv
    simp only [opA,vA,hx,Option.bind_some,this,Option.map_some]
   ·rename_i hz
    split at h2
    ·simp at h2
    ·rename_i hok
     obtain ⟨v,hv,h3⟩:=Option.bind_eq_some_iff.1 h2
     refine ⟨(.val v,st),?_,h3⟩
     have:typeAssertA P xv t ok=some v:=by
      unfold assertV at hv
      unfold typeAssertA
      rw [hd]
      split at hv
      ·simp only [hok,Bool.false_eq_true,if_false] at hv ⊢;first | exact hv | (cases d<;>first | exact hv | exact absurd rfl (hdi _))
      ·simp at hv
      ·simp at hv
     simp only [opA,vA,hx,Option.bind_some,this,Option.map_some]
  ·simp at h
 case extract t i =>
  obtain ⟨xv,hx,h2⟩:=Option.bind_eq_some_iff.1 h
  obtain ⟨v,hv,h3⟩:=Option.bind_eq_some_iff.1 h2
  exact ⟨(.val v,st),by simp only [opA,vA,hx,hv,Option.bind_some,Option.map_some],h3⟩
 case call c =>
  obtain ⟨v,s,h1,h2⟩:=callBK_le h
  exact ⟨(.val v,s),h1,h2⟩
 case defer c =>
  split at h
  ·rename_i x hc
   obtain ⟨fv,hfv,h2⟩:=Option.bind_eq_some_iff.1 h
   obtain ⟨q,hq,h3⟩:=Option.bind_eq_some_iff.1 h2
   split at h3
   ·simp at h3
   rename_i hsp
   obtain ⟨args,ha,h4⟩:=Option.bind_eq_some_iff.1 h3
   have:=fnV_some hq
   subst this
   exact ⟨(.defer q.1 (args++q.2),st),by simp only [opA,deferA,hc,hfv,ha,Option.bind_some,Option.map_some,if_neg hsp],h4⟩
  ·simp at h
 case panic x =>
  obtain ⟨v,hv,h2⟩:=Option.bind_eq_some_iff.1 h
  obtain ⟨u,hu,h3⟩:=Option.bind_eq_some_iff.1 h2
  obtain ⟨t,y,rfl,rfl⟩:=panicV_some hu
  exact ⟨(.pan (.iface t y),st),by simp only [opA,hv,Option.bind_some,panicA],h3⟩
end
end Go.Abs
namespace Go.Abs
open Go
section
variable {R:Type} {P:Program} {H:Hints} {callF:CallF0} {again:AgainF0} {f:FuncId} {base:Nat}
variable {ev:Operand→Option AV} {st:St} {kv:AV→St→Option R} {ks:St→Option R} {kd:FuncId→List AV→St→Option R} {kp:AV→St→Option R} {r:R}
theorem callB_some {x:Option (AOut×St)} (h:callB x kv kp=some r):∃q,x=some q∧resK kv ks kd kp ((match q.1 with | .ret v=>(.val v,q.2) | .pan v=>(.pan v,q.2):Res×St))=some r:=by
 obtain ⟨q,hq,h2⟩:=Option.bind_eq_some_iff.1 h
 refine ⟨q,hq,?_⟩
 obtain ⟨o,s⟩:=q
 cases o<;>exact h2
theorem stepK_le {o:Oper} (h:stepK P H callF f base ev st o.dst kv ks kd kp o=some r):∃q,stepV P H callF f base o ev st=some q∧resK kv ks kd kp q=some r:=by
 unfold stepK at h
 unfold stepV
 have other:callOf H ev o.op=none→opK P H f base ev st o.dst kv ks kd kp o.op=some r→∃q,(match callOf H ev o.op with
   |some none=>none
   |some (some (g,args))=>(callF g args st).map fun r=>(match r.1 with | .ret v=>(.val v,r.2) | .pan v=>(.pan v,r.2):Res×St)
   |none=>opA P H f ev st base o.dst o.op)=some q∧resK kv ks kd kp q=some r:=by
  intro hc hk
  rw [hc]
  exact opK_le hk
 generalize hop:o.op=op at *
 cases op with
 |call c =>
  simp only at h
  split at h
  ·rename_i x hc
   split at h
   ·rename_i g
    split at h
    ·rename_i hx
     exact other (by simp [callOf,hc,hx]) h
    ·rename_i hx
     split at h
     ·simp at h
     rename_i hsp
     obtain ⟨args,ha,h2⟩:=Option.bind_eq_some_iff.1 h
     obtain ⟨q,hq,h3⟩:=callB_some (ks:=ks) (kd:=kd) h2
     have:callOf H ev (.call c)=some (some (g,args)):=by simp [callOf,hc,hx,ha,hsp]
     rw [this]
     exact ⟨_,by simp only [hq,Option.map_some];rfl,h3⟩
   ·rename_i hng
    obtain ⟨fv,hfv,h2⟩:=Option.bind_eq_some_iff.1 h
    obtain ⟨q,hq,h3⟩:=Option.bind_eq_some_iff.1 h2
    split at h3
    ·simp at h3
    ·rename_i hx
     obtain ⟨args,ha,h4⟩:=Option.bind_eq_some_iff.1 h3
     obtain ⟨q',hq',h5⟩:=callB_some (ks:=ks) (kd:=kd) h4
     have hf:=fnV_some hq
     subst hf
     have:callOf H ev (.call c)=some (some (q.1,args++q.2)):=by
      unfold callOf
      simp [hc,hfv,hx,ha]
     rw [this]
     exact ⟨_,by simp only [hq',Option.map_some];rfl,h5⟩
  ·rename_i hnv
   refine other ?_ h
   unfold callOf
   cases hc:c.callee with
   |value x=>exact absurd hc (hnv x)
   |builtin b=>simp [hc]
   |invoke r m=>simp [hc]
 |_=>exact other rfl h
theorem reput_same:∀{e:Env} {t:Nat} {v:AV},Env.get e t=some v→reput e t v=e
 |[],t,v,h=>by simp [Env.get] at h
 |(s,u)::r,t,v,h=>by
  simp only [Env.get] at h
  simp only [reput]
  split at h
  ·rename_i hs;rw [if_pos hs];simp only [Option.some.injEq] at h;rw [h]
  ·rename_i hs;rw [if_neg hs,reput_same h]
theorem guardB_some {v:AV} {want:Bool} {yes no:AV→Option R} (h:guardB v want yes no=some r):∃b,(match v with | .bool b=>some (b==want) | .tup []=>some false | _=>none:Option Bool)=some b∧(if b then yes v else no v)=some r:=by
 unfold guardB at h
 split at h
 ·rename_i b
  refine ⟨b==want,rfl,?_⟩
  cases want<;>cases b<;>exact h
 ·exact ⟨false,rfl,h⟩
 ·simp at h
theorem guardK_some {ops:Array Oper} {loc:Env} {fr:Fr} {o:Oper} {yes no:Env→Fr→Option R} (h:guardK ops loc fr o yes no=some r):∃b,wantA ops loc fr.env o=some b∧(if b then yes loc fr else no loc fr)=some r:=by
 unfold guardK at h
 unfold wantA
 split at h
 ·rename_i hg;rw [hg];exact ⟨true,rfl,h⟩
 ·rename_i j want hg
  obtain ⟨d,hd,h2⟩:=Option.bind_eq_some_iff.1 h
  rw [hg]
  simp only [hd,Option.bind_some]
  split at h2
  ·rename_i v hv
   obtain ⟨b,hb,h3⟩:=guardB_some h2
   have hl:look loc fr.env d=some v:=by unfold look;rw [hv]
   rw [hl]
   simp only [Option.bind_some]
   rw [reput_same hv] at h3
   exact ⟨b,hb,h3⟩
  ·rename_i hv
   obtain ⟨v,hv2,h3⟩:=Option.bind_eq_some_iff.1 h2
   obtain ⟨b,hb,h4⟩:=guardB_some h3
   have hl:look loc fr.env d=some v:=by unfold look;rw [hv];exact hv2
   rw [hl]
   simp only [Option.bind_some]
   rw [reput_same hv2] at h4
   exact ⟨b,hb,h4⟩
theorem putK_some {dst:Option Tmp} {v:AV} {loc:Env} {fr:Fr} {k:Env→Fr→Option R} (h:putK H f dst v loc fr k=some r):k (putD H f dst v loc fr.env).1 {fr with env:=(putD H f dst v loc fr.env).2}=some r:=by
 unfold putK at h
 unfold putD
 split at h
 ·exact h
 ·split at h
  ·rename_i hk;simp only [if_pos hk];exact h
  ·rename_i hk;simp only [if_neg hk];exact h
theorem typK_some {t:TypeId} {v:AV} {k:AV→Option R} (h:typK P t v k=some r):k v=some r:=by
 unfold typK at h
 split at h
 ·obtain ⟨b,hb,h2⟩:=Option.bind_eq_some_iff.1 h
  rw [boolV_some hb];exact h2
 ·obtain ⟨n,hn,h2⟩:=Option.bind_eq_some_iff.1 h
  unfold intV at hn
  split at hn
  ·split at hn
   ·rename_i hk;simp only [Option.some.injEq] at hn;rw [hk,hn];exact h2
   ·simp at hn
  ·simp at hn
 ·obtain ⟨s,hs,h2⟩:=Option.bind_eq_some_iff.1 h
  unfold strV at hs
  split at hs
  ·simp only [Option.some.injEq] at hs;rw [hs];exact h2
  ·simp at hs
 ·exact h
theorem landK_some {o:Oper} {v:AV} {loc:Env} {fr:Fr} {k:Env→Fr→St→Option R} (h:landK H f o.dst v st loc fr k=some r):∃l,landA H f o (.val v) loc fr st=some l∧k l.1 l.2.1 l.2.2=some r:=by
 unfold landK at h
 unfold landA
 cases hd:o.dst with
 |none=>rw [hd] at h;exact ⟨(loc,fr,st),rfl,h⟩
 |some d =>
  rw [hd] at h
  simp only at h ⊢
  split at h
  ·rename_i hf
   rw [if_pos hf]
   obtain ⟨q,hq,h2⟩:=Option.bind_eq_some_iff.1 h
   rw [hq]
   exact ⟨_,rfl,putK_some h2⟩
  ·rename_i hf
   rw [if_neg hf]
   exact ⟨_,rfl,putK_some h⟩
theorem opsK_le {ops:Array Oper} {k:AX→Fr→St→Option R}:∀{l:List Oper} {loc:Env} {fr:Fr} {st:St},opsK P H callF f base ops l loc fr st k=some r→∃q,opsA P H callF f base ops l loc fr st=some q∧k q.1 q.2.1 q.2.2=some r
 |[],loc,fr,st,h=>⟨(.normal,fr,st),rfl,h⟩
 |o::rest,loc,fr,st,h=>by
  simp only [opsK] at h
  obtain ⟨b,hb,h2⟩:=guardK_some h
  simp only [opsA,hb,Option.bind_some]
  cases b with
  |false =>
   simp only [Bool.false_eq_true,if_false] at h2 ⊢
   exact opsK_le (putK_some h2)
  |true =>
   simp only [if_true] at h2 ⊢
   obtain ⟨q,hq,h3⟩:=stepK_le h2
   simp only [stepA,hq,Option.bind_some]
   obtain ⟨res,s⟩:=q
   cases res with
   |pan v=>exact ⟨_,rfl,h3⟩
   |val v =>
    obtain ⟨l,hl,h4⟩:=landK_some (typK_some (show typK P o.type v (fun v=>landK H f o.dst v s loc fr (fun loc fr st=>opsK P H callF f base ops rest loc fr st k))=some r from h3))
    simp only [hl,Option.bind_some]
    exact opsK_le h4
   |skip =>
    have h4:=putK_some (show putK H f o.dst undefA loc fr (fun loc fr=>opsK P H callF f base ops rest loc fr s k)=some r from h3)
    simp only [landA,Option.bind_some]
    exact opsK_le h4
   |defer g as =>
    have h4:=putK_some (show putK H f o.dst undefA loc fr (fun loc fr=>opsK P H callF f base ops rest loc {fr with defers:=(g,as)::fr.defers} s k)=some r from h3)
    simp only [landA,Option.bind_some]
    exact opsK_le h4
theorem opsDK_le {ops:Array Oper} {k:AX→Env→Fr→St→List St→Nat→Option R}:∀{l:List Oper} {loc:Env} {fr:Fr} {st:St} {tr:List St} {n:Nat},opsDK P H callF f base ops l loc fr st tr n k=some r →
  ∃q,opsD P H callF f base ops l loc fr st tr n=some q∧k q.1 q.2.1 q.2.2.1 q.2.2.2.1 q.2.2.2.2.1 q.2.2.2.2.2=some r
 |[],loc,fr,st,tr,n,h=>⟨(.normal,loc,fr,st,tr,n),rfl,h⟩
 |o::rest,loc,fr,st,tr,n,h=>by
  simp only [opsDK] at h
  obtain ⟨b,hb,h2⟩:=guardK_some h
  simp only [opsD,hb,Option.bind_some]
  cases b with
  |false =>
   simp only [Bool.false_eq_true,if_false] at h2 ⊢
   exact opsDK_le (putK_some h2)
  |true =>
   simp only [if_true] at h2 ⊢
   obtain ⟨q,hq,h3⟩:=stepK_le h2
   simp only [stepA,hq,Option.bind_some]
   obtain ⟨res,s⟩:=q
   cases res with
   |pan v=>exact ⟨_,rfl,h3⟩
   |val v =>
    obtain ⟨l,hl,h4⟩:=landK_some (typK_some (show typK P o.type v (fun v=>landK H f o.dst v s loc fr (fun loc fr st=>opsDK P H callF f base ops rest loc fr st (if isO H f o then st::tr else tr) (n+1) k))=some r from h3))
    simp only [hl,Option.bind_some]
    exact opsDK_le h4
   |skip =>
    have h4:=putK_some (show putK H f o.dst undefA loc fr (fun loc fr=>opsDK P H callF f base ops rest loc fr s (if isO H f o then s::tr else tr) (n+1) k)=some r from h3)
    simp only [landA,Option.bind_some]
    exact opsDK_le h4
   |defer g as =>
    have h4:=putK_some (show putK H f o.dst undefA loc fr (fun loc fr=>opsDK P H callF f base ops rest loc {fr with defers:=(g,as)::fr.defers} s (if isO H f o then s::tr else tr) (n+1) k)=some r from h3)
    simp only [landA,Option.bind_some]
    exact opsDK_le h4
theorem opsD_of {ops:Array Oper}:∀{l:List Oper} {loc:Env} {fr:Fr} {st:St} {tr:List St} {n:Nat} {q:AX×Fr×St},opsA P H callF f base ops l loc fr st=some q →
  ∃loc' tr' n',opsD P H callF f base ops l loc fr st tr n=some (q.1,loc',q.2.1,q.2.2,tr',n')
 |[],loc,fr,st,tr,n,q,h=>by simp only [opsA,Option.some.injEq] at h;subst h;exact ⟨loc,tr,n,rfl⟩
 |o::rest,loc,fr,st,tr,n,q,h=>by
  simp only [opsA] at h
  obtain ⟨b,hb,h2⟩:=Option.bind_eq_some_iff.1 h
  simp only [opsD,hb,Option.bind_some]
  cases b with
  |false =>
   simp only [Bool.false_eq_true,if_false] at h2 ⊢
   exact opsD_of h2
  |true =>
   simp only [if_true] at h2 ⊢
   obtain ⟨s,hs,h3⟩:=Option.bind_eq_some_iff.1 h2
   simp only [hs,Option.bind_some]
   obtain ⟨res,s⟩:=s
   cases res with
   |pan v=>simp only [Option.some.injEq] at h3;subst h3;exact ⟨_,_,_,rfl⟩
   |val v =>
    obtain ⟨l,hl,h4⟩:=Option.bind_eq_some_iff.1 h3
    simp only [hl,Option.bind_some]
    exact opsD_of h4
   |skip =>
    obtain ⟨l,hl,h4⟩:=Option.bind_eq_some_iff.1 h3
    simp only [hl,Option.bind_some]
    exact opsD_of h4
   |defer g as =>
    obtain ⟨l,hl,h4⟩:=Option.bind_eq_some_iff.1 h3
    simp only [hl,Option.bind_some]
    exact opsD_of h4
theorem againK_le {ops:Array Oper} {loc env:Env} {tr:List St} {k:Nat} {x:Nat×Nat×Nat} (h:againK P H f base ops loc env tr k x=true):again1 P H f base ops loc env tr k x=true:=by
 unfold againK at h
 split at h
 ·rename_i hk;unfold again1;rw [if_pos hk]
 ·rename_i hk
  split at h
  ·simp at h
  ·rename_i o ho
   split at h
   ·rename_i hw;unfold again1;rw [if_neg hk,ho];simp only [hw]
   ·simp at h
   ·rename_i hw
    have key:stillOp (evO H loc env) o.op&&o.dst.isSome→again1 P H f base ops loc env tr k x=true:=fun hs=>by
     simp only [Bool.and_eq_true] at hs
     unfold again1
     rw [if_neg hk,ho]
     simp only [hw]
     rw [if_pos hs.1];exact hs.2
    split at h
    ·exact ((Bool.or_eq_true _ _).mp h).elim key id
    ·exact ((Bool.or_eq_true _ _).mp h).elim key id
    ·exact ((Bool.or_eq_true _ _).mp h).elim key id
    ·exact h
theorem regionK_le {id:Nat} {ops:Array Oper} {draw:Bool} {fr:Fr} {k:AX→Fr→St→Option R} (h:regionK P H callF f base id ops draw fr st k=some r) :
  ∃q,regionA P H callF f base id ops draw fr st=some q∧k q.1 q.2.1 q.2.2=some r:=by
 unfold regionK at h
 unfold regionA
 split at h
 ·rename_i hd
  rw [if_pos hd]
  split at h
  ·rename_i he
   simp only [Bool.and_eq_true,Option.isNone_iff_eq_none] at he
   have hsb:∀loc env tr,swapB P H f base id ops loc env tr=true:=fun loc env tr=>by unfold swapB;rw [he.2]
   obtain ⟨q,hq,h2⟩:=opsK_le h
   obtain ⟨loc',tr',n',h3⟩:=opsD_of (tr:=[st]) (n:=0) hq
   rw [h3]
   simp only [Option.bind_some]
   rw [if_pos (by rw [List.isEmpty_iff.1 he.1];rfl)]
   obtain ⟨ax,fr',st'⟩:=q
   cases ax with
   |panic v =>
    simp only at h2 ⊢
    split at h2
    ·rename_i hp;rw [if_pos hp];exact ⟨_,rfl,h2⟩
    ·simp at h2
   |_=>simp only [hsb,if_true];exact ⟨_,rfl,h2⟩
  ·obtain ⟨q,hq,h2⟩:=opsDK_le h
   rw [hq]
   simp only [Option.bind_some]
   obtain ⟨ax,loc',fr',st',tr',n'⟩:=q
   simp only at h2 ⊢
   split at h2
   ·rename_i ha
    rw [if_pos (List.all_eq_true.2 fun x hx=>againK_le (List.all_eq_true.1 ha x hx))]
    cases ax with
    |panic v =>
     simp only at h2 ⊢
     split at h2
     ·rename_i hp;rw [if_pos hp];exact ⟨_,rfl,h2⟩
     ·simp at h2
    |_ =>
     simp only at h2 ⊢
     split at h2
     ·rename_i hp;rw [if_pos hp];exact ⟨_,rfl,h2⟩
     ·simp at h2
   ·simp at h2
 ·rename_i hd
  rw [if_neg hd]
  exact opsK_le h
theorem headB_some {x:Option (AX×Fr×St)} {k:AX→Fr→St→Option R} (h:headB x k=some r):∃q,x=some q∧k q.1 q.2.1 q.2.2=some r:=Option.bind_eq_some_iff.1 h
theorem execK_le (hA:∀body fr st q,again (.round body) fr st=some q→execA P H callF again f base (.loop body) fr st=some q):∀{c:Code} {fr:Fr} {st:St} {k:AX→Fr→St→Option R},
  execK P H callF again f base c fr st k=some r→∃q,execA P H callF again f base c fr st=some q∧k q.1 q.2.1 q.2.2=some r
 | .skip,fr,st,k,h=>⟨_,rfl,h⟩
 | .label _,fr,st,k,h=>⟨_,rfl,h⟩
 | .region id ops draw,fr,st,k,h=>regionK_le h
 | .seq a b,fr,st,k,h=>by
  simp only [execK] at h
  obtain ⟨q,hq,h2⟩:=execK_le hA h
  simp only [execA,hq,Option.bind_some]
  obtain ⟨ax,fr',st'⟩:=q
  cases ax with
  |normal=>exact execK_le hA h2
  |_=>exact ⟨_,rfl,h2⟩
 | .cond c a b,fr,st,k,h=>by
  simp only [execK] at h
  obtain ⟨v,hv,h2⟩:=Option.bind_eq_some_iff.1 h
  simp only [execA,hv,Option.bind_some]
  have key:∀{x y:AV→Option R},condB v x y=some r→∃t,v = .bool t∧(if t then x v else y v)=some r:=by
   intro x y hxy
   unfold condB at hxy
   split at hxy
   ·rename_i t;cases t<;>exact ⟨_,rfl,hxy⟩
   ·simp at hxy
  split at h2
  ·rename_i t
   obtain ⟨b,rfl,h3⟩:=key h2
   have hg:Env.get fr.env t=some (.bool b):=by simpa [evO,look,Env.get] using hv
   rw [reput_same hg] at h3
   cases b with
   |true=>exact execK_le hA h3
   |false=>exact execK_le hA h3
  ·obtain ⟨b,rfl,h3⟩:=key h2
   cases b with
   |true=>exact execK_le hA h3
   |false=>exact execK_le hA h3
 | .block id body,fr,st,k,h=>by
  simp only [execK] at h
  obtain ⟨q,hq,h2⟩:=execK_le hA h
  simp only [execA,hq,Option.map_some]
  obtain ⟨ax,fr',st'⟩:=q
  cases ax with
  |exit i =>
   simp only at h2 ⊢
   split at h2
   ·rename_i hi;rw [if_pos hi];exact ⟨_,rfl,h2⟩
   ·rename_i hi;rw [if_neg hi];exact ⟨_,rfl,h2⟩
  |_=>exact ⟨_,rfl,h2⟩
 | .loop body,fr,st,k,h=>by
  simp only [execK] at h
  obtain ⟨q,hq,h2⟩:=headB_some h
  exact ⟨q,hA body fr st q hq,h2⟩
 | .scope body,fr,st,k,h=>by
  simp only [execK] at h
  obtain ⟨q,hq,h2⟩:=execK_le hA h
  simp only [execA,hq,Option.bind_some]
  obtain ⟨ax,fr',st'⟩:=q
  cases ax with
  |goto l =>
   simp only at h2 ⊢
   split at h2
   ·rename_i rest hf;rw [hf];exact headB_some h2
   ·rename_i hf;rw [hf];exact ⟨_,rfl,h2⟩
  |_=>exact ⟨_,rfl,h2⟩
 | .exit id,fr,st,k,h=>⟨_,rfl,h⟩
 | .goto l,fr,st,k,h=>⟨_,rfl,h⟩
 | .ret,fr,st,k,h=>⟨_,rfl,h⟩
 | .rangeFunc g ps asg body,fr,st,k,h=>by
  simp only [execK] at h
  obtain ⟨v,hv,h2⟩:=Option.bind_eq_some_iff.1 h
  obtain ⟨q,hq,h3⟩:=Option.bind_eq_some_iff.1 h2
  have:=fnV_some hq
  subst this
  simp only [execA,hv,Option.bind_some]
  split at h3
  ·simp at h3
  rename_i hsp
  rw [if_neg hsp]
  obtain ⟨z,hz,h4⟩:=Option.bind_eq_some_iff.1 h3
  rw [hz]
  obtain ⟨o,st'⟩:=z
  cases o with
  |ret x =>
   obtain ⟨e,he,h5⟩:=Option.bind_eq_some_iff.1 (show (Option.bind (rangeEnd (H.loopKeep f) st.length st') _)=some _ from h4)
   simp only [Option.bind_some,he,Option.map_some]
   refine ⟨_,rfl,?_⟩
   obtain ⟨j,s⟩:=e
   cases j with
   |none=>exact h5
   |some j=>cases j<;>exact h5
  |pan x =>
   obtain ⟨s,hs,h5⟩:=Option.bind_eq_some_iff.1 (show (Option.bind (rangePan (H.loopKeep f) st.length x st') _)=some _ from h4)
   simp only [Option.bind_some,hs,Option.map_some]
   exact ⟨_,rfl,h5⟩
 | .refuse _,fr,st,k,h=>by simp [execK] at h
end
section
variable {P:Program} {H:Hints} {callF:CallF0} {again:FuncId→Nat→AgainF0}
theorem callK_le (hA:∀f base body fr st q,again f base (.round body) fr st=some q→execA P H callF (again f base) f base (.loop body) fr st=some q) {g:FuncId} {args:List AV} {st:St} {r:AOut×St}
  (h:callK P H callF again g args st=some r):callA P H callF again g args st=some r:=by
 unfold callK at h
 unfold callA
 split at h
 ·simp at h
 rename_i hny
 rw [if_neg hny]
 split at h
 ·simp at h
 ·rename_i hp
  rw [hp]
  simp only
  obtain ⟨fn,hfn,h2⟩:=Option.bind_eq_some_iff.1 h
  obtain ⟨c,hc,h3⟩:=Option.bind_eq_some_iff.1 h2
  simp only [hfn,hc,Option.bind_some]
  split at h3
  ·rename_i hl
   rw [if_pos hl]
   obtain ⟨q,hq,h4⟩:=execK_le (hA g st.length) h3
   rw [hq]
   simp only [Option.bind_some]
   obtain ⟨ax,fr',st'⟩:=q
   unfold endK at h4
   have retc:(match fr'.defers with
     |[]=>(resultsA P fr'.env st' fn.results.toList).bind fun vs=>outL (H.keepObj g) st.length (.ret (outV1 vs)) st'
     |[(d,as)]=>if d=collId then (collA as st').bind fun s=>(resultsA P fr'.env s fn.results.toList).bind fun vs=>outL (H.keepObj g) st.length (.ret (outV1 vs)) s
      else (leaveA P (callDA P H callF again) fn fr'.env [(d,as)] .ret st').bind fun o=>outL (H.keepObj g) st.length o.1 o.2
     |ds=>(leaveA P (callDA P H callF again) fn fr'.env ds .ret st').bind fun o=>outL (H.keepObj g) st.length o.1 o.2)=some r →
     ((leaveA P (callDA P H callF again) fn fr'.env fr'.defers .ret st').bind fun o=>outA H g st.length o.1 o.2)=some r:=by
    intro h4
    split at h4
    ·rename_i hd
     obtain ⟨vs,hvs,h5⟩:=Option.bind_eq_some_iff.1 h4
     simp only [hd,leaveA,hvs,Option.map_some,Option.bind_some]
     exact h5
    ·rename_i d xs hd
     split at h4
     ·rename_i hdc
      obtain ⟨s,hs,h5⟩:=Option.bind_eq_some_iff.1 h4
      obtain ⟨vs,hvs,h6⟩:=Option.bind_eq_some_iff.1 h5
      simp only [hd,leaveA,hdc,if_true,hs,hvs,Option.map_some,Option.bind_some]
      exact h6
     ·rw [hd];exact h4
    ·exact h4
   cases ax with
   |normal=>exact retc h4
   |ret=>exact retc h4
   |panic v =>
    simp only at h4 ⊢
    split at h4
    ·rename_i hd
     simp only [hd,leaveA,Option.bind_some]
     exact h4
    ·rename_i d xs hd
     split at h4
     ·rename_i hdc
      obtain ⟨s,hs,h5⟩:=Option.bind_eq_some_iff.1 h4
      simp only [hd,leaveA,hdc,if_true,hs,Option.bind_some]
      exact h5
     ·rw [hd];exact h4
    ·exact h4
   |exit i=>simp at h4
   |goto i=>simp at h4
  ·simp at h3
end
end Go.Abs
namespace Go.Abs
open Go
def Ev {α:Type} (x:Option α) (y:Nat→Option α):Prop:=∀r,x=some r→∃N,∀n,N≤n→y n=some r
theorem Ev.const {α:Type} (x:Option α):Ev x fun _=>x:=fun r h=>⟨0,fun _ _=>h⟩
theorem Ev.bind {α β:Type} {x:Option α} {y:Nat→Option α} {k:α→Option β} {k':Nat→α→Option β} (h:Ev x y) (hk:∀a,Ev (k a) fun n=>k' n a):Ev (x.bind k) fun n=>(y n).bind (k' n):=by
 intro r hr
 obtain ⟨a,ha,h2⟩:=Option.bind_eq_some_iff.1 hr
 obtain ⟨N,hN⟩:=h a ha
 obtain ⟨M,hM⟩:=hk a r h2
 exact ⟨max N M,fun n hn=>by show (y n).bind (k' n)=_;rw [hN n (by omega)];exact hM n (by omega)⟩
theorem Ev.map {α β:Type} {x:Option α} {y:Nat→Option α} (k:α→β) (h:Ev x y):Ev (x.map k) fun n=>(y n).map k:=by
 intro r hr
 obtain ⟨a,ha,rfl⟩:=Option.map_eq_some_iff.1 hr
 obtain ⟨N,hN⟩:=h a ha
 exact ⟨N,fun n hn=>by show (y n).map k=_;rw [hN n hn];rfl⟩
theorem Ev.ite {α:Type} {c:Prop} [Decidable c] {x x':Option α} {y y':Nat→Option α} (h:Ev x y) (h':Ev x' y'):Ev (if c then x else x') fun n=>if c then y n else y' n:=by
 by_cases hc:c
 ·simp only [if_pos hc];exact h
 ·simp only [if_neg hc];exact h'
section
variable {P:Program} {H:Hints} {callF:CallF0} {E:Nat→CallF0}
theorem ev_stepV {f:FuncId} {base:Nat} (hE:∀g a s,Ev (callF g a s) fun n=>E n g a s) (o:Oper) (ev:Operand→Option AV) (st:St):Ev (stepV P H callF f base o ev st) fun n=>stepV P H (E n) f base o ev st:=by
 unfold stepV
 cases callOf H ev o.op with
 |none=>exact .const _
 |some x =>
  cases x with
  |none=>exact .const _
  |some ga=>exact (hE ga.1 ga.2 st).map _
theorem ev_opsA {f:FuncId} {base:Nat} {ops:Array Oper} (hE:∀g a s,Ev (callF g a s) fun n=>E n g a s):∀(l:List Oper) (loc:Env) (fr:Fr) (st:St),Ev (opsA P H callF f base ops l loc fr st) fun n=>opsA P H (E n) f base ops l loc fr st
 |[],loc,fr,st=>.const _
 |o::l,loc,fr,st=>by
  simp only [opsA]
  refine (Ev.const _).bind fun w=>.ite ((ev_stepV hE o _ st).bind fun q=>?_) (ev_opsA hE l _ _ st)
  obtain ⟨res,s⟩:=q
  cases res with
  |pan v=>exact .const _
  |_=>exact (Ev.const _).bind fun l'=>ev_opsA hE l _ _ _
theorem ev_opsD {f:FuncId} {base:Nat} {ops:Array Oper} (hE:∀g a s,Ev (callF g a s) fun n=>E n g a s):∀(l:List Oper) (loc:Env) (fr:Fr) (st:St) (tr:List St) (k:Nat),Ev (opsD P H callF f base ops l loc fr st tr k) fun n=>opsD P H (E n) f base ops l loc fr st tr k
 |[],loc,fr,st,tr,k=>.const _
 |o::l,loc,fr,st,tr,k=>by
  simp only [opsD]
  refine (Ev.const _).bind fun w=>.ite ((ev_stepV hE o _ st).bind fun q=>?_) (ev_opsD hE l _ _ st _ _)
  obtain ⟨res,s⟩:=q
  cases res with
  |pan v=>exact .const _
  |_=>exact (Ev.const _).bind fun l'=>ev_opsD hE l _ _ _ _ _
theorem ev_region {f:FuncId} {base id:Nat} {ops:Array Oper} {draw:Bool} (hE:∀g a s,Ev (callF g a s) fun n=>E n g a s) (fr:Fr) (st:St):Ev (regionA P H callF f base id ops draw fr st) fun n=>regionA P H (E n) f base id ops draw fr st:=by
 unfold regionA
 exact .ite ((ev_opsD hE _ _ _ _ _ _).bind fun _=>.const _) (ev_opsA hE _ _ _ _)
variable {f:FuncId} {base:Nat} {again:AgainF0} {G:Nat→AgainF0}
theorem ev_exec (hE:∀g a s,Ev (callF g a s) fun n=>E n g a s) (hG:∀t fr s,Ev (again t fr s) fun n=>G n t fr s):∀(c:Code) (fr:Fr) (st:St),Ev (execA P H callF again f base c fr st) fun n=>execA P H (E n) (G n) f base c fr st
 | .skip,fr,st=>.const _
 | .label _,fr,st=>.const _
 | .region id ops draw,fr,st=>ev_region hE fr st
 | .seq a b,fr,st=>by
  simp only [execA]
  refine (ev_exec hE hG a fr st).bind fun q=>?_
  obtain ⟨ax,fr',st'⟩:=q
  cases ax with
  |normal=>exact ev_exec hE hG b _ _
  |_=>exact .const _
 | .cond c a b,fr,st=>by
  simp only [execA]
  refine (Ev.const _).bind fun v=>?_
  cases v<;>first | exact .const _ | exact .ite (ev_exec hE hG a fr st) (ev_exec hE hG b fr st)
 | .block id body,fr,st=>by simp only [execA];exact (ev_exec hE hG body fr st).map _
 | .loop body,fr,st=>by
  simp only [execA]
  refine (ev_exec hE hG body fr st).bind fun q=>?_
  obtain ⟨ax,fr',st'⟩:=q
  cases ax with
  |normal=>exact (Ev.const _).bind fun e=>hG _ _ _
  |_=>exact .const _
 | .scope body,fr,st=>by
  simp only [execA]
  refine (ev_exec hE hG body fr st).bind fun q=>?_
  obtain ⟨ax,fr',st'⟩:=q
  cases ax with
  |goto l =>
   simp only
   cases findLabel body l with
   |some rest=>exact hG _ _ _
   |none=>exact .const _
  |_=>exact .const _
 | .exit id,fr,st=>.const _
 | .goto l,fr,st=>.const _
 | .ret,fr,st=>.const _
 | .rangeFunc g ps asg body,fr,st=>by
  simp only [execA]
  refine (Ev.const _).bind fun v=>?_
  cases v with
  |fn h cap =>
   refine .ite (.const _) ((hE _ _ _).bind fun q=>?_)
   obtain ⟨o,s⟩:=q
   cases o<;>exact .const _
  |_=>exact .const _
 | .refuse _,fr,st=>.const _
theorem ev_task (hE:∀g a s,Ev (callF g a s) fun n=>E n g a s) (hG:∀t fr s,Ev (again t fr s) fun n=>G n t fr s) (t:Task) (fr:Fr) (st:St):Ev (taskA P H callF again f base t fr st) fun n=>taskA P H (E n) (G n) f base t fr st:=by
 cases t with
 |code c=>exact ev_exec hE hG c fr st
 |round body=>exact ev_exec hE hG (.loop body) fr st
 |resume body rest =>
  simp only [taskA]
  refine (ev_exec hE hG rest fr st).bind fun q=>?_
  obtain ⟨ax,fr',st'⟩:=q
  cases ax with
  |goto l =>
   simp only
   cases findLabel body l with
   |some rest=>exact hG _ _ _
   |none=>exact .const _
  |_=>exact .const _
theorem ev_noY (hE:∀g a s,Ev (callF g a s) fun n=>E n g a s):∀g a s,Ev (noY callF g a s) fun n=>noY (E n) g a s:=fun g a s=>by
 unfold noY
 exact .ite (.const _) (hE g a s)
theorem ev_opsS {ops:Array Oper} (hE:∀g a s,Ev (callF g a s) fun n=>E n g a s):∀(l:List Oper) (loc:Env) (fr:Fr) (st:St) (m:AMode),Ev (opsS P H callF f base ops l loc fr st m) fun n=>opsS P H (E n) f base ops l loc fr st m
 |[],loc,fr,st,m=>.const _
 |o::l,loc,fr,st,m=>by
  simp only [opsS]
  refine (Ev.const _).bind fun w=>.ite ?_ (ev_opsS hE l _ _ st m)
  split
  ·cases m with
   |pan v=>exact ev_opsS hE l _ _ _ _
   |_=>exact ev_opsS hE l _ _ _ _
  ·refine (ev_stepV (ev_noY hE) o _ st).bind fun q=>?_
   obtain ⟨res,s⟩:=q
   cases res with
   |pan v=>exact .const _
   |_=>exact (Ev.const _).bind fun l'=>ev_opsS hE l _ _ _ _
theorem ev_execS (hE:∀g a s,Ev (callF g a s) fun n=>E n g a s) (hG:∀t fr s,Ev (again t fr s) fun n=>G n t fr s):∀(c:Code) (fr:Fr) (st:St) (m:AMode),Ev (execS P H callF again f base c fr st m) fun n=>execS P H (E n) (G n) f base c fr st m:=by
 intro c
 have plain:∀(c:Code) (fr:Fr) (st:St) (m:AMode),Ev ((execA P H callF again f base c fr st).map fun r=>(r.1,r.2.1,r.2.2,m)) fun n=>(execA P H (E n) (G n) f base c fr st).map fun r=>(r.1,r.2.1,r.2.2,m):=fun c fr st m=>(ev_exec hE hG c fr st).map _
 induction c with
 |region id ops draw =>
  intro fr st m
  simp only [execS]
  exact .ite ((ev_region hE fr st).map _) (ev_opsS hE _ _ _ _ _)
 |seq a b iha ihb =>
  intro fr st m
  simp only [execS]
  refine (iha fr st m).bind fun q=>?_
  obtain ⟨ax,fr',st',m'⟩:=q
  cases ax with
  |normal=>exact ihb _ _ _
  |_=>exact .const _
 |cond c a b iha ihb =>
  intro fr st m
  simp only [execS]
  refine (Ev.const _).bind fun v=>?_
  cases v<;>first | exact .const _ | exact .ite (iha fr st m) (ihb fr st m)
 |_=>intro fr st m;exact plain _ fr st m
end
section
variable {P:Program} {H:Hints} {callF:CallF0} {E:Nat→CallF0} {again:FuncId→Nat→AgainF0} {G:Nat→FuncId→Nat→AgainF0}
theorem ev_callD (hE:∀g a s,Ev (callF g a s) fun n=>E n g a s) (hG:∀f b t fr s,Ev (again f b t fr s) fun n=>G n f b t fr s) (g:FuncId) (args:List AV) (st:St) (m:AMode) :
  Ev (callDA P H callF again g args st m) fun n=>callDA P H (E n) (G n) g args st m:=by
 unfold callDA
 refine (Ev.const _).bind fun fn=>(Ev.const _).bind fun c=>.ite (Ev.bind (.ite (ev_execS hE (hG g st.length) c _ _ m) ((ev_exec hE (hG g st.length) c _ _).map _)) fun q=>.const _) (.const _)
theorem ev_leave {callD:FuncId→List AV→St→AMode→Option (AOut×St×AMode)} {D:Nat→FuncId→List AV→St→AMode→Option (AOut×St×AMode)} (hD:∀g a s m,Ev (callD g a s m) fun n=>D n g a s m) (fn:Func) (env:Env) :
  ∀(ds:List (FuncId×List AV)) (m:AMode) (st:St),Ev (leaveA P callD fn env ds m st) fun n=>leaveA P (D n) fn env ds m st
 |[],m,st=>by cases m<;>exact .const _
 |(g,args)::ds,m,st=>by
  simp only [leaveA]
  refine .ite ((Ev.const _).bind fun s=>ev_leave hD fn env ds _ _) ?_
  refine (hD g args st m).bind fun q=>?_
  obtain ⟨o,s,m'⟩:=q
  cases o with
  |ret v=>exact ev_leave hD fn env ds _ _
  |pan v =>
   cases m' with
   |ret=>exact ev_leave hD fn env ds _ _
   |_=>exact .const _
theorem ev_yield (hE:∀g a s,Ev (callF g a s) fun n=>E n g a s) (hG:∀f b t fr s,Ev (again f b t fr s) fun n=>G n f b t fr s) (args:List AV) (st:St):Ev (yieldA P H callF again args st) fun n=>yieldA P H (E n) (G n) args st:=by
 unfold yieldA
 cases args.reverse with
 |nil=>exact .const _
 |cons a vals =>
  cases a with
  |bp o c =>
   cases c with
   |zero =>
    simp only
    cases St.get st o with
    |none=>exact .const _
    |some x =>
     cases x with
     |loop f base env ps asg body ph =>
      cases ph with
      |none=>exact .const _
      |some j =>
       cases j with
       |some j=>exact .const _
       |none =>
        simp only
        unfold roundB
        refine .ite ((ev_exec hE (hG f base) asg _ _).bind fun q=>?_) (.const _)
        obtain ⟨ax,fr,s⟩:=q
        cases ax with
        |normal=>exact (Ev.const _).bind fun s'=>(ev_exec hE (hG f base) body _ _).bind fun q2=>.const _
        |_=>exact .const _
     |_=>exact .const _
   |succ c=>exact .const _
  |_=>exact .const _
theorem ev_call (hE:∀g a s,Ev (callF g a s) fun n=>E n g a s) (hG:∀f b t fr s,Ev (again f b t fr s) fun n=>G n f b t fr s) (g:FuncId) (args:List AV) (st:St):Ev (callA P H callF again g args st) fun n=>callA P H (E n) (G n) g args st:=by
 unfold callA
 refine .ite (ev_yield hE hG args st) ?_
 cases H.prim g with
 |some F=>exact .const _
 |none =>
  simp only
  refine (Ev.const _).bind fun fn=>(Ev.const _).bind fun c=>.ite ((ev_exec hE (hG g st.length) c _ _).bind fun q=>Ev.bind ?_ fun o=>.const _) (.const _)
  obtain ⟨ax,fr',st'⟩:=q
  cases ax with
  |normal=>exact ev_leave (ev_callD hE hG) fn _ _ _ _
  |ret=>exact ev_leave (ev_callD hE hG) fn _ _ _ _
  |panic v=>exact ev_leave (ev_callD hE hG) fn _ _ _ _
  |_=>exact .const _
end
section
variable (P:Program) (H:Hints)
theorem levels_step:∀n,(∀g a s r,(levels P H n).1 g a s=some r→(levels P H (n+1)).1 g a s=some r)∧∀f b t fr s r,(levels P H n).2 f b t fr s=some r→(levels P H (n+1)).2 f b t fr s=some r
 | 0=>⟨fun g a s r h=>by simp [levels] at h,fun f b t fr s r h=>by simp [levels] at h⟩
 |n+1=>by
  obtain ⟨h1,h2⟩:=levels_step n
  have hE:∀g a s,Ev ((levels P H n).1 g a s) fun _:Nat=>(levels P H (n+1)).1 g a s:=fun g a s r h=>⟨0,fun _ _=>h1 g a s r h⟩
  have hG:∀f b t fr s,Ev ((levels P H n).2 f b t fr s) fun _:Nat=>(levels P H (n+1)).2 f b t fr s:=fun f b t fr s r h=>⟨0,fun _ _=>h2 f b t fr s r h⟩
  exact ⟨fun g a s r h=>(ev_call (E:=fun _=>(levels P H (n+1)).1) (G:=fun _=>(levels P H (n+1)).2) hE hG g a s r h).elim fun N h=>h N (Nat.le_refl N),
   fun f b t fr s r h=>(ev_task (E:=fun _=>(levels P H (n+1)).1) (G:=fun _=>(levels P H (n+1)).2 f b) hE (hG f b) t fr s r h).elim fun N h=>h N (Nat.le_refl N)⟩
theorem levels_mono {n m:Nat} (h:n≤m):(∀g a s r,(levels P H n).1 g a s=some r→(levels P H m).1 g a s=some r)∧∀f b t fr s r,(levels P H n).2 f b t fr s=some r→(levels P H m).2 f b t fr s=some r:=by
 induction m with
 |zero=>rw [show n=0 by omega];exact ⟨fun _ _ _ _ h=>h,fun _ _ _ _ _ _ h=>h⟩
 |succ m ih =>
  by_cases e:n=m+1
  ·subst e;exact ⟨fun _ _ _ _ h=>h,fun _ _ _ _ _ _ h=>h⟩
  ·obtain ⟨h1,h2⟩:=ih (by omega)
   obtain ⟨h3,h4⟩:=levels_step P H m
   exact ⟨fun g a s r h=>h3 g a s r (h1 g a s r h),fun f b t fr s r h=>h4 f b t fr s r (h2 f b t fr s r h)⟩
noncomputable def limW {α:Type} (s:Nat→Option α):Option α:=open Classical in if h:∃n r,s n=some r then some (Classical.choose (Classical.choose_spec h)) else none
theorem limW_some {α:Type} {s:Nat→Option α} {r:α} (h:limW s=some r):∃n,s n=some r:=by
 unfold limW at h
 split at h
 ·rename_i hh
  simp only [Option.some.injEq] at h
  exact ⟨Classical.choose hh,by rw [←h];exact Classical.choose_spec (Classical.choose_spec hh)⟩
 ·simp at h
theorem limW_of {α:Type} {s:Nat→Option α} {r:α} {n:Nat} (hm:∀n m r,n≤m→s n=some r→s m=some r) (h:s n=some r):limW s=some r:=by
 have hh:∃n r,s n=some r:=⟨n,r,h⟩
 unfold limW
 rw [dif_pos hh]
 have h2:=Classical.choose_spec (Classical.choose_spec hh)
 have h3:=hm _ (max n (Classical.choose hh)) _ (by omega) h2
 have h4:=hm _ (max n (Classical.choose hh)) _ (by omega) h
 rw [h4] at h3
 exact h3.symm
noncomputable def callW (g:FuncId) (args:List AV) (st:St):Option (AOut×St):=limW fun n=>callN P H n g args st
noncomputable def runW (f:FuncId) (base:Nat) (t:Task) (fr:Fr) (st:St):Option (AX×Fr×St):=limW fun n=>runN P H n f base t fr st
variable {P H}
theorem callW_ev (g:FuncId) (a:List AV) (s:St):Ev (callW P H g a s) fun n=>(levels P H n).1 g a s:=fun r h=>by
 obtain ⟨N,hN⟩:=limW_some h
 exact ⟨N,fun n hn=>(levels_mono P H hn).1 g a s r hN⟩
theorem runW_ev (f:FuncId) (b:Nat) (t:Task) (fr:Fr) (s:St):Ev (runW P H f b t fr s) fun n=>(levels P H n).2 f b t fr s:=fun r h=>by
 obtain ⟨N,hN⟩:=limW_some h
 exact ⟨N,fun n hn=>(levels_mono P H hn).2 f b t fr s r hN⟩
theorem callW_of_call {g:FuncId} {args:List AV} {st:St} {r:AOut×St} (h:callA P H (callW P H) (runW P H) g args st=some r):callW P H g args st=some r:=by
 obtain ⟨N,hN⟩:=ev_call callW_ev runW_ev g args st r h
 exact limW_of (n:=N+1) (fun n m r hnm h=>(levels_mono P H hnm).1 g args st r h) (hN N (Nat.le_refl N))
theorem runW_of_task {f:FuncId} {b:Nat} {t:Task} {fr:Fr} {st:St} {r:AX×Fr×St} (h:taskA P H (callW P H) (runW P H f b) f b t fr st=some r):runW P H f b t fr st=some r:=by
 obtain ⟨N,hN⟩:=ev_task callW_ev (runW_ev f b) t fr st r h
 exact limW_of (n:=N+1) (fun n m r hnm h=>(levels_mono P H hnm).2 f b t fr st r h) (hN N (Nat.le_refl N))
theorem callW_some {g:FuncId} {args:List AV} {st:St} {r:AOut×St} (h:callW P H g args st=some r):∃n,callN P H n g args st=some r:=limW_some h
theorem runW_exec {f:FuncId} {b:Nat} {body:Code} {fr:Fr} {st:St} {q:AX×Fr×St} (h:runW P H f b (.round body) fr st=some q):execA P H (callW P H) (runW P H f b) f b (.loop body) fr st=some q:=by
 obtain ⟨N,hN⟩:=limW_some h
 have hN2:=(levels_mono P H (Nat.le_succ N)).2 f b (.round body) fr st q hN
 have hE:∀g a s,Ev ((levels P H N).1 g a s) fun _:Nat=>callW P H g a s:=fun g a s r h=>⟨0,fun _ _=>limW_of (n:=N) (fun n m r hnm h=>(levels_mono P H hnm).1 g a s r h) h⟩
 have hG:∀t fr s,Ev ((levels P H N).2 f b t fr s) fun _:Nat=>runW P H f b t fr s:=fun t fr s r h=>⟨0,fun _ _=>limW_of (n:=N) (fun n m r hnm h=>(levels_mono P H hnm).2 f b t fr s r h) h⟩
 obtain ⟨M,hM⟩:=ev_exec (E:=fun _=>callW P H) (G:=fun _=>runW P H f b) hE hG (.loop body) fr st q hN2
 exact hM M (Nat.le_refl M)
theorem callW_of {g:FuncId} {args:List AV} {st:St} {r:AOut×St} (h:callK P H (callW P H) (runW P H) g args st=some r):callW P H g args st=some r :=
 callW_of_call (callK_le (fun f base body fr st q h=>runW_exec h) h)
theorem roundV_eq {f:FuncId} {body:Code} {n:Nat} {fr:Fr} {st:St} {e:Fr×St} (hk:H.loopKeep f=false) (h:roundV n (liveF H f body fr) st=some e):roundEndL H f body n fr st=some e:=by
 have hd:(liveF H f body fr).defers=fr.defers:=by unfold liveF;split<;>rfl
 unfold roundV at h
 unfold roundEndL roundEnd
 rw [hk]
 simp only [Bool.false_or]
 split at h
 ·rename_i hl
  rw [if_pos hl]
  exact h
 ·rename_i hl
  rw [if_neg hl]
  rw [hd] at h
  split at h
  ·rename_i hc
   rw [if_pos hc]
   simp only [Option.some.injEq] at h
   subst h
   simp only [Option.map_some,Option.some.injEq,Prod.mk.injEq,and_true]
   unfold liveF
   split
   ·rfl
   ·simp only [List.filter_filter]
    congr 1
    apply List.filter_congr
    intro p _
    exact Bool.and_comm _ _
  ·simp at h
theorem roundW_of {R:Type} {f:FuncId} {b:Nat} {body:Code} {fr:Fr} {st:St} {k:AX→Fr→St→Option R} {r:R}
  (h:execK P H (callW P H) (runW P H f b) f b body fr st (loopK H (runW P H f b) f body st.length k)=some r):headB (runW P H f b (.round body) fr st) k=some r:=by
 obtain ⟨q,hq,h2⟩:=execK_le (fun body fr st q h=>runW_exec h) h
 obtain ⟨ax,fr',st'⟩:=q
 have key:∀{x:AX×Fr×St},(match (generalizing:=false) ax with | .normal=>(roundEndL H f body st.length fr' st').bind fun e=>runW P H f b (.round body) e.1 e.2 | _=>some (ax,fr',st'))=some x→runW P H f b (.round body) fr st=some x:=by
  intro x hx
  refine runW_of_task ?_
  simp only [taskA,execA,hq,Option.bind_some]
  exact hx
 unfold loopK at h2
 cases ax with
 |normal =>
  simp only at h2 key
  split at h2
  ·rename_i hk
   obtain ⟨x,hx,h3⟩:=headB_some h2
   have:roundEndL H f body st.length fr' st'=some (liveF H f body fr',st'):=by
    unfold roundEndL roundEnd
    rw [hk];rfl
   rw [this] at key
   simp only [Option.bind_some] at key
   rw [key hx];exact h3
  ·rename_i hk
   obtain ⟨e,he,h3⟩:=Option.bind_eq_some_iff.1 h2
   obtain ⟨x,hx,h4⟩:=headB_some h3
   rw [roundV_eq (by simpa using hk) he] at key
   simp only [Option.bind_some] at key
   rw [key hx];exact h4
 |exit i=>rw [key rfl];exact h2
 |goto i=>rw [key rfl];exact h2
 |ret=>rw [key rfl];exact h2
 |panic v=>rw [key rfl];exact h2
end
end Go.Abs
namespace Go.Abs
open Go
inductive Dir where
 |sl | sr | ca | cb | bk | sc
 |lp (n:Nat)
def codeAt:Code→List Dir→Option Code
 |c,[]=>some c
 | .seq a _,.sl::p=>codeAt a p
 | .seq _ b,.sr::p=>codeAt b p
 | .cond _ a _,.ca::p=>codeAt a p
 | .cond _ _ b,.cb::p=>codeAt b p
 | .block _ b,.bk::p=>codeAt b p
 | .loop b,.lp _::p=>codeAt b p
 | .scope b,.sc::p=>codeAt b p
 |_,_=>none
section
variable {R:Type} (P:Program) (H:Hints) (callF:CallF0) (again:AgainF0) (f:FuncId) (base:Nat)
def seqK (b:Code) (k:AX→Fr→St→Option R):AX→Fr→St→Option R:=fun ax fr st=>match ax with | .normal=>execK P H callF again f base b (liveF H f b fr) st k | ax=>k ax fr st
def blockK (id:Nat) (k:AX→Fr→St→Option R):AX→Fr→St→Option R:=fun ax fr st=>match ax with | .exit i=>if i=id then k .normal fr st else k (.exit i) fr st | ax=>k ax fr st
def kontAt:Code→List Dir→(AX→Fr→St→Option R)→AX→Fr→St→Option R
 | .seq a b,.sl::p,k=>kontAt a p (seqK P H callF again f base b k)
 | .seq _ b,.sr::p,k=>kontAt b p k
 | .cond _ a _,.ca::p,k=>kontAt a p k
 | .cond _ _ b,.cb::p,k=>kontAt b p k
 | .block id b,.bk::p,k=>kontAt b p (blockK id k)
 | .loop b,.lp n::p,k=>kontAt b p (loopK H again f b n k)
 | .scope b,.sc::p,k=>kontAt b p (scopeK again b k)
 |_,_,k=>k
end
section
variable (P:Program) (H:Hints)
noncomputable def atW (g:FuncId) (base:Nat) (p:List Dir) (fr:Fr) (st:St):Option (AOut×St) :=
 (P.funcs[g]?).bind fun fn=>fn.body.bind fun c=>(codeAt c p).bind fun d =>
 execK P H (callW P H) (runW P H g base) g base d fr st (kontAt P H (callW P H) (runW P H g base) g base c p (endK P H (callW P H) (runW P H) g fn base))
noncomputable def atL (g:FuncId) (base:Nat) (p:List Dir) (fr:Fr) (st:St):Option (AOut×St) :=
 (P.funcs[g]?).bind fun fn=>fn.body.bind fun c=>(codeAt c p).bind fun d=>match d with
 | .loop body=>execK P H (callW P H) (runW P H g base) g base body fr st (loopK H (runW P H g base) g body st.length (kontAt P H (callW P H) (runW P H g base) g base c p (endK P H (callW P H) (runW P H) g fn base)))
 |_=>none
variable {P H}
theorem atW_of {g:FuncId} {base:Nat} {p:List Dir} {fr:Fr} {st:St} {r:AOut×St} (h:atL P H g base p fr st=some r):atW P H g base p fr st=some r:=by
 unfold atL at h
 unfold atW
 obtain ⟨fn,hfn,h2⟩:=Option.bind_eq_some_iff.1 h
 obtain ⟨c,hc,h3⟩:=Option.bind_eq_some_iff.1 h2
 obtain ⟨d,hd,h4⟩:=Option.bind_eq_some_iff.1 h3
 simp only [hfn,hc,hd,Option.bind_some]
 split at h4
 ·exact roundW_of h4
 ·simp at h4
end
end Go.Abs
namespace Go.Abs
open Go
section run
variable {R:Type} (P:Program) (H:Hints) (callF:CallF0) (again:AgainF0) (f:FuncId) (base:Nat)
end run
section call
variable (P:Program) (H:Hints) (callF:CallF0) (again:FuncId→Nat→AgainF0)
end call
section
variable {R:Type} {P:Program} {H:Hints} {callF:CallF0} {again:AgainF0} {f:FuncId} {base:Nat} {r:R}
end
section
variable {P:Program} {H:Hints} {callF:CallF0} {again:FuncId→Nat→AgainF0}
end
end Go.Abs
namespace Go.Abs
open Go
noncomputable section
def getF (e:Env) (t:Nat):Option AV:=List.rec (motive:=fun _=>Option AV) none (fun p _ ih=>cond (Nat.beq p.1 t) (some p.2) ih) e
theorem getF_eq (e:Env) (t:Nat):getF e t=Env.get e t:=by
 induction e with
 |nil=>rfl
 |cons p r ih =>
  obtain ⟨s,v⟩:=p
  show cond (Nat.beq s t) (some v) (getF r t)=if s=t then some v else Env.get r t
  rw [ih]
  by_cases h:s=t
  ·rw [if_pos h,(Nat.beq_eq ..).mpr h];rfl
  ·rw [if_neg h]
   cases hb:Nat.beq s t with
   |true=>exact absurd (Nat.eq_of_beq_eq_true hb) h
   |false=>rfl
def setF (e:Env) (t:Nat) (v:AV):Env:=List.rec (motive:=fun _=>Env) [(t,v)] (fun p r ih=>cond (Nat.beq p.1 t) ((t,v)::r) (cond (Nat.ble (t+1) p.1) ((t,v)::p::r) (p::ih))) e
theorem setF_eq (e:Env) (t:Nat) (v:AV):setF e t v=Env.set e t v:=by
 induction e with
 |nil=>rfl
 |cons p r ih =>
  obtain ⟨s,u⟩:=p
  show cond (Nat.beq s t) ((t,v)::r) (cond (Nat.ble (t+1) s) ((t,v)::(s,u)::r) ((s,u)::setF r t v))=if s=t then (t,v)::r else if t<s then (t,v)::(s,u)::r else (s,u)::Env.set r t v
  rw [ih]
  by_cases h:s=t
  ·rw [if_pos h,(Nat.beq_eq ..).mpr h];rfl
  ·rw [if_neg h]
   have hb:Nat.beq s t=false:=by
    cases hb:Nat.beq s t with
    |true=>exact absurd (Nat.eq_of_beq_eq_true hb) h
    |false=>rfl
   rw [hb]
   by_cases h2:t<s
   ·rw [if_pos h2,Nat.ble_eq.mpr h2];rfl
   ·rw [if_neg h2]
    have hc:Nat.ble (t+1) s=false:=by
     cases hc:Nat.ble (t+1) s with
     |true=>exact absurd (Nat.le_of_ble_eq_true hc) h2
     |false=>rfl
    rw [hc];rfl
def orF (a b:Option AV):Option AV:=Option.rec (motive:=fun _=>Option AV) b (fun v=>some v) a
def evF (H:Hints) (loc env:Env) (x:Operand):Option AV :=
 Operand.rec (motive:=fun _=>Option AV) (fun t=>orF (getF loc t) (getF env t)) (fun v=>ofVal 6 v) (fun g=>(H.glob g).map fun row=>.ip row 0) (fun f=>if spId f then none else some (.fn f [])) x
theorem evF_eq (H:Hints) (loc env:Env):evF H loc env=evO H loc env:=by
 funext x
 cases x with
 |tmp t =>
  show orF (getF loc t) (getF env t)=look loc env t
  rw [getF_eq,getF_eq]
  unfold look
  cases Env.get loc t<;>rfl
 |const v=>rfl
 |global g=>rfl
 |func f=>rfl
section
variable {R:Type}
abbrev FK (R:Type):=Program→Hints→FuncId→Nat→(Operand→Option AV)→St→Option Tmp→(AV→St→Option R)→(St→Option R)→(FuncId→List AV→St→Option R)→(AV→St→Option R)→Option R
def oRest (op:Op):FK R:=fun P H f base ev st dst kv ks kd kp=>opK P H f base ev st dst kv ks kd kp op
def oMove (x:Operand):FK R:=fun P H f base ev st dst kv ks kd kp=>(ev x).bind fun v=>kv v st
def oLoad (t:TypeId) (a:Operand):FK R:=fun P H f base ev st dst kv ks kd kp=>(ev a).bind fun p=>(aggT P t).bind fun ag=>(szOf P t).bind fun n=>(readA st p n ag).bind fun v=>kv v st
def oStore (t:TypeId) (a x:Operand):FK R:=fun P H f base ev st dst kv ks kd kp=>(ev a).bind fun p=>(ev x).bind fun v=>(szOf P t).bind fun n=>withCells n v fun cs=>(writeA st p cs).bind ks
def oNil (x:Operand):FK R:=fun P H f base ev st dst kv ks kd kp=>(ev x).bind fun v=>(nilCheckA v).bind fun v=>kv v st
def oBin (o:BinOp) (t:TypeId) (x y:Operand):FK R:=fun P H f base ev st dst kv ks kd kp=>(ev x).bind fun a=>(ev y).bind fun b=>(binA P o t (isConst x||isConst y) a b).bind fun v=>kv v st
def oUn (o:UnOp) (x:Operand):FK R:=fun P H f base ev st dst kv ks kd kp=>(ev x).bind fun a=>(unA o a).bind fun v=>kv v st
def oAlloc (t:TypeId):FK R:=fun P H f base ev st dst kv ks kd kp=>(zeroA P t).bind fun z=>if z.isTup then none else kv (.bp st.length 0) (homesA (compOf H f dst) (.box t z.cells::st))
def oBox (t:TypeId) (x:Operand):FK R:=fun P H f base ev st dst kv ks kd kp=>(ev x).bind fun v=>(szOf P t).bind fun n=>withCells n v fun cs=>kv (.bp st.length 0) (homesA (compOf H f dst) (.box t cs::st))
def oFieldAddr (t:TypeId) (x:Operand) (i:Nat):FK R:=fun P H f base ev st dst kv ks kd kp=>(ev x).bind fun x=>(fieldOff P t i).bind fun off=>(ptrAdd off x).bind fun v=>kv v st
def oField (t:TypeId) (x:Operand) (i:Nat):FK R:=fun P H f base ev st dst kv ks kd kp=>(ev x).bind fun x=>(fieldPart P t i).bind fun q=>(aggV x).bind fun cs=>(readRow cs q.2.2 q.2.1 q.1).bind fun v=>kv v st
def oExtract (t:Operand) (i:Nat):FK R:=fun P H f base ev st dst kv ks kd kp=>(ev t).bind fun v=>(extractA i v).bind fun v=>kv v st
def opF (op:Op):FK R:=match op with
 | .move x=>oMove x
 | .assign x=>oMove x
 | .load t a=>oLoad t a
 | .store t a x=>oStore t a x
 | .nilCheck x=>oNil x
 | .binOp o t x y _=>oBin o t x y
 | .unOp o _ x=>oUn o x
 | .alloc t=>oAlloc t
 | .box t x=>oBox t x
 | .fieldAddr t x i=>oFieldAddr t x i
 | .field t x i=>oField t x i
 | .extract t i=>oExtract t i
 |op=>oRest op
abbrev SK (R:Type):=Program→Hints→CallF0→FuncId→Nat→(Operand→Option AV)→St→Option Tmp→(AV→St→Option R)→(St→Option R)→(FuncId→List AV→St→Option R)→(AV→St→Option R)→Option R
def sFunc (g:FuncId) (c:Call):SK R:=fun P H callF f base ev st dst kv ks kd kp=>if (H.ext g).isSome then callBK P H f base ev st dst kv c else if spId g then none else (evs ev c.args.toList).bind fun args=>callB (callF g args st) kv kp
def sDyn (x:Operand) (c:Call):SK R:=fun P H callF f base ev st dst kv ks kd kp=>(ev x).bind fun fv=>(fnV fv).bind fun q=>if (H.ext q.1).isSome then none else (evs ev c.args.toList).bind fun args=>callB (callF q.1 (args++q.2) st) kv kp
def sBuilt (c:Call):SK R:=fun P H callF f base ev st dst kv ks kd kp=>callBK P H f base ev st dst kv c
def sCallee (x:Operand) (c:Call):SK R:=match x with
 | .func g=>sFunc g c
 |x=>sDyn x c
def sCall (c:Call):SK R:=match c.callee with
 | .value x=>sCallee x c
 |_=>sBuilt c
def sOp (op:Op):SK R:=fun P H callF f base ev st dst kv ks kd kp=>opF op P H f base ev st dst kv ks kd kp
def stepF (op:Op):SK R:=match op with
 | .call c=>sCall c
 |op=>sOp op
theorem stepF_eq (o:Oper) (P:Program) (H:Hints) (callF:CallF0) (f:FuncId) (base:Nat) (ev:Operand→Option AV) (st:St) (dst:Option Tmp) (kv:AV→St→Option R) (ks:St→Option R) (kd:FuncId→List AV→St→Option R) (kp:AV→St→Option R) :
  stepF o.op P H callF f base ev st dst kv ks kd kp=stepK P H callF f base ev st dst kv ks kd kp o:=by
 obtain ⟨d,op,t,p,a,g⟩:=o
 cases op with
 |call c =>
  obtain ⟨ce,ar,at'⟩:=c
  cases ce with
  |value x=>cases x<;>rfl
  |_=>rfl
 |_=>rfl
def putF (H:Hints) (f:FuncId) (dst:Option Tmp) (v:AV) (loc:Env) (fr:Fr) (k:Env→Fr→Option R):Option R :=
 match dst with
 |none=>k loc fr
 |some d=>cond ((H.keep f).contains d) (k loc ⟨setF fr.env d v,fr.defers⟩) (k ((d,v)::loc) fr)
theorem putF_eq (H:Hints) (f:FuncId) (dst:Option Tmp) (v:AV) (loc:Env) (fr:Fr) (k:Env→Fr→Option R):putF H f dst v loc fr k=putK H f dst v loc fr k:=by
 cases dst with
 |none=>rfl
 |some d =>
  show cond _ _ _=if (H.keep f).contains d then _ else _
  rw [setF_eq]
  cases (H.keep f).contains d<;>rfl
def landF (H:Hints) (f:FuncId) (dst:Option Tmp) (v:AV) (st:St) (loc:Env) (fr:Fr) (k:Env→Fr→St→Option R):Option R :=
 match dst with
 |none=>k loc fr st
 |some d=>cond (H.frz f d) (bind2 (freezeA st v) fun v st=>putF H f (some d) v loc fr fun loc fr=>k loc fr st) (cond ((H.keep f).contains d) (k loc ⟨setF fr.env d v,fr.defers⟩ st) (k ((d,v)::loc) fr st))
theorem landF_eq (H:Hints) (f:FuncId) (dst:Option Tmp) (v:AV) (st:St) (loc:Env) (fr:Fr) (k:Env→Fr→St→Option R):landF H f dst v st loc fr k=landK H f dst v st loc fr k:=by
 cases dst with
 |none=>rfl
 |some d =>
  show cond (H.frz f d) (bind2 (freezeA st v) fun v st=>putF H f (some d) v loc fr fun loc fr=>k loc fr st) (putF H f (some d) v loc fr fun loc fr=>k loc fr st)=if H.frz f d then _ else _
  simp only [putF_eq]
  cases H.frz f d<;>rfl
abbrev OpsTy (R:Type):=Program→Hints→CallF0→FuncId→Nat→Array Oper→Env→Fr→St→(AX→Fr→St→Option R)→Option R
def nilF:OpsTy R:=fun P H callF f base ops loc fr st k=>k .normal fr st
def doF (o:Oper) (ih:OpsTy R):OpsTy R:=fun P H callF f base ops loc fr st k =>
 stepF o.op P H callF f base (evF H loc fr.env) st o.dst
  (fun v st=>typK P o.type v fun v=>landF H f o.dst v st loc fr fun loc fr st=>ih P H callF f base ops loc fr st k)
  (fun st=>putF H f o.dst undefA loc fr fun loc fr=>ih P H callF f base ops loc fr st k)
  (fun g xa0 st=>putF H f o.dst undefA loc fr fun loc fr=>ih P H callF f base ops loc {fr with defers:=(g,xa0)::fr.defers} st k)
  (fun v st=>k (.panic v) fr st)
def notF (o:Oper) (ih:OpsTy R):OpsTy R:=fun P H callF f base ops loc fr st k=>putF H f o.dst undefA loc fr fun loc fr=>ih P H callF f base ops loc fr st k
def askF (o:Oper) (ih:OpsTy R):OpsTy R:=fun P H callF f base ops loc fr st k =>
 guardK ops loc fr o (fun loc fr=>doF o ih P H callF f base ops loc fr st k) (fun loc fr=>notF o ih P H callF f base ops loc fr st k)
def oneF (o:Oper) (ih:OpsTy R):OpsTy R:=Option.rec (motive:=fun _=>OpsTy R) (doF o ih) (fun _=>askF o ih) o.guard
def opsF (l:List Oper):OpsTy R:=List.rec (motive:=fun _=>OpsTy R) nilF (fun o _ ih=>oneF o ih) l
theorem opsF_eq (P:Program) (H:Hints) (callF:CallF0) (f:FuncId) (base:Nat) (ops:Array Oper):∀(l:List Oper) (loc:Env) (fr:Fr) (st:St) (k:AX→Fr→St→Option R),opsF l P H callF f base ops loc fr st k=opsK P H callF f base ops l loc fr st k:=by
 intro l
 induction l with
 |nil=>intros;rfl
 |cons o l ih =>
  intro loc fr st k
  have h1:∀loc fr,doF o (opsF l) P H callF f base ops loc fr st k=stepK P H callF f base (evO H loc fr.env) st o.dst
    (fun v st=>typK P o.type v fun v=>landK H f o.dst v st loc fr fun loc fr st=>opsK P H callF f base ops l loc fr st k)
    (fun st=>putK H f o.dst undefA loc fr fun loc fr=>opsK P H callF f base ops l loc fr st k)
    (fun g xa0 st=>putK H f o.dst undefA loc fr fun loc fr=>opsK P H callF f base ops l loc {fr with defers:=(g,xa0)::fr.defers} st k)
    (fun v st=>k (.panic v) fr st) o:=by
   intro loc fr
   unfold doF
   rw [evF_eq,stepF_eq]
   simp only [landF_eq,putF_eq,ih]
  have h2:∀loc fr,notF o (opsF l) P H callF f base ops loc fr st k=putK H f o.dst undefA loc fr fun loc fr=>opsK P H callF f base ops l loc fr st k:=by
   intro loc fr
   unfold notF
   simp only [putF_eq,ih]
  have h3:oneF o (opsF l) P H callF f base ops loc fr st k=askF o (opsF l) P H callF f base ops loc fr st k:=by
   unfold oneF askF guardK
   cases o.guard<;>rfl
  show oneF o (opsF l) P H callF f base ops loc fr st k=_
  rw [h3]
  unfold askF
  simp only [h1,h2]
  rfl
abbrev ExTy (R:Type):=Program→Hints→CallF0→AgainF0→FuncId→Nat→Fr→St→(AX→Fr→St→Option R)→Option R
def kPan (H:Hints) (f:FuncId) (id:Nat) (ops:Array Oper) (env:Env) (k:AX→Fr→St→Option R):AX→Fr→St→Option R:=fun ax fr' st'=>match ax with
 | .panic v=>if H.pok f id then k (.panic v) {fr' with env:=offEnv ops env} st' else none
 |ax=>k ax fr' st'
def regF (id:Nat) (ops:Array Oper) (draw:Bool):ExTy R:=fun P H callF again f base fr st k =>
 cond draw (cond ((H.recheck f id).isEmpty&&(H.swp f id).isNone) (opsF ops.toList P H callF f base ops [] fr st (kPan H f id ops fr.env k)) (regionK P H callF f base id ops draw fr st k)) (opsF ops.toList P H callF f base ops [] fr st k)
def kSeq (b:Code) (ihb:ExTy R) (P:Program) (H:Hints) (callF:CallF0) (again:AgainF0) (f:FuncId) (base:Nat) (k:AX→Fr→St→Option R):AX→Fr→St→Option R:=fun ax fr st=>match ax with
 | .normal=>ihb P H callF again f base (liveF H f b fr) st k
 |ax=>k ax fr st
def seqF (b:Code) (iha ihb:ExTy R):ExTy R:=fun P H callF again f base fr st k=>iha P H callF again f base fr st (kSeq b ihb P H callF again f base k)
def condF (c:Operand) (iha ihb:ExTy R):ExTy R:=fun P H callF again f base fr st k=>(evF H [] fr.env c).bind fun v=>match c with
  | .tmp t=>condB v (fun v=>iha P H callF again f base {fr with env:=reput fr.env t v} st k) (fun v=>ihb P H callF again f base {fr with env:=reput fr.env t v} st k)
  |_=>condB v (fun _=>iha P H callF again f base fr st k) (fun _=>ihb P H callF again f base fr st k)
def kBlock (id:Nat) (k:AX→Fr→St→Option R):AX→Fr→St→Option R:=fun ax fr st=>match ax with | .exit i=>if i=id then k .normal fr st else k (.exit i) fr st | ax=>k ax fr st
def blockF (id:Nat) (ih:ExTy R):ExTy R:=fun P H callF again f base fr st k=>ih P H callF again f base fr st (kBlock id k)
def loopF (body:Code):ExTy R:=fun P H callF again f base fr st k=>headB (again (.round body) fr st) k
def scopeF (body:Code) (ih:ExTy R):ExTy R:=fun P H callF again f base fr st k=>ih P H callF again f base fr st (scopeK again body k)
def goF (ax:AX):ExTy R:=fun P H callF again f base fr st k=>k ax fr st
def rangeF (g:Operand) (ps:Array Tmp) (asg body:Code):ExTy R:=fun P H callF again f base fr st k=>execK P H callF again f base (.rangeFunc g ps asg body) fr st k
def noneF:ExTy R:=fun P H callF again f base fr st k=>none
def execF (c:Code):ExTy R:=Code.rec (motive:=fun _=>ExTy R) (goF .normal) (fun id ops draw=>regF id ops draw) (fun _ b iha ihb=>seqF b iha ihb) (fun c _ _ iha ihb=>condF c iha ihb)
 (fun id _ ih=>blockF id ih) (fun body _=>loopF body) (fun g ps asg body _ _=>rangeF g ps asg body) (fun id=>goF (.exit id)) (fun body ih=>scopeF body ih) (fun _=>goF .normal) (fun l=>goF (.goto l)) (goF .ret) (fun _=>noneF) c
theorem execF_eq (P:Program) (H:Hints) (callF:CallF0) (again:AgainF0) (f:FuncId) (base:Nat):∀(c:Code) (fr:Fr) (st:St) (k:AX→Fr→St→Option R),execF c P H callF again f base fr st k=execK P H callF again f base c fr st k:=by
 intro c
 induction c with
 |skip=>intros;rfl
 |region id ops draw =>
  intro fr st k
  show regF id ops draw P H callF again f base fr st k=regionK P H callF f base id ops draw fr st k
  unfold regF
  cases draw with
  |false=>rw [cond_false,opsF_eq];rfl
  |true =>
   rw [cond_true]
   cases hr:(H.recheck f id).isEmpty&&(H.swp f id).isNone with
   |false=>rfl
   |true =>
    rw [cond_true,opsF_eq]
    unfold regionK
    rw [if_pos rfl,if_pos hr]
    rfl
 |seq a b iha ihb =>
  intro fr st k
  show execF a P H callF again f base fr st (kSeq b (execF b) P H callF again f base k)=_
  rw [iha]
  conv=>rhs;unfold execK
  congr 1
  funext ax fr st
  cases ax<;>first | exact ihb .. | rfl
 |cond c a b iha ihb =>
  intro fr st k
  show condF c (execF a) (execF b) P H callF again f base fr st k=_
  unfold condF
  rw [evF_eq]
  conv=>rhs;unfold execK
  congr 1
  funext v
  cases c<;>simp only [iha,ihb]
 |block id body ih =>
  intro fr st k
  show execF body P H callF again f base fr st (kBlock id k)=_
  rw [ih]
  rfl
 |loop body ih=>intros;rfl
 |scope body ih =>
  intro fr st k
  show execF body P H callF again f base fr st (scopeK again body k)=_
  rw [ih]
  rfl
 |rangeFunc=>intros;rfl
 |exit=>intros;rfl
 |label=>intros;rfl
 |goto=>intros;rfl
 |ret=>intros;rfl
 |refuse=>intros;rfl
def endF (g:FuncId) (fn:Func) (base:Nat) (P:Program) (H:Hints) (callF:CallF0) (again:FuncId→Nat→AgainF0):AX→Fr→St→Option (AOut×St):=endK P H callF again g fn base
def inF (g:FuncId) (args:List AV) (st:St) (P:Program) (H:Hints) (callF:CallF0) (again:FuncId→Nat→AgainF0) (fn:Func):Option (AOut×St) :=
 fn.body.bind fun c=>cond (Nat.ble args.length (fn.params.size+fn.nfree)) (execF c P H callF (again g st.length) g st.length ⟨entry args,[]⟩ (homesA (H.homes g) st) (endF g fn st.length P H callF again)) none
def roundF (P:Program) (H:Hints) (callF:CallF0) (again:FuncId→Nat→AgainF0) (o:Nat) (f:FuncId) (base:Nat) (env:Env) (ps:List Nat) (asg body:Code) (vals:List AV) (st:St):Option (AOut×St) :=
 if vals.length=ps.length∧loopOk P H f env ps asg body=true then
  execF asg P H callF (again f base) f base ⟨putPs env ps vals,[]⟩ st fun ax fr st1=>match ax with
   | .normal=>(busyA o st1).bind fun s=>execF body P H callF (again f base) f base (liveF H f body fr) s (rendK H f st.length o)
   |_=>none
 else none
theorem roundF_eq (P:Program) (H:Hints) (callF:CallF0) (again:FuncId→Nat→AgainF0) (o:Nat) (f:FuncId) (base:Nat) (env:Env) (ps:List Nat) (asg body:Code) (vals:List AV) (st:St) :
  roundF P H callF again o f base env ps asg body vals st=roundK P H callF again o f base env ps asg body vals st:=by
 unfold roundF roundK
 simp only [execF_eq]
 try rfl
def yieldF (P:Program) (H:Hints) (callF:CallF0) (again:FuncId→Nat→AgainF0) (args:List AV) (st:St):Option (AOut×St) :=
 match args.reverse with
 | .bp o 0::vals =>
  match st.get o with
  |some (.loop f base env ps asg body (some none))=>roundF P H callF again o f base env ps asg body vals.reverse st
  |_=>none
 |_=>none
def callF6 (P:Program) (H:Hints) (callF:CallF0) (again:FuncId→Nat→AgainF0) (g:FuncId) (args:List AV) (st:St):Option (AOut×St) :=
 Option.rec (motive:=fun _=>Option (AOut×St)) ((P.funcs[g]?).bind fun fn=>inF g args st P H callF again fn) (fun _=>none) (H.prim g)
def callY6 (P:Program) (H:Hints) (callF:CallF0) (again:FuncId→Nat→AgainF0) (g:FuncId) (args:List AV) (st:St):Option (AOut×St) :=
 cond (Nat.beq g yieldId) (yieldF P H callF again args st) (callF6 P H callF again g args st)
theorem callF6_eq (P:Program) (H:Hints) (callF:CallF0) (again:FuncId→Nat→AgainF0) (g:FuncId) (args:List AV) (st:St) (hny:¬g=yieldId):callF6 P H callF again g args st=callK P H callF again g args st:=by
 unfold callF6 callK
 rw [if_neg hny]
 cases H.prim g with
 |some F=>rfl
 |none =>
  show (P.funcs[g]?).bind (fun fn=>inF g args st P H callF again fn)=_
  congr 1
  funext fn
  unfold inF
  congr 1
  funext c
  rw [execF_eq]
  by_cases h:args.length≤fn.params.size+fn.nfree
  ·rw [if_pos h,Nat.ble_eq.mpr h];rfl
  ·rw [if_neg h]
   cases hc:Nat.ble args.length (fn.params.size+fn.nfree) with
   |true=>exact absurd (Nat.le_of_ble_eq_true hc) h
   |false=>rfl
def taskF (P:Program) (H:Hints) (callF:CallF0) (again:AgainF0) (f:FuncId) (base:Nat):AgainF0:=fun t fr st=>match t with
 | .code c=>execF c P H callF again f base fr st fun ax fr st=>some (ax,fr,st)
 | .round body=>execF body P H callF again f base fr st (loopK H again f body st.length fun ax fr st=>some (ax,fr,st))
 | .resume body rest=>execF rest P H callF again f base fr st (scopeK again body fun ax fr st=>some (ax,fr,st))
def levelsF (P:Program) (H:Hints) (n:Nat):CallF0×(FuncId→Nat→AgainF0) :=
 Nat.rec (motive:=fun _=>CallF0×(FuncId→Nat→AgainF0)) (fun _ _ _=>none,fun _ _ _ _ _=>none) (fun _ L=>(callY6 P H L.1 L.2,fun f base=>taskF P H L.1 (L.2 f base) f base)) n
end
end
end Go.Abs
namespace Go.Abs
open Go
theorem Ev.one {α:Type} {x y:Option α} (h:Ev x fun _=>y) {r:α} (hx:x=some r):y=some r:=by
 obtain ⟨N,hN⟩:=h r hx
 exact hN N (Nat.le_refl N)
theorem Ev.le {α:Type} {x y:Option α} (h:∀r,x=some r→y=some r):Ev x fun _=>y:=fun r hx=>⟨0,fun _ _=>h r hx⟩
section
variable {R:Type} {P:Program} {H:Hints} {callF:CallF0} {again:AgainF0} {f:FuncId} {b:Nat} {r:R}
theorem execW_le (hC:∀g a s r,callF g a s=some r→callW P H g a s=some r) (hG:∀t fr s q,again t fr s=some q→runW P H f b t fr s=some q):∀{c:Code} {fr:Fr} {st:St} {k:AX→Fr→St→Option R},
  execK P H callF again f b c fr st k=some r→∃q,execA P H (callW P H) (runW P H f b) f b c fr st=some q∧k q.1 q.2.1 q.2.2=some r
 | .skip,fr,st,k,h=>⟨_,rfl,h⟩
 | .label _,fr,st,k,h=>⟨_,rfl,h⟩
 | .region id ops draw,fr,st,k,h=>by
  obtain ⟨q,hq,h2⟩:=regionK_le h
  exact ⟨q,(ev_region (E:=fun _=>callW P H) (fun g a s=>Ev.le (hC g a s)) fr st).one hq,h2⟩
 | .seq a c,fr,st,k,h=>by
  simp only [execK] at h
  obtain ⟨q,hq,h2⟩:=execW_le hC hG h
  simp only [execA,hq,Option.bind_some]
  obtain ⟨ax,fr',st'⟩:=q
  cases ax with
  |normal=>exact execW_le hC hG h2
  |_=>exact ⟨_,rfl,h2⟩
 | .cond c a d,fr,st,k,h=>by
  simp only [execK] at h
  obtain ⟨v,hv,h2⟩:=Option.bind_eq_some_iff.1 h
  simp only [execA,hv,Option.bind_some]
  have key:∀{x y:AV→Option R},condB v x y=some r→∃t,v = .bool t∧(if t then x v else y v)=some r:=by
   intro x y hxy
   unfold condB at hxy
   split at hxy
   ·rename_i t;cases t<;>exact ⟨_,rfl,hxy⟩
   ·simp at hxy
  split at h2
  ·rename_i t
   obtain ⟨b',rfl,h3⟩:=key h2
   have hg:Env.get fr.env t=some (.bool b'):=by simpa [evO,look,Env.get] using hv
   rw [reput_same hg] at h3
   cases b' with
   |true=>exact execW_le hC hG h3
   |false=>exact execW_le hC hG h3
  ·obtain ⟨b',rfl,h3⟩:=key h2
   cases b' with
   |true=>exact execW_le hC hG h3
   |false=>exact execW_le hC hG h3
 | .block id body,fr,st,k,h=>by
  simp only [execK] at h
  obtain ⟨q,hq,h2⟩:=execW_le hC hG h
  simp only [execA,hq,Option.map_some]
  obtain ⟨ax,fr',st'⟩:=q
  cases ax with
  |exit i =>
   simp only at h2 ⊢
   split at h2
   ·rename_i hi;rw [if_pos hi];exact ⟨_,rfl,h2⟩
   ·rename_i hi;rw [if_neg hi];exact ⟨_,rfl,h2⟩
  |_=>exact ⟨_,rfl,h2⟩
 | .loop body,fr,st,k,h=>by
  simp only [execK] at h
  obtain ⟨q,hq,h2⟩:=headB_some h
  exact ⟨q,runW_exec (hG _ _ _ _ hq),h2⟩
 | .scope body,fr,st,k,h=>by
  simp only [execK] at h
  obtain ⟨q,hq,h2⟩:=execW_le hC hG h
  simp only [execA,hq,Option.bind_some]
  obtain ⟨ax,fr',st'⟩:=q
  cases ax with
  |goto l =>
   simp only at h2 ⊢
   split at h2
   ·rename_i rest hf;rw [hf]
    obtain ⟨q,hq,h3⟩:=headB_some h2
    exact ⟨q,hG _ _ _ _ hq,h3⟩
   ·rename_i hf;rw [hf];exact ⟨_,rfl,h2⟩
  |_=>exact ⟨_,rfl,h2⟩
 | .exit id,fr,st,k,h=>⟨_,rfl,h⟩
 | .goto l,fr,st,k,h=>⟨_,rfl,h⟩
 | .ret,fr,st,k,h=>⟨_,rfl,h⟩
 | .rangeFunc g ps asg body,fr,st,k,h=>by
  simp only [execK] at h
  obtain ⟨v,hv,h2⟩:=Option.bind_eq_some_iff.1 h
  obtain ⟨q,hq,h3⟩:=Option.bind_eq_some_iff.1 h2
  have:=fnV_some hq
  subst this
  simp only [execA,hv,Option.bind_some]
  split at h3
  ·simp at h3
  rename_i hsp
  rw [if_neg hsp]
  obtain ⟨z,hz,h4⟩:=Option.bind_eq_some_iff.1 h3
  rw [hC _ _ _ _ hz]
  obtain ⟨o,st'⟩:=z
  cases o with
  |ret x =>
   obtain ⟨e,he,h5⟩:=Option.bind_eq_some_iff.1 (show (Option.bind (rangeEnd (H.loopKeep f) st.length st') _)=some _ from h4)
   simp only [Option.bind_some,he,Option.map_some]
   refine ⟨_,rfl,?_⟩
   obtain ⟨j,s⟩:=e
   cases j with
   |none=>exact h5
   |some j=>cases j<;>exact h5
  |pan x =>
   obtain ⟨s,hs,h5⟩:=Option.bind_eq_some_iff.1 (show (Option.bind (rangePan (H.loopKeep f) st.length x st') _)=some _ from h4)
   simp only [Option.bind_some,hs,Option.map_some]
   exact ⟨_,rfl,h5⟩
 | .refuse _,fr,st,k,h=>by simp [execK] at h
theorem headG {x y:Option (AX×Fr×St)} {k:AX→Fr→St→Option R} (h:∀q,x=some q→y=some q) (hx:headB x k=some r):headB y k=some r:=by
 obtain ⟨q,hq,h2⟩:=headB_some hx
 rw [h q hq];exact h2
theorem loopG (hG:∀t fr s q,again t fr s=some q→runW P H f b t fr s=some q) {body:Code} {n:Nat} {k:AX→Fr→St→Option R} {ax:AX} {fr:Fr} {st:St} (h:loopK H again f body n k ax fr st=some r):loopK H (runW P H f b) f body n k ax fr st=some r:=by
 unfold loopK at h ⊢
 cases ax with
 |normal =>
  simp only at h ⊢
  split at h
  ·rename_i hk;rw [if_pos hk];exact headG (hG _ _ _) h
  ·rename_i hk;rw [if_neg hk]
   obtain ⟨e,he,h2⟩:=Option.bind_eq_some_iff.1 h
   rw [he];exact headG (hG _ _ _) h2
 |_=>exact h
theorem scopeG (hG:∀t fr s q,again t fr s=some q→runW P H f b t fr s=some q) {body:Code} {k:AX→Fr→St→Option R} {ax:AX} {fr:Fr} {st:St} (h:scopeK again body k ax fr st=some r):scopeK (runW P H f b) body k ax fr st=some r:=by
 unfold scopeK at h ⊢
 cases ax with
 |goto l =>
  simp only at h ⊢
  split at h
  ·rename_i rest hf;exact headG (hG _ _ _) h
  ·rename_i hf;exact h
 |_=>exact h
end
section
variable {P:Program} {H:Hints}
theorem roundW_A {f:FuncId} {b:Nat} {body:Code} {fr:Fr} {st:St} {q p:AX×Fr×St} (hq:execA P H (callW P H) (runW P H f b) f b body fr st=some q)
  (h2:loopK H (runW P H f b) f body st.length (fun ax fr st=>some (ax,fr,st)) q.1 q.2.1 q.2.2=some p):runW P H f b (.round body) fr st=some p:=by
 obtain ⟨ax,fr',st'⟩:=q
 have key:∀{x:AX×Fr×St},(match (generalizing:=false) ax with | .normal=>(roundEndL H f body st.length fr' st').bind fun e=>runW P H f b (.round body) e.1 e.2 | _=>some (ax,fr',st'))=some x→runW P H f b (.round body) fr st=some x:=by
  intro x hx
  refine runW_of_task ?_
  simp only [taskA,execA,hq,Option.bind_some]
  exact hx
 unfold loopK at h2
 cases ax with
 |normal =>
  simp only at h2 key
  split at h2
  ·rename_i hk
   obtain ⟨x,hx,h3⟩:=headB_some h2
   have:roundEndL H f body st.length fr' st'=some (liveF H f body fr',st'):=by
    unfold roundEndL roundEnd
    rw [hk];rfl
   rw [this] at key
   simp only [Option.bind_some] at key
   rw [key hx];exact h3
  ·rename_i hk
   obtain ⟨e,he,h3⟩:=Option.bind_eq_some_iff.1 h2
   obtain ⟨x,hx,h4⟩:=headB_some h3
   rw [roundV_eq (by simpa using hk) he] at key
   simp only [Option.bind_some] at key
   rw [key hx];exact h4
 |exit i=>rw [key rfl];exact h2
 |goto i=>rw [key rfl];exact h2
 |ret=>rw [key rfl];exact h2
 |panic v=>rw [key rfl];exact h2
theorem resumeW_A {f:FuncId} {b:Nat} {body rest:Code} {fr:Fr} {st:St} {q p:AX×Fr×St} (hq:execA P H (callW P H) (runW P H f b) f b rest fr st=some q)
  (h2:scopeK (runW P H f b) body (fun ax fr st=>some (ax,fr,st)) q.1 q.2.1 q.2.2=some p):runW P H f b (.resume body rest) fr st=some p:=by
 obtain ⟨ax,fr',st'⟩:=q
 have key:∀{x:AX×Fr×St},(match (generalizing:=false) ax with | .goto l=>(match findLabel body l with | some rest=>runW P H f b (.resume body rest) fr' st' | none=>some (ax,fr',st')) | _=>some (ax,fr',st'))=some x→runW P H f b (.resume body rest) fr st=some x:=by
  intro x hx
  refine runW_of_task ?_
  simp only [taskA,hq,Option.bind_some]
  exact hx
 unfold scopeK at h2
 cases ax with
 |goto l =>
  simp only at h2 key
  split at h2
  ·rename_i rest' hf
   obtain ⟨x,hx,h3⟩:=headB_some h2
   rw [hf] at key
   rw [key hx];exact h3
  ·rename_i hf
   rw [hf] at key
   rw [key rfl];exact h2
 |exit i=>rw [key rfl];exact h2
 |normal=>rw [key rfl];exact h2
 |ret=>rw [key rfl];exact h2
 |panic v=>rw [key rfl];exact h2
theorem callW_K {callF:CallF0} {again:FuncId→Nat→AgainF0} (hC:∀g a s r,callF g a s=some r→callW P H g a s=some r) (hG:∀f b t fr s q,again f b t fr s=some q→runW P H f b t fr s=some q)
  {g:FuncId} {args:List AV} {st:St} {r:AOut×St} (h:callK P H callF again g args st=some r):callW P H g args st=some r:=by
 refine callW_of_call ?_
 have hD:∀g a s m,Ev (callDA P H callF again g a s m) fun _:Nat=>callDA P H (callW P H) (runW P H) g a s m :=
  ev_callD (E:=fun _=>callW P H) (G:=fun _=>runW P H) (fun g a s=>Ev.le (hC g a s)) (fun f b t fr s=>Ev.le (hG f b t fr s))
 have hDD:=hD
 clear hD
 unfold callK at h
 unfold callA
 split at h
 ·simp at h
 rename_i hny
 rw [if_neg hny]
 split at h
 ·simp at h
 ·rename_i hp
  rw [hp]
  simp only
  obtain ⟨fn,hfn,h2⟩:=Option.bind_eq_some_iff.1 h
  obtain ⟨c,hc,h3⟩:=Option.bind_eq_some_iff.1 h2
  simp only [hfn,hc,Option.bind_some]
  split at h3
  ·rename_i hl
   rw [if_pos hl]
   obtain ⟨q,hq,h4⟩:=execW_le hC (hG g st.length) h3
   rw [hq]
   simp only [Option.bind_some]
   obtain ⟨ax,fr',st'⟩:=q
   have out:∀{o:Option (AOut×St)} {o':Option (AOut×St)},(∀x,o=some x→o'=some x)→(o.bind fun o=>outL (H.keepObj g) st.length o.1 o.2)=some r→(o'.bind fun o=>outA H g st.length o.1 o.2)=some r:=by
    intro o o' hoo ho
    obtain ⟨x,hx,h5⟩:=Option.bind_eq_some_iff.1 ho
    rw [hoo x hx];exact h5
   unfold endK at h4
   cases ax with
   |normal =>
    simp only at h4 ⊢
    split at h4
    ·rename_i hd
     obtain ⟨vs,hvs,h5⟩:=Option.bind_eq_some_iff.1 h4
     simp only [hd,leaveA,hvs,Option.map_some,Option.bind_some]
     exact h5
    ·rename_i d xs hd
     split at h4
     ·rename_i hdc
      obtain ⟨s,hs,h5⟩:=Option.bind_eq_some_iff.1 h4
      obtain ⟨vs,hvs,h6⟩:=Option.bind_eq_some_iff.1 h5
      simp only [hd,leaveA,hdc,if_true,hs,hvs,Option.map_some,Option.bind_some]
      exact h6
     ·rw [hd];exact out (fun x hx=>(ev_leave (D:=fun _=>callDA P H (callW P H) (runW P H)) hDD fn _ _ _ _).one hx) h4
    ·exact out (fun x hx=>(ev_leave (D:=fun _=>callDA P H (callW P H) (runW P H)) hDD fn _ _ _ _).one hx) h4
   |ret =>
    simp only at h4 ⊢
    split at h4
    ·rename_i hd
     obtain ⟨vs,hvs,h5⟩:=Option.bind_eq_some_iff.1 h4
     simp only [hd,leaveA,hvs,Option.map_some,Option.bind_some]
     exact h5
    ·rename_i d xs hd
     split at h4
     ·rename_i hdc
      obtain ⟨s,hs,h5⟩:=Option.bind_eq_some_iff.1 h4
      obtain ⟨vs,hvs,h6⟩:=Option.bind_eq_some_iff.1 h5
      simp only [hd,leaveA,hdc,if_true,hs,hvs,Option.map_some,Option.bind_some]
      exact h6
     ·rw [hd];exact out (fun x hx=>(ev_leave (D:=fun _=>callDA P H (callW P H) (runW P H)) hDD fn _ _ _ _).one hx) h4
    ·exact out (fun x hx=>(ev_leave (D:=fun _=>callDA P H (callW P H) (runW P H)) hDD fn _ _ _ _).one hx) h4
   |panic v =>
    simp only at h4 ⊢
    split at h4
    ·rename_i hd
     simp only [hd,leaveA,Option.bind_some]
     exact h4
    ·rename_i d xs hd
     split at h4
     ·rename_i hdc
      obtain ⟨s,hs,h5⟩:=Option.bind_eq_some_iff.1 h4
      simp only [hd,leaveA,hdc,if_true,hs,Option.bind_some]
      exact h5
     ·rw [hd];exact out (fun x hx=>(ev_leave (D:=fun _=>callDA P H (callW P H) (runW P H)) hDD fn _ _ _ _).one hx) h4
    ·exact out (fun x hx=>(ev_leave (D:=fun _=>callDA P H (callW P H) (runW P H)) hDD fn _ _ _ _).one hx) h4
   |_=>simp at h4
  ·simp at h3
theorem yieldF_le {callF:CallF0} {again:FuncId→Nat→AgainF0} (hC:∀g a s r,callF g a s=some r→callW P H g a s=some r) (hG:∀f b t fr s q,again f b t fr s=some q→runW P H f b t fr s=some q)
  {args:List AV} {st:St} {r:AOut×St} (h:yieldF P H callF again args st=some r):callW P H yieldId args st=some r:=by
 refine callW_of_call ?_
 unfold callA
 rw [if_pos rfl]
 unfold yieldF at h
 unfold yieldA
 split at h
 ·rename_i o vals hrev
  rw [hrev]
  simp only
  split at h
  ·rename_i f base env ps asg body hob
   rw [hob]
   simp only
   rw [roundF_eq] at h
   unfold roundK at h
   unfold roundB
   split at h
   ·rename_i hc
    rw [if_pos hc]
    obtain ⟨q,hq,h2⟩:=execW_le hC (hG f base) h
    rw [hq]
    simp only [Option.bind_some]
    obtain ⟨ax,fr1,st1⟩:=q
    cases ax with
    |normal =>
     simp only at h2 ⊢
     obtain ⟨s,hs,h3⟩:=Option.bind_eq_some_iff.1 h2
     obtain ⟨q2,hq2,h4⟩:=execW_le hC (hG f base) h3
     rw [hs]
     simp only [Option.bind_some,hq2]
     obtain ⟨ax2,fr2,st2⟩:=q2
     unfold rendK at h4
     cases ax2 with
     |normal=>exact h4
     |ret=>exact h4
     |exit i=>exact h4
     |goto i=>exact h4
     |panic v=>simp at h4
    |_=>simp at h2
   ·simp at h
  ·simp at h
 ·simp at h
theorem levelsF_le:∀n,(∀g a s r,(levelsF P H n).1 g a s=some r→callW P H g a s=some r)∧∀f b t fr s q,(levelsF P H n).2 f b t fr s=some q→runW P H f b t fr s=some q:=by
 intro n
 induction n with
 |zero=>exact ⟨fun g a s r h=>(nomatch h),fun f b t fr s q h=>(nomatch h)⟩
 |succ n ih =>
  obtain ⟨h1,h2⟩:=ih
  refine ⟨fun g a s r h=>?_,fun f b t fr s q h=>?_⟩
  ·have h:callY6 P H (levelsF P H n).1 (levelsF P H n).2 g a s=some r:=h
   unfold callY6 at h
   by_cases hg:g=yieldId
   ·subst hg
    exact yieldF_le h1 h2 h
   ·have hb:Nat.beq g yieldId=false:=by
     cases hb:Nat.beq g yieldId with
     |true=>exact absurd (Nat.eq_of_beq_eq_true hb) hg
     |false=>rfl
    rw [hb,cond_false,callF6_eq _ _ _ _ _ _ _ hg] at h
    exact callW_K h1 h2 h
  ·have h:taskF P H (levelsF P H n).1 ((levelsF P H n).2 f b) f b t fr s=some q:=h
   cases t with
   |code c =>
    have h:execF c P H (levelsF P H n).1 ((levelsF P H n).2 f b) f b fr s (fun ax fr st=>some (ax,fr,st))=some q:=h
    rw [execF_eq] at h
    obtain ⟨p,hp,h3⟩:=execW_le h1 (h2 f b) h
    cases h3
    exact runW_of_task hp
   |round body =>
    have h:execF body P H (levelsF P H n).1 ((levelsF P H n).2 f b) f b fr s (loopK H ((levelsF P H n).2 f b) f body s.length fun ax fr st=>some (ax,fr,st))=some q:=h
    rw [execF_eq] at h
    obtain ⟨p,hp,h3⟩:=execW_le h1 (h2 f b) h
    exact roundW_A hp (loopG (h2 f b) h3)
   |resume body rest =>
    have h:execF rest P H (levelsF P H n).1 ((levelsF P H n).2 f b) f b fr s (scopeK ((levelsF P H n).2 f b) body fun ax fr st=>some (ax,fr,st))=some q:=h
    rw [execF_eq] at h
    obtain ⟨p,hp,h3⟩:=execW_le h1 (h2 f b) h
    exact resumeW_A hp (scopeG (h2 f b) h3)
theorem callW_run {n:Nat} {g:FuncId} {args:List AV} {st:St} {r:AOut×St} (h:(levelsF P H n).1 g args st=some r):callW P H g args st=some r:=(levelsF_le n).1 g args st r h
end
end Go.Abs
namespace Go.Abs
open Go
section
variable {R:Type} {kv kp:AV→St→Option R} {v:AV} {s st:St}
@[simp] theorem callB_ret:callB (some (.ret v,s)) kv kp=kv v s:=rfl
@[simp] theorem callB_pan:callB (some (.pan v,s)) kv kp=kp v s:=rfl
@[simp] theorem bind2_some:bind2 (some (v,s)) kv=kv v s:=rfl
@[simp] theorem boolV_bool (b:Bool):boolV (.bool b)=some b:=rfl
@[simp] theorem intV_int (k:IntKind) (n:Int):intV k (.int k n)=some n:=by simp [intV]
@[simp] theorem strV_str (s:List UInt8):strV (.str s)=some s:=rfl
@[simp] theorem extractA_tup (i:Nat) (vs:List AV):extractA i (.tup vs)=vs[i]?:=rfl
@[simp] theorem cell1_int (k:IntKind) (n:Int):cell1 (.int k n)=some (.int k n):=rfl
@[simp] theorem cell1_str (x:List UInt8):cell1 (.str x)=some (.str x):=rfl
@[simp] theorem cell1_bool (x:Bool):cell1 (.bool x)=some (.bool x):=rfl
@[simp] theorem readA_ip1 (x:AV):readA st (.ip [x] 0) 1 false=some x:=rfl
@[simp] theorem natA_nat (k:IntKind) (n:Nat):natA (.int k (n:Int))=some n:=by simp [natA]
@[simp] theorem outL_same (ko:Bool) (r:AOut):outL ko st.length r st=some (r,st):=by simp [outL]
@[simp] theorem outL_true (n:Nat) (r:AOut):outL true n r st=some (r,st):=by simp [outL]
end
mutual
theorem AV.closed_mono {n m:Nat} (h:n≤m) (a:AV) (ha:AV.closed n a=true):AV.closed m a=true:=by
 cases a<;>simp only [AV.closed,Bool.and_eq_true,decide_eq_true_eq] at ha ⊢
 all_goals first
  |exact AV.closeds_mono h _ ha
  |exact AV.closedss_mono h _ ha
  |exact AV.closed_mono h _ ha
  |(refine ⟨AV.closedss_mono h _ ha.1,?_⟩;rename_i tok;have h2:=ha.2;cases tok<;>simp_all<;>omega)
  |omega
  |skip
termination_by structural a
theorem AV.closeds_mono {n m:Nat} (h:n≤m) (a:List AV) (ha:AV.closeds n a=true):AV.closeds m a=true:=by
 cases a with
 |nil=>rfl
 |cons x r =>
  simp only [AV.closeds,Bool.and_eq_true] at ha ⊢
  exact ⟨AV.closed_mono h _ ha.1,AV.closeds_mono h _ ha.2⟩
termination_by structural a
theorem AV.closedss_mono {n m:Nat} (h:n≤m) (a:List (List AV)) (ha:AV.closedss n a=true):AV.closedss m a=true:=by
 cases a with
 |nil=>rfl
 |cons x r =>
  simp only [AV.closedss,Bool.and_eq_true] at ha ⊢
  exact ⟨AV.closeds_mono h _ ha.1,AV.closedss_mono h _ ha.2⟩
termination_by structural a
end
theorem AObj.closed_mono {n m:Nat} (h:n≤m) {x:AObj} (hx:AObj.closed n x=true):AObj.closed m x=true:=by
 cases x with
 |box ty row=>exact AV.closeds_mono h _ hx
 |rows a b rs=>exact AV.closedss_mono h _ hx
 |amap es =>
  simp only [AObj.closed,List.all_eq_true,Bool.and_eq_true] at hx ⊢
  exact fun p hp=>⟨AV.closed_mono h _ (hx p hp).1,AV.closed_mono h _ (hx p hp).2⟩
 |loop f base env ps asg body ph =>
  simp only [AObj.closed,List.all_eq_true] at hx ⊢
  exact fun p hp=>AV.closed_mono h _ (hx p hp)
 |_=>rfl
def Cl (st:St):Prop:=St.closed st.length st=true
theorem Cl.nil:Cl []:=rfl
theorem closed_mono {n m:Nat} (h:n≤m) {st:St} (hs:St.closed n st=true):St.closed m st=true:=List.all_eq_true.2 fun x hx=>AObj.closed_mono h (List.all_eq_true.1 hs x hx)
theorem Cl.cons {x:AObj} {st:St} (h:Cl st) (hx:AObj.closed (st.length+1) x=true):Cl (x::st):=by
 unfold Cl St.closed
 simp only [List.length_cons,List.all_cons,Bool.and_eq_true]
 exact ⟨hx,closed_mono (by omega) h⟩
theorem Cl.free {e:Nat} {st:St} (h:Cl st):Cl (.free e::st):=h.cons rfl
@[simp] theorem St.trunc_cons (x:AObj) (st:St):St.trunc (x::st) st.length=st:=by unfold St.trunc;simp
@[simp] theorem St.trunc_cons2 (x y:AObj) (st:St):St.trunc (x::y::st) st.length=st:=by
 unfold St.trunc;rw [show (x::y::st).length - st.length=2 by simp only [List.length_cons];omega];rfl
@[simp] theorem St.trunc_self (st:St):St.trunc st st.length=st:=by unfold St.trunc;simp
@[simp] theorem St.get_top (x:AObj) (st:St):St.get (x::st) st.length=some x:=by rw [St.get_cons,if_pos rfl]
theorem St.get_under {x:AObj} {st:St} {o:Nat} (h:o≠st.length):St.get (x::st) o=St.get st o:=by rw [St.get_cons,if_neg h]
theorem St.put_same {st:St} {t:Nat} {x:AObj} (h:st.get t=some x):st.put t x=st:=by
 have ht:=St.get_lt h
 unfold St.put St.get at *
 rw [if_pos ht] at h ⊢
 apply List.ext_getElem?
 intro i
 by_cases e:i=st.length - 1 - t
 ·subst e;rw [List.getElem?_set_self (by omega),h]
 ·rw [List.getElem?_set_ne (fun x=>e x.symm)]
def Sl (kd:Nat) (a:AV) (c:List (List AV)):Prop :=
 (a = .nils∧c=[])∨∃rows off tok,a = .sl kd rows off c.length tok∧off+c.length≤rows.length∧(rows.drop off).take c.length=c
theorem Sl.nil {kd:Nat}:Sl kd .nils []:=.inl ⟨rfl,rfl⟩
theorem Sl.mk {kd:Nat} {c:List (List AV)} {tok:Tok}:Sl kd (.sl kd c 0 c.length tok) c:=.inr ⟨c,0,tok,rfl,by omega,by simp⟩
variable {kd:Nat} {a:AV} {c:List (List AV)} {st:St}
theorem Sl.len (h:Sl kd a c):lenSl a=some (.int .i64 c.length):=by
 rcases h with ⟨rfl,rfl⟩ | ⟨rows,off,tok,rfl,h1,h2⟩<;>rfl
theorem Sl.rows (h:Sl kd a c):rowsOf st kd a=some c:=by
 rcases h with ⟨rfl,rfl⟩ | ⟨rows,off,tok,rfl,h1,h2⟩
 ·rfl
 ·simp [rowsOf,h2]
theorem Sl.at (h:Sl kd a c) {j:Nat} {r:List AV} (hj:c[j]?=some r):idxSl st kd a j=some (.ip r 0):=by
 have hl:=(List.getElem?_eq_some_iff.1 hj).1
 rcases h with ⟨rfl,rfl⟩ | ⟨rows,off,tok,rfl,h1,h2⟩
 ·simp at hl
 ·have:rows[off+j]?=some r:=by
   rw [←h2,List.getElem?_take_of_lt hl,List.getElem?_drop] at hj
   exact hj
  simp [idxSl,hl,this]
theorem Sl.cut (h:Sl kd a c) {lo hi:Option AV} {l k:Nat} (hlo:optA lo 0=some l) (hhi:optA hi c.length=some k) (h1:l≤k) (h2:k≤c.length) :
  ∃a',sliceSl st kd a lo hi none=some a'∧Sl kd a' ((c.take k).drop l):=by
 rcases h with ⟨rfl,rfl⟩ | ⟨rows,off,tok,rfl,h3,h4⟩
 ·simp only [List.length_nil,Nat.le_zero_eq] at h2
  subst h2
  have:l=0:=by omega
  subst this
  refine ⟨.nils,?_,by simpa using Sl.nil⟩
  simp only [sliceSl,List.length_nil] at hhi ⊢
  rw [hhi,hlo]
  simp [optA]
 ·have e:((c.take k).drop l).length=k - l:=by simp;omega
  refine ⟨.sl kd rows (off+l) (k - l) tok,?_,.inr ⟨rows,off+l,tok,by rw [e],by rw [e];omega,?_⟩⟩
  ·simp only [sliceSl,hhi,hlo,Option.bind_some,true_and]
   rw [if_pos h1,if_pos (by omega)]
  ·rw [e,←h4,List.take_take,Nat.min_eq_left h2,List.drop_take,List.drop_drop]
theorem Sl.frz (h:Sl kd a c):freezeA st a=some (a,st):=by
 rcases h with ⟨rfl,rfl⟩ | ⟨rows,off,tok,rfl,h1,h2⟩<;>rfl
def Acc (kd t:Nat) (st:St) (v:AV) (c:List (List AV)):Prop :=
 (v = .nils∧c=[]∧∃e,st.get t=some (.free e))∨(∃ep,v = .sl kd c 0 c.length (.spare t ep)∧st.get t=some (.spare ep c.length))∨(v = .sl kd c 0 c.length .exact∧∃e,st.get t=some (.free e))
variable {t bytes:Nat} {v x:AV} {new:List (List AV)}
theorem Acc.sl (h:Acc kd t st v c):Sl kd v c:=by
 rcases h with ⟨rfl,rfl,_⟩ | ⟨ep,rfl,_⟩ | ⟨rfl,_⟩
 ·exact .nil
 ·exact .mk
 ·exact .mk
theorem Acc.app (h:Acc kd t st v c) (hx:rowsOf st kd x=some new) (h1:(c.length+new.length)*bytes≤roomA) (h2:c.length+new.length≤roomA) :
  ∃v' y,appendL st (some (t,false)) bytes kd v x=some (v',st.put t y)∧Acc kd t (st.put t y) v' (c++new):=by
 unfold appendL
 rw [hx]
 simp only [Option.bind_some]
 rcases h with ⟨rfl,rfl,e,he⟩ | ⟨ep,rfl,he⟩ | ⟨rfl,e,he⟩
 ·have ht:=St.get_lt he
  simp only [List.length_nil,Nat.zero_add] at h1 h2
  by_cases hn:new.length=0
  ·have:new=[]:=List.eq_nil_of_length_eq_zero hn
   subst this
   exact ⟨.nils,.free e,by simp [St.put_same he],.inl ⟨rfl,rfl,e,by rw [St.put_same he];exact he⟩⟩
  ·refine ⟨.sl kd new 0 new.length (.spare t (e+1)),.spare (e+1) new.length,?_,.inr (.inl ⟨e+1,rfl,by rw [St.get_put_same ht];rfl⟩)⟩
   simp only [if_neg hn]
   rw [if_pos ⟨h1,h2⟩]
   simp [homeA,he]
 ·have ht:=St.get_lt he
  dsimp only
  rw [if_pos (show kd=kd∧0+c.length=c.length∧(c.length+new.length)*bytes≤roomA∧c.length+new.length≤roomA from ⟨rfl,by omega,h1,h2⟩)]
  simp only [he,if_true,and_self]
  by_cases hn:new.length=0
  ·have:new=[]:=List.eq_nil_of_length_eq_zero hn
   subst this
   exact ⟨.sl kd c 0 c.length (.spare t ep),.spare ep c.length,by simp [St.put_same he],.inr (.inl ⟨ep,by simp,by rw [St.put_same he];simpa using he⟩)⟩
  ·refine ⟨.sl kd (c++new) 0 (c.length+new.length) (.spare t ep),.spare ep (c.length+new.length),by simp [hn],.inr (.inl ⟨ep,by simp,by rw [St.get_put_same ht];simp⟩)⟩
 ·have ht:=St.get_lt he
  dsimp only
  rw [if_pos (show kd=kd∧0+c.length=c.length∧(c.length+new.length)*bytes≤roomA∧c.length+new.length≤roomA from ⟨rfl,by omega,h1,h2⟩)]
  by_cases hn:new.length=0
  ·have:new=[]:=List.eq_nil_of_length_eq_zero hn
   subst this
   exact ⟨.sl kd c 0 c.length .exact,.free e,by simp [St.put_same he],.inr (.inr ⟨by simp,e,by rw [St.put_same he];exact he⟩)⟩
  ·refine ⟨.sl kd (c++new) 0 (c.length+new.length) (.spare t (e+1)),.spare (e+1) (c.length+new.length),?_,.inr (.inl ⟨e+1,by simp,by rw [St.get_put_same ht];simp⟩)⟩
   simp only [if_neg hn,List.drop_zero]
   simp [homeA,he]
theorem Acc.out {n:Nat} (h:Acc kd t st v c) (hn:n≤t) (hc:AV.closedss n c=true) (hs:St.closed n (st.trunc n)=true) :
  ∃v',outL false n (.ret v) st=some (.ret v',st.trunc n)∧Sl kd v' c∧AV.closed n v'=true:=by
 have ht:t<st.length:=by
  rcases h with ⟨_,_,e,he⟩ | ⟨ep,_,he⟩ | ⟨_,e,he⟩<;>exact St.get_lt he
 have hne:(st.length==n)=false:=by simp;omega
 rcases h with ⟨rfl,rfl,e,he⟩ | ⟨ep,rfl,he⟩ | ⟨rfl,e,he⟩
 ·exact ⟨.nils,by simp [outL,hne,AV.stripR,AV.stripN,AV.closed,hs],.nil,rfl⟩
 ·refine ⟨.sl kd c 0 c.length .no,?_,.mk,by simp [AV.closed,hc]⟩
  have hs2:AV.stripR n (.sl kd c 0 c.length (.spare t ep)) = .sl kd c 0 c.length .no:=by
   simp only [AV.stripR,AV.stripN];rw [if_neg (by omega)]
  simp only [outL,hne,Bool.or_self,Bool.false_eq_true,if_false,hs2]
  simp [AV.closed,hc,hs]
 ·refine ⟨.sl kd c 0 c.length .exact,?_,.mk,by simp [AV.closed,hc]⟩
  simp [outL,hne,AV.stripR,AV.stripN,AV.closed,hc,hs]
theorem outL_plain {n:Nat} {v:AV} {st:St} (h1:AV.stripR n v=v) (h2:AV.closed n v=true) (hs:St.closed n (st.trunc n)=true) (hl:n≤st.length):outL false n (.ret v) st=some (.ret v,st.trunc n):=by
 unfold outL
 by_cases hne:st.length=n
 ·subst hne;simp
 ·have:(st.length==n)=false:=by simpa using hne
  simp [this,h1,h2,hs]
end Go.Abs
namespace Go.Abs
open Go
structure Rd (st:St) (kd:Nat) (v:AV) (c:List (List AV)):Prop where
 len:lenSl v=some (.int .i64 c.length)
 rows:rowsOf st kd v=some c
 at':∀(j:Nat) r,c[j]?=some r→∃p,idxSl st kd v j=some p∧∀n ag,readA st p n ag=readRow r 0 n ag
def Mu (st:St) (kd:Nat) (v:AV) (o:Nat) (c:List (List AV)):Prop:=∃ep,v = .ms o ep 0 c.length c.length∧st.get o=some (.rows kd ep c)
def MuN (st:St) (kd:Nat) (v:AV) (o:Nat) (c:List (List AV)):Prop:=(v = .nils∧c=[]∧∃e,st.get o=some (.free e))∨Mu st kd v o c
variable {kd:Nat} {a v x:AV} {c new:List (List AV)} {st st':St} {o bytes:Nat}
theorem Sl.rd (h:Sl kd a c):Rd st kd a c:=⟨h.len,h.rows,fun j r hj=>⟨_,h.at hj,fun n ag=>rfl⟩⟩
theorem Mu.rd (h:Mu st kd v o c):Rd st kd v c:=by
 obtain ⟨ep,rfl,hg⟩:=h
 refine ⟨rfl,?_,fun j r hj=>?_⟩
 ·simp [rowsOf,hg]
 ·have hl:=(List.getElem?_eq_some_iff.1 hj).1
  refine ⟨.ptr o ep (0+j) 0,?_,fun n ag=>?_⟩
  ·simp [idxSl,msKd,hg,hl]
  ·simp [readA,hg,hj]
theorem MuN.rd (h:MuN st kd v o c):Rd st kd v c:=by
 rcases h with ⟨rfl,rfl,_⟩ | h
 ·exact Sl.rd .nil
 ·exact h.rd
theorem Mu.same (h:Mu st kd v o c) (hg:st'.get o=st.get o):Mu st' kd v o c:=by
 obtain ⟨ep,rfl,h2⟩:=h
 exact ⟨ep,rfl,by rw [hg];exact h2⟩
theorem MuN.same (h:MuN st kd v o c) (hg:st'.get o=st.get o):MuN st' kd v o c:=by
 rcases h with ⟨h1,h2,e,h3⟩ | h
 ·exact .inl ⟨h1,h2,e,by rw [hg];exact h3⟩
 ·exact .inr (h.same hg)
theorem MuN.lt (h:MuN st kd v o c):o<st.length:=by
 rcases h with ⟨_,_,e,h⟩ | ⟨ep,_,h⟩<;>exact St.get_lt h
theorem MuN.app (h:MuN st kd v o c) (hx:rowsOf st kd x=some new) (h1:(c.length+new.length)*bytes≤roomA) (h2:c.length+new.length≤roomA) :
  ∃v' y,appendL st (some (o,true)) bytes kd v x=some (v',st.put o y)∧MuN (st.put o y) kd v' o (c++new)∧((∃e,y = .free e)∨∃ep,y = .rows kd ep (c++new)):=by
 have ho:=h.lt
 unfold appendL
 rw [hx]
 simp only [Option.bind_some]
 rcases h with ⟨rfl,rfl,e,he⟩ | ⟨ep,rfl,he⟩
 ·simp only [List.length_nil,Nat.zero_add] at h1 h2
  by_cases hn:new.length=0
  ·have:new=[]:=List.eq_nil_of_length_eq_zero hn
   subst this
   exact ⟨.nils,.free e,by simp [St.put_same he],.inl ⟨rfl,rfl,e,by rw [St.put_same he];exact he⟩,.inl ⟨e,rfl⟩⟩
  ·refine ⟨.ms o (e+1) 0 new.length new.length,.rows kd (e+1) new,?_,.inr ⟨e+1,rfl,by rw [St.get_put_same ho];rfl⟩,.inr ⟨e+1,rfl⟩⟩
   simp only [if_neg hn]
   rw [if_pos ⟨h1,h2⟩]
   simp [homeA,he]
 ·dsimp only
  rw [he]
  dsimp only
  rw [if_pos (show kd=kd∧ep=ep∧(c.length+new.length)*bytes≤roomA∧c.length+new.length≤roomA∧0+c.length≤c.length∧c.length≤c.length from ⟨rfl,rfl,h1,h2,by omega,by omega⟩)]
  by_cases hn:new.length=0
  ·have:new=[]:=List.eq_nil_of_length_eq_zero hn
   subst this
   refine ⟨.ms o ep 0 c.length c.length,.rows kd ep c,by simp,.inr ⟨ep,by simp,by rw [St.get_put_same ho];simp⟩,.inr ⟨ep,by simp⟩⟩
  ·rw [if_neg (by omega)]
   refine ⟨.ms o (ep+1) 0 (c++new).length (c++new).length,.rows kd (ep+1) (c++new),by simp,.inr ⟨ep+1,rfl,by rw [St.get_put_same ho]⟩,.inr ⟨ep+1,rfl⟩⟩
def Ext (st st':St):Prop:=∀o x,st.get o=some x→st'.get o=some x
theorem Ext.refl (st:St):Ext st st:=fun _ _ h=>h
theorem Ext.trans {s1 s2 s3:St} (h:Ext s1 s2) (h':Ext s2 s3):Ext s1 s3:=fun o x hx=>h' o x (h o x hx)
theorem Ext.cons (x:AObj) (st:St):Ext st (x::st):=fun o y h=>by
 have:=St.get_lt h
 rw [St.get_under (by omega)];exact h
theorem Mu.ext (h:Mu st kd v o c) (he:Ext st st'):Mu st' kd v o c:=by
 obtain ⟨ep,rfl,h2⟩:=h
 exact ⟨ep,rfl,he _ _ h2⟩
theorem MuN.ext (h:MuN st kd v o c) (he:Ext st st'):MuN st' kd v o c:=by
 rcases h with ⟨h1,h2,e,h3⟩ | h
 ·exact .inl ⟨h1,h2,e,he _ _ h3⟩
 ·exact .inr (h.ext he)
theorem Sl.cell1 (h:Sl kd a c):cell1 a=some a:=by
 rcases h with ⟨rfl,rfl⟩ | ⟨rows,off,tok,rfl,h1,h2⟩<;>rfl
theorem MuN.cell1 (h:MuN st kd v o c):Go.Abs.cell1 v=some v:=by
 rcases h with ⟨rfl,rfl,_⟩ | ⟨ep,rfl,_⟩<;>rfl
section
variable {R:Type} {j:Nat} {r:List AV} {k:IntKind}
theorem Rd.cell (h:Rd st kd a c) {y:AV} (hj:c[j]?=some r) (hr:r[0]?=some y) (K:AV→Option R) :
  ((natA (.int k (j:Int))).bind fun j=>(idxSl st kd a j).bind fun v=>(readA st v 1 false).bind K)=K y:=by
 obtain ⟨p,h1,h2⟩:=h.at' j r hj
 rw [natA_nat,Option.bind_some,h1,Option.bind_some,h2]
 simp [readRow,hr]
theorem Rd.int (h:Rd st kd a c) {n:Int} {k':IntKind} (hj:c[j]?=some r) (hr:r[0]?=some (.int k' n)) (K:Int→Option R) :
  ((natA (.int k (j:Int))).bind fun j=>(idxSl st kd a j).bind fun v=>(readA st v 1 false).bind fun v=>(intV k' v).bind K)=K n:=by
 rw [h.cell hj hr];simp
theorem Rd.agg (h:Rd st kd a c) (hj:c[j]?=some r) {n:Nat} (hn:r.length=n) (K:AV→Option R) :
  ((natA (.int k (j:Int))).bind fun j=>(idxSl st kd a j).bind fun v=>(readA st v n true).bind K)=K (.agg r):=by
 obtain ⟨p,h1,h2⟩:=h.at' j r hj
 rw [natA_nat,Option.bind_some,h1,Option.bind_some,h2]
 subst hn
 simp [readRow]
end
theorem St.put_top (x y:AObj) (st:St):St.put (x::st) st.length y=y::st:=by unfold St.put;simp
def Lent (kd:Nat) (v:AV) (c extra:List (List AV)):Prop:=∃tok:Tok,(tok = .no∨tok = .exact)∧v = .sl kd (c++extra) 0 c.length tok
theorem Lent.strip {kd n:Nat} {v:AV} {c extra:List (List AV)} (h:Lent kd v c extra):AV.stripN n v=v:=by
 obtain ⟨tok,rfl | rfl,rfl⟩:=h<;>rfl
theorem Lent.closed {kd n:Nat} {v:AV} {c extra:List (List AV)} (h:Lent kd v c extra) (hc:AV.closedss n (c++extra)=true):AV.closed n v=true:=by
 obtain ⟨tok,rfl | rfl,rfl⟩:=h<;>simp [AV.closed,hc]
theorem Lent.sl {kd:Nat} {v:AV} {c extra:List (List AV)} (h:Lent kd v c extra):Sl kd v c:=by
 obtain ⟨tok,_,rfl⟩:=h
 exact .inr ⟨c++extra,0,tok,by simp,by simp,by simp⟩
section
variable {st:St} {o n:Nat} {x y z u:AObj}
theorem get_at1 (h:n=st.length):St.get (x::st) n=some x:=by subst h;exact St.get_top _ _
theorem box_read {ty:TypeId} {row:List AV} {c k:Nat} {ag:Bool} (h:st.get o=some (.box ty row)):readA st (.bp o c) k ag=readRow row c k ag:=by simp [readA,h]
theorem row_all (xs:List AV) (m:Nat) (h:xs.length=m):readRow xs 0 m true=some (.agg xs):=by
 subst h
 simp [readRow]
end
def Each {α:Type} (R:α→List AV→Prop) (xs:List α) (rows:List (List AV)):Prop:=xs.length=rows.length∧∀(i:Nat) x r,xs[i]?=some x→rows[i]?=some r→R x r
theorem Each.nil {α:Type} {R:α→List AV→Prop}:Each R [] []:=⟨rfl,by simp⟩
theorem Each.get {α:Type} {R:α→List AV→Prop} {xs:List α} {rows:List (List AV)} (h:Each R xs rows) {i:Nat} {x:α} (hx:xs[i]?=some x):∃r,rows[i]?=some r∧R x r:=by
 have hl:=(List.getElem?_eq_some_iff.1 hx).1
 have:rows[i]?=some (rows[i]'(by rw [←h.1];exact hl)):=List.getElem?_eq_getElem _
 exact ⟨_,this,h.2 i x _ hx this⟩
theorem Each.imp {α:Type} {R R':α→List AV→Prop} {xs:List α} {rows:List (List AV)} (h:Each R xs rows) (hi:∀x r,R x r→R' x r):Each R' xs rows:=⟨h.1,fun i x r h1 h2=>hi _ _ (h.2 i x r h1 h2)⟩
theorem Each.take {α:Type} {R:α→List AV→Prop} {xs:List α} {rows:List (List AV)} (h:Each R xs rows) (n:Nat):Each R (xs.take n) (rows.take n):=by
 refine ⟨by simp [h.1],fun i x r h1 h2=>?_⟩
 rw [List.getElem?_take] at h1 h2
 split at h1
 ·rename_i hi;rw [if_pos hi] at h2;exact h.2 i x r h1 h2
 ·simp at h1
end Go.Abs
namespace Go.Abs
open Go Go.IntWalk
@[simp] theorem nilCheckA_ip (r:List AV) (c:Nat):nilCheckA (.ip r c)=some (.ip r c):=rfl
@[simp] theorem nilCheckA_bp (o c:Nat):nilCheckA (.bp o c)=some (.bp o c):=rfl
@[simp] theorem ptrAdd_ip (k:Nat) (r:List AV) (c:Nat):ptrAdd k (.ip r c)=some (.ip r (c+k)):=rfl
@[simp] theorem ptrAdd_bp (k o c:Nat):ptrAdd k (.bp o c)=some (.bp o (c+k)):=rfl
@[simp] theorem readA_ip (st:St) (r:List AV) (c n:Nat) (ag:Bool):readA st (.ip r c) n ag=readRow r c n ag:=rfl
theorem e1i {i:Nat} (h:i<1000000000000):IntKind.i64.wrap ((i:Int)+1)=((i+1:Nat):Int):=by rw [i64_in _ (by omega)];rfl
structure Up (st S:St):Prop where
 low:S.trunc st.length=st
 len:st.length≤S.length
theorem Up.refl (st:St):Up st st:=⟨St.trunc_self st,Nat.le_refl _⟩
theorem St.trunc_trunc {S:St} {n m:Nat} (h:n≤m):(S.trunc m).trunc n=S.trunc n:=by
 unfold St.trunc
 rw [List.drop_drop]
 simp only [List.length_drop]
 congr 1
 omega
theorem Up.trans {a b c:St} (h1:Up a b) (h2:Up b c):Up a c:=⟨by rw [←St.trunc_trunc h1.len,h2.low,h1.low],Nat.le_trans h1.len h2.len⟩
theorem Up.cons (x:AObj) (st:St):Up st (x::st):=⟨St.trunc_cons x st,by simp⟩
theorem Up.push {st S:St} (h:Up st S) (x:AObj):Up st (x::S):=h.trans (Up.cons x S)
theorem Up.put {st S:St} (h:Up st S) {t:Nat} (ht:st.length≤t) (x:AObj):Up st (S.put t x):=⟨by rw [St.trunc_put ht,h.low],by simpa using h.len⟩
theorem Up.app {st S:St} (h:Up st S):∃js,S=js++st:=by
 have:=h.low
 unfold St.trunc at this
 exact ⟨S.take (S.length - st.length),by conv=>lhs;rw [←List.take_append_drop (S.length - st.length) S,this]⟩
theorem St.get_app {js st:St} {o:Nat} (h:o<st.length):St.get (js++st) o=St.get st o:=by
 induction js with
 |nil=>rfl
 |cons x js ih=>rw [List.cons_append,St.get_under (by rw [List.length_append];omega),ih]
theorem Up.get {st S:St} (h:Up st S) {o:Nat} {x:AObj} (hg:st.get o=some x):S.get o=some x:=by
 obtain ⟨js,rfl⟩:=h.app
 rw [St.get_app (St.get_lt hg)];exact hg
section
variable {R:Type} {st:St} {s:List UInt8} {c:UInt8}
@[simp] theorem strA_eql (a b:List UInt8):strA .eql a b=some (.bool (a==b)):=rfl
@[simp] theorem strA_neq (a b:List UInt8):strA .neq a b=some (.bool (!(a==b))):=rfl
end
end Go.Abs
