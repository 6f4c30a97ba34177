/- VmNils returns true for every value of bulk at most 1048576 and leaves it as it was: where the package-level variables that the row lists stand as it lists them. -/
import Derived.Recover
import Derived.Orders
import Derived.Below
import Derived.Laws.Sem
import Derived.Laws.World
import Derived.Laws.Append
import Derived.Laws.AppendOwn
import Derived.Deep.MidRow
import Derived.Laws.Cells
import Derived.Laws.StructEq
import Derived.ChangeKeysEq
import Derived.LaidEql
import Derived.Deep.Draws
import Derived.Laws.IdiomCopy
import Derived.Laws.BytesString
import Derived.Lib.UnsafeStr
import Derived.Laws.MakeOwn
set_option linter.unusedVariables false
set_option linter.unusedSimpArgs false
set_option linter.unusedSectionVars false
namespace Go.Abs
open Go
inductive Tok where
 |no
 |exact
 |spare (t ep:Nat)
 deriving DecidableEq
def spId (g:Nat):Bool:=Nat.ble 1000000 g
abbrev yieldId:Nat:=1000000
abbrev collId:Nat:=1000001
inductive Jmp where
 |ret
 |exit (id:Nat)
 |goto (l:Nat)
def Jmp.code:Jmp→Code
 | .ret=>.ret
 | .exit i=>.exit i
 | .goto l=>.goto l
inductive AV where
 |bool (b:Bool)
 |int (k:IntKind) (n:Int)
 |str (s:List UInt8)
 |nilp | nilm | nilf | nili | nils
 |agg (cs:List AV)
 |tup (vs:List AV)
 |sl (sz:Nat) (rows:List (List AV)) (off len:Nat) (tok:Tok)
 |ms (o ep off len cap:Nat)
 |ip (row:List AV) (c:Nat)
 |ptr (o ep i c:Nat)
 |bp (o c:Nat)
 |fn (f:FuncId) (cap:List AV)
 |iface (t:TypeId) (v:AV)
 |mp (o:Nat)
 |it (o:Nat)
 |dp (rows:List (List AV)) (off:Nat)
mutual
def AV.beq:AV→AV→Bool
 | .bool a,.bool b=>a==b
 | .int k a,.int k' b=>k==k'&&a==b
 | .str a,.str b=>a==b
 | .nilp,.nilp | .nilm,.nilm | .nilf,.nilf | .nili,.nili | .nils,.nils=>true
 | .agg a,.agg b=>AV.beqs a b
 | .tup a,.tup b=>AV.beqs a b
 | .sl s r o l t,.sl s' r' o' l' t'=>s==s'&&AV.beqss r r'&&o==o'&&l==l'&&t==t'
 | .ms a b c d e,.ms a' b' c' d' e'=>a==a'&&b==b'&&c==c'&&d==d'&&e==e'
 | .ip r c,.ip r' c'=>AV.beqs r r'&&c==c'
 | .ptr a b c d,.ptr a' b' c' d'=>a==a'&&b==b'&&c==c'&&d==d'
 | .bp a b,.bp a' b'=>a==a'&&b==b'
 | .fn f a,.fn g b=>f==g&&AV.beqs a b
 | .iface t a,.iface u b=>t==u&&AV.beq a b
 | .mp a,.mp b=>a==b
 | .it a,.it b=>a==b
 | .dp r o,.dp r' o'=>AV.beqss r r'&&o==o'
 |_,_=>false
termination_by structural x=>x
def AV.beqs:List AV→List AV→Bool
 |[],[]=>true
 |a::r,b::s=>AV.beq a b&&AV.beqs r s
 |_,_=>false
termination_by structural x=>x
def AV.beqss:List (List AV)→List (List AV)→Bool
 |[],[]=>true
 |a::r,b::s=>AV.beqs a b&&AV.beqss r s
 |_,_=>false
termination_by structural x=>x
end
inductive AObj where
 |free (ep:Nat)
 |box (ty:TypeId) (row:List AV)
 |rows (sz ep:Nat) (rs:List (List AV))
 |spare (ep n:Nat)
 |iter (s:List UInt8) (pos:Nat)
 |amap (es:List (AV×AV))
 |loop (f:FuncId) (base:Nat) (env:List (Nat×AV)) (ps:List Nat) (asg body:Code) (ph:Option (Option Jmp))
 |coll (live:Bool)
abbrev St:=List AObj
def St.get (st:St) (o:Nat):Option AObj:=if o<st.length then st[st.length - 1 - o]? else none
def St.put (st:St) (o:Nat) (x:AObj):St:=if o<st.length then st.set (st.length - 1 - o) x else st
def St.trunc (st:St) (n:Nat):St:=st.drop (st.length - n)
abbrev Env:=List (Nat×AV)
def Env.get:Env→Nat→Option AV
 |[],_=>none
 |(s,v)::r,t=>if s=t then some v else Env.get r t
def Env.set:Env→Nat→AV→Env
 |[],t,v=>[(t,v)]
 |(s,u)::r,t,v=>if s=t then (t,v)::r else if t<s then (t,v)::(s,u)::r else (s,u)::Env.set r t v
inductive AOut where
 |ret (v:AV)
 |pan (v:AV)
inductive AX where
 |normal
 |exit (id:Nat)
 |goto (l:Nat)
 |ret
 |panic (v:AV)
structure Hints where
 keep:FuncId→List Nat
 glob:Nat→Option (List AV)
 homes:FuncId→Nat
 home:FuncId→Nat→Option (Option Nat×Nat×Bool)
 comp:FuncId→Nat→Nat
 cidx:TypeId→Nat→Nat
 keepObj:FuncId→Bool
 loopKeep:FuncId→Bool
 frz:FuncId→Nat→Bool
 recheck:FuncId→Nat→List (Nat×Nat×Nat)
 pok:FuncId→Nat→Bool
 prim:FuncId→Option (List AV→St→Option (AOut×St))
 ext:FuncId→Option (List AV→Option AV)
 recov:FuncId→Bool
 live:FuncId→Nat→Option (List Nat)
 swp:FuncId→Nat→Option (Nat×Nat):=fun _ _=>none
structure Fr where
 env:Env
 defers:List (FuncId×List AV)
mutual
def AV.closed (n:Nat):AV→Bool
 | .agg cs=>AV.closeds n cs
 | .tup cs=>AV.closeds n cs
 | .sl _ rows _ _ tok=>AV.closedss n rows&&(match tok with | .spare t _=>decide (t<n) | _=>true)
 | .ms o _ _ _ _=>decide (o<n)
 | .ip row _=>AV.closeds n row
 | .ptr o _ _ _=>decide (o<n)
 | .bp o _=>decide (o<n)
 | .fn _ cs=>AV.closeds n cs
 | .iface _ v=>AV.closed n v
 | .mp o=>decide (o<n)
 | .it o=>decide (o<n)
 | .dp rows _=>AV.closedss n rows
 |_=>true
termination_by structural x=>x
def AV.closeds (n:Nat):List AV→Bool
 |[]=>true
 |v::r=>AV.closed n v&&AV.closeds n r
termination_by structural x=>x
def AV.closedss (n:Nat):List (List AV)→Bool
 |[]=>true
 |v::r=>AV.closeds n v&&AV.closedss n r
termination_by structural x=>x
end
def AObj.closed (n:Nat):AObj→Bool
 | .box _ row=>AV.closeds n row
 | .rows _ _ rs=>AV.closedss n rs
 | .amap es=>es.all fun p=>AV.closed n p.1&&AV.closed n p.2
 | .loop _ _ env _ _ _ _=>env.all fun p=>AV.closed n p.2
 |_=>true
def St.closed (n:Nat) (st:St):Bool:=st.all (AObj.closed n)
def AV.stripN (n:Nat):AV→AV
 | .sl a b c d (.spare t ep)=>.sl a b c d (if t<n then .spare t ep else .no)
 |v=>v
def AV.stripR (n:Nat):AV→AV
 | .agg cs=>.agg (cs.map (AV.stripN n))
 | .tup vs=>.tup (vs.map fun v=>match v with | .agg cs=>.agg (cs.map (AV.stripN n)) | v=>AV.stripN n v)
 |v=>AV.stripN n v
section ops
variable (P:Program)
def szOf (t:TypeId):Option Nat:=(P.info? t).map (·.size)
def kdOf (t:TypeId):Option Nat :=
 match P.underlying t with
 |some (.int .u8)=>(P.info? t).bind fun i=>if i.size=1 then some 0 else none
 |some _=>(P.info? t).bind fun i=>if i.size=0 then none else some i.size
 |none=>none
def szk (kd:Nat):Nat:=if kd=0 then 1 else kd
def isAggD:TypeDesc→Bool
 | .struct _ | .array _ _=>true
 |_=>false
def aggT (t:TypeId):Option Bool:=(P.underlying t).map isAggD
def ofVal:Nat→Value→Option AV
 | 0,_=>none
 |_+1,.bool b=>some (.bool b)
 |_+1,.int k n=>some (.int k n)
 |_+1,.string s=>some (.str s.data.toList)
 |_+1,.pointer none=>some .nilp
 |_+1,.slice none 0 0=>some .nils
 |_+1,.map none=>some .nilm
 |_+1,.nilFunc=>some .nilf
 |_+1,.nilIface=>some .nili
 |d+1,.iface t v=>(ofVal d v).map (.iface t)
 |d+1,.agg cs=>if cs.all (·.oneCell') then (cs.toList.mapM (ofVal d)).map .agg else none
 |d+1,.tuple cs=>(cs.toList.mapM (ofVal d)).map .tup
 |_+1,_=>none
def zeroA (t:TypeId):Option AV:=(P.info? t).bind fun i=>i.zero.bind (ofVal 4)
def AV.cells:AV→List AV
 | .agg cs=>cs
 | .tup _=>[]
 |v=>[v]
def AV.isTup:AV→Bool
 | .tup _=>true
 |_=>false
def readRow (row:List AV) (c n:Nat) (ag:Bool):Option AV :=
 if ag then (if c+n≤row.length then some (.agg ((row.drop c).take n)) else none) else row[c]?
def ldA (st:St) (t:TypeId) (p:AV):Option AV :=
 (aggT P t).bind fun ag=>(szOf P t).bind fun n =>
 match p with
 | .ip row c=>readRow row c n ag
 | .bp o c=>match st.get o with | some (.box _ row)=>readRow row c n ag | _=>none
 | .ptr o ep i c =>
  match st.get o with
  |some (.rows _ ep' rs)=>if ep=ep' then (rs[i]?).bind fun row=>readRow row c n ag else none
  |_=>none
 |_=>none
def setAt:List AV→Nat→List AV→Option (List AV)
 |row,0,[]=>some row
 |_::r,0,c::cs=>(setAt r 0 cs).map (c::·)
 |a::r,n+1,cs=>(setAt r n cs).map (a::·)
 |[],_,_=>none
def stA (st:St) (t:TypeId) (p v:AV):Option St :=
 (szOf P t).bind fun n =>
 if v.cells.length=n∧v.isTup=false then
  match p with
  | .bp o c=>match st.get o with | some (.box ty row)=>(setAt row c v.cells).map fun row'=>st.put o (.box ty row') | _=>none
  | .ptr o ep i c =>
   match st.get o with
   |some (.rows sz ep' rs)=>if ep=ep' then (rs[i]?).bind fun row=>(setAt row c v.cells).map fun row'=>st.put o (.rows sz ep' (rs.set i row')) else none
   |_=>none
  |_=>none
 else none
def fillA (place:Nat→Option (Nat×Nat)) (cells:List AV):List (Nat×AV)→Option (List AV)
 |[]=>some cells
 |(i,v)::rest=>(place i).bind fun p=>if v.cells.length=p.2∧v.isTup=false then (setAt cells p.1 v.cells).bind fun c=>fillA place c rest else none
def evs (ev:Operand→Option AV):List Operand→Option (List AV)
 |[]=>some []
 |x::r=>(ev x).bind fun v=>(evs ev r).map (v::·)
def evps (ev:Operand→Option AV):List (Nat×Operand)→Option (List (Nat×AV))
 |[]=>some []
 |(i,x)::r=>(ev x).bind fun v=>(evps ev r).map ((i,v)::·)
def buildA (t:TypeId) (parts:List (Nat×AV)):Option AV :=
 (zeroA P t).bind fun z =>
 if z.isTup then none else
 match P.underlying t with
 |some (.struct fields)=>if fields.toList.all (fun f=>(szOf P f.type).isSome) then (fillA (fun i=>(fields[i]?).bind fun f=>(szOf P f.type).map fun s=>(f.offset,s)) z.cells parts).map .agg else none
 |some (.array _ e)=>(szOf P e).bind fun s=>(fillA (fun i=>some (i*s,s)) z.cells parts).map .agg
 |_=>none
def AV.strip:AV→AV
 | .sl a b c d _=>.sl a b c d .no
 |v=>v
def rowsPut (sz:Nat) (rows:List (List AV)):List (Nat×AV)→Option (List (List AV))
 |[]=>some rows
 |(i,v)::rest=>if i<rows.length∧v.cells.length=sz∧v.isTup=false then rowsPut sz (rows.set i (v.cells.map AV.strip)) rest else none
def homeA (st:St) (h:Nat) (wr:Bool) (sz:Nat) (rows:List (List AV)):Option (AV×St) :=
 match st.get h with
 |some x =>
  (match x with | .free e=>some (e+1) | .rows _ e _=>some (e+1) | .spare e _=>some (e+1) | _=>none).bind fun ep =>
  if wr then some (.ms h ep 0 rows.length rows.length,st.put h (.rows sz ep rows))
  else some (.sl sz rows 0 rows.length (.spare h ep),st.put h (.spare ep rows.length))
 |none=>if wr then some (.ms st.length 1 0 rows.length rows.length,.rows sz 1 rows::st) else none
def roomA:Nat:=70368744177664
def rowsOf (st:St) (sz:Nat):AV→Option (List (List AV))
 | .nils=>some []
 | .sl sz' rows off len _=>if sz'=sz then some ((rows.drop off).take len) else none
 | .ms o ep off len _ =>
  match st.get o with
  |some (.rows sz' ep' rs)=>if sz'=sz∧ep=ep'∧off+len≤rs.length then some ((rs.drop off).take len) else none
  |_=>none
 | .str s=>if sz=0 then some (s.map fun b=>[.int .u8 b.toNat]) else none
 |_=>none
def nullOk (e:TypeId) (kd:Nat):Bool:=match zeroA P e with | some z=>z.cells.length==szk kd && !z.isTup | none=>false
def appendA (st:St) (home:Option (Nat×Bool)) (t:TypeId) (s x:AV):Option (AV×St) :=
 match P.underlying t with
 |some (.slice e) =>
  (P.info? e).bind fun i=>(kdOf P e).bind fun kd =>
  (rowsOf st kd x).bind fun new =>
  if nullOk P e kd then
  match s with
  | .nils =>
   if new.length=0 then some (.nils,st)
   else if new.length*i.bytes≤roomA∧new.length≤roomA then
    match home with
    |some (h,m)=>homeA st h m kd new
    |none=>some (.sl kd new 0 new.length .no,st)
   else none
  | .sl sz rows off len tok =>
   if sz=kd∧off+len=rows.length∧(len+new.length)*i.bytes≤roomA∧len+new.length≤roomA then
    match tok with
    | .exact =>
     if new.length=0 then some (s,st)
     else match home with
      |some (h,m)=>homeA st h m kd (rows.drop off++new)
      |none=>some (.sl kd (rows.drop off++new) 0 (len+new.length) .no,st)
    | .spare t ep =>
     if off=0 then
      match st.get t with
      |some (.spare ep' n) =>
       if ep=ep'∧n=rows.length then
        if new.length=0 then some (s,st)
        else some (.sl kd (rows++new) 0 (len+new.length) (.spare t ep),st.put t (.spare ep (n+new.length)))
       else none
      |_=>none
     else none
    | .no=>none
   else none
  | .ms o ep off len cap =>
   match st.get o with
   |some (.rows sz ep' rs) =>
    if sz=kd∧ep=ep'∧(len+new.length)*i.bytes≤roomA∧len+new.length≤roomA∧off+cap≤rs.length∧len≤cap then
     if len+new.length≤cap then some (.ms o ep off (len+new.length) cap,st.put o (.rows sz ep (rs.take (off+len)++new++rs.drop (off+len+new.length))))
     else some (.ms o (ep+1) 0 (len+new.length) (len+new.length),st.put o (.rows sz (ep+1) ((rs.drop off).take len++new)))
    else none
   |_=>none
  |_=>none
  else none
 |_=>none
def freezeA (st:St):AV→Option (AV×St)
 | .ms o ep off len _ =>
  match st.get o with
  |some (.rows sz ep' rs)=>if ep=ep'∧off+len≤rs.length then some (.sl sz (rs.take (off+len)) off len .no,st.put o (.free ep)) else none
  |_=>none
 |v=>some (v,st)
def partA (t:TypeId) (cs:List AV) (off:Nat):Option AV :=
 (aggT P t).bind fun ag =>
 if ag then (szOf P t).bind fun n=>if off+n≤cs.length then some (.agg ((cs.drop off).take n)) else none
 else cs[off]?
def eqFieldsA (eq:TypeId→AV→AV→Option Bool) (xs ys:List AV):List Field→Option Bool
 |[]=>some true
 |f::fs =>
  if f.name ≠ "_" then
   (partA P f.type xs f.offset).bind fun a=>(partA P f.type ys f.offset).bind fun b=>(eq f.type a b).bind fun r=>if r then eqFieldsA eq xs ys fs else some false
  else eqFieldsA eq xs ys fs
def eqElemsA (eq:AV→AV→Option Bool) (e:TypeId) (n:Nat) (xs ys:List AV):Nat→Nat→Option Bool
 |_,0=>some true
 |i,k+1 =>
  (partA P e xs (i*n)).bind fun a=>(partA P e ys (i*n)).bind fun b=>(eq a b).bind fun r=>if r then eqElemsA eq e n xs ys (i+1) k else some false
def eqA:Nat→TypeId→AV→AV→Option Bool
 | 0,_,_,_=>none
 |d+1,t,x,y =>
  match P.underlying t with
  |some .bool=>match x,y with | .bool a,.bool b=>some (a==b) | _,_=>none
  |some (.int _)=>match x,y with | .int k a,.int k' b=>if k=k' then some (a==b) else none | _,_=>none
  |some .string=>match x,y with | .str a,.str b=>some (a==b) | _,_=>none
  |some (.pointer e) =>
   match x,y with
   | .nilp,.nilp=>some true
   | .nilp,.ip _ _=>some false
   | .nilp,.ptr _ _ _ _=>some false
   | .ip _ _,.nilp=>some false
   | .ptr _ _ _ _,.nilp=>some false
   | .nilp,.bp _ _=>some false
   | .bp _ _,.nilp=>some false
   | .bp o c,.bp o' c'=>(szOf P e).bind fun n=>if n=0 then none else some (o==o'&&c==c')
   |_,_=>none
  |some (.interface _) =>
   match x,y with
   | .nili,.nili=>some true
   | .nili,.iface _ _=>some false
   | .iface _ _,.nili=>some false
   | .iface tx vx,.iface ty vy=>if tx=ty then (P.info? tx).bind fun i=>if i.comparable then eqA d tx vx vy else none else some false
   |_,_=>none
  |some (.struct fields)=>match x,y with | .agg xs,.agg ys=>if P.stoodInHeld t then none else eqFieldsA P (eqA d) xs ys fields.toList | _,_=>none
  |some (.array len e)=>match x,y with | .agg xs,.agg ys=>(szOf P e).bind fun n=>eqElemsA P (eqA d e) e n xs ys 0 len | _,_=>none
  |some (.slice _) =>
   match x,y with
   | .nils,.nils=>some true
   | .nils,.sl _ _ _ _ _=>some false
   | .nils,.ms _ _ _ _ _=>some false
   | .sl _ _ _ _ _,.nils=>some false
   | .ms _ _ _ _ _,.nils=>some false
   |_,_=>none
  |some (.map _ _) =>
   match x,y with
   | .nilm,.nilm=>some true
   | .nilm,.mp _=>some false
   | .mp _,.nilm=>some false
   |_,_=>none
  |some (.func _ _ _) =>
   match x,y with
   | .nilf,.nilf=>some true
   | .nilf,.fn _ _=>some false
   | .fn _ _,.nilf=>some false
   |_,_=>none
  |_=>none
def intA (op:BinOp) (k:IntKind) (a b:Int):Option AV :=
 match op with
 | .add=>some (.int k (k.wrap (a+b)))
 | .sub=>some (.int k (k.wrap (a - b)))
 | .mul=>some (.int k (k.wrap (a*b)))
 | .quo=>if b=0 then none else some (.int k (k.wrap (a.tdiv b)))
 | .rem=>if b=0 then none else some (.int k (a.tmod b))
 | .and=>some (.int k (bits .and k a b))
 | .or=>some (.int k (bits .or k a b))
 | .xor=>some (.int k (bits .xor k a b))
 | .andNot=>some (.int k (bits .andNot k a b))
 | .eql=>some (.bool (a==b))
 | .neq=>some (.bool (a != b))
 | .lss=>some (.bool (decide (a<b)))
 | .leq=>some (.bool (decide (a≤b)))
 | .gtr=>some (.bool (decide (a>b)))
 | .geq=>some (.bool (decide (a≥b)))
 |_=>none
def shiftA (op:BinOp) (k:IntKind) (a b:Int):Option AV :=
 if b<0 then none else
 match op with
 | .shl=>some (.int k (k.wrap (a*2^min b.toNat k.bits)))
 | .shr=>some (.int k (a.fdiv (2^min b.toNat k.bits)))
 |_=>none
def strA (op:BinOp) (a b:List UInt8):Option AV :=
 match op with
 | .add=>if a.length+b.length≤4611686018427387904 then some (.str (a++b)) else none
 | .eql=>some (.bool (a==b))
 | .neq=>some (.bool (!(a==b)))
 | .lss=>some (.bool (Op.bytesLess a b))
 | .leq=>some (.bool (Op.bytesLess a b||a==b))
 | .gtr=>some (.bool (!(Op.bytesLess a b||a==b)))
 | .geq=>some (.bool (!(Op.bytesLess a b)))
 |_=>none
def guardA (t:TypeId) (k:Bool):AV→AV→Bool
 | .nili,.nili=>k
 | .agg _,.agg _=>!P.eqGuardType P.depth t
 |_,_=>true
def binA (op:BinOp) (t:TypeId) (k:Bool) (x y:AV):Option AV :=
 match x,y with
 | .int ka a,.int kb b =>
  match op with
  | .shl | .shr=>shiftA op ka a b
  |_=>if ka=kb then intA op ka a b else none
 | .str a,.str b=>strA op a b
 |_,_ =>
  match op with
  | .eql=>if guardA P t k x y then (eqA P 10000 t x y).map .bool else none
  | .neq=>if guardA P t k x y then (eqA P 10000 t x y).map fun b=>.bool (!b) else none
  |_=>none
def unA (op:UnOp):AV→Option AV
 | .int k n =>
  match op with
  | .neg=>some (.int k (k.wrap (0 - n)))
  | .xor=>some (.int k (bits .xor k (if k.signed then -1 else k.max) n))
  |_=>none
 | .bool b=>match op with | .not=>some (.bool !b) | _=>none
 |_=>none
def bytesOfRows:List (List AV)→Option (List UInt8)
 |[]=>some []
 |[.int .u8 n]::r=>(bytesOfRows r).map (UInt8.ofNat n.toNat::·)
 |_::_=>none
def convA (st:St) (home:Option (Nat×Bool)) (src dst:TypeId) (x:AV):Option (AV×St) :=
 match P.underlying src,P.underlying dst with
 |some (.pointer t),some .unsafePointer =>
  match x with
  | .nilp=>some (.nilp,st)
  | .bp o c =>
   match st.get o with
   |some (.box _ row)=>if c<row.length then (szOf P t).bind fun n=>if n=0 then none else some (x,st) else none
   |_=>none
  |_=>none
 |some .unsafePointer,some (.pointer u) =>
  match x with
  | .nilp=>some (.nilp,st)
  | .bp o c =>
   match st.get o with
   |some (.box ty row)=>if (szOf P u).isSome∧liesAt P P.depth ty (row.length / P.cellsOf ty) c u 1=true then some (x,st) else none
   |_=>none
  |_=>none
 |some (.int _),some (.int k)=>match x with | .int _ n=>some (.int k (k.wrap n),st) | _=>none
 |some .string,some .string=>match x with | .str _=>some (x,st) | _=>none
 |some .string,some (.slice e) =>
  match x,P.underlying e with
  | .str s,some (.int .u8) =>
   if P.cellsOf e=1 then
    if home.isSome then none else some (.sl 0 (s.map fun b=>[.int .u8 b.toNat]) 0 s.length .no,st)
   else none
  |_,_=>none
 |some (.slice e),some .string =>
  match P.underlying e with
  |some (.int .u8)=>match x with | .str _=>none | _=>(rowsOf st 0 x).bind fun rs=>(bytesOfRows rs).map fun bs=>(.str bs,st)
  |_=>none
 |_,_=>none
def natA:AV→Option Nat
 | .int _ n=>if 0≤n then some n.toNat else none
 |_=>none
def optA:Option AV→Nat→Option Nat
 |none,d=>some d
 |some v,_=>natA v
def msKd (st:St) (o ep:Nat):Option Nat :=
 match st.get o with
 |some (.rows kd ep' _)=>if ep=ep' then some kd else none
 |_=>none
def sliceA (st:St) (t:TypeId) (x:AV) (lo hi mx:Option AV):Option AV :=
 match P.underlying t,x with
 |some .string,.str s =>
  (optA hi s.length).bind fun h=>(optA lo 0).bind fun l=>if mx.isNone∧l≤h∧h≤s.length then some (.str ((s.take h).drop l)) else none
 |some (.slice e),.nils=>(szOf P e).bind fun _=>(optA hi 0).bind fun h=>(optA lo 0).bind fun l=>(optA mx 0).bind fun m=>if h=0∧l=0∧m=0∧(mx.isSome→hi.isSome) then some .nils else none
 |some (.slice e),.sl sz rows off len tok =>
  (kdOf P e).bind fun n =>
  (optA hi len).bind fun h=>(optA lo 0).bind fun l =>
  if sz=n∧l≤h then
   match mx with
   |none=>if off+h≤rows.length then some (.sl sz rows (off+l) (h - l) tok) else none
   |some mv=>(natA mv).bind fun m=>if hi.isSome∧h≤m∧off+m≤rows.length then some (.sl sz (rows.take (off+m)) (off+l) (h - l) (if rows.length=0 then .no else .exact)) else none
  else none
 |some (.slice e),.ms o ep off len cap =>
  (kdOf P e).bind fun n=>(msKd st o ep).bind fun kd =>
  (optA hi len).bind fun h=>(optA lo 0).bind fun l =>
  if kd=n∧l≤h then
   match mx with
   |none=>if h≤cap then some (.ms o ep (off+l) (h - l) (cap - l)) else none
   |some mv=>(natA mv).bind fun m=>if hi.isSome∧h≤m∧m≤cap then some (.ms o ep (off+l) (h - l) (m - l)) else none
  else none
 |_,_=>none
def fieldAddrA (t:TypeId) (x:AV) (f:Nat):Option AV :=
 match P.underlying t with
 |some (.struct fields) =>
  (fields[f]?).bind fun fd=>(szOf P fd.type).bind fun n =>
  if n=0 then none else
  match x with
  | .ip row c=>some (.ip row (c+fd.offset))
  | .bp o c=>some (.bp o (c+fd.offset))
  | .ptr o ep i c=>some (.ptr o ep i (c+fd.offset))
  |_=>none
 |_=>none
def indexAddrA (st:St) (t:TypeId) (x ix:AV):Option AV :=
 (natA ix).bind fun j =>
 match P.underlying t with
 |some (.slice e) =>
  (kdOf P e).bind fun n =>
  match x with
  | .sl sz rows off len _=>if sz=n∧j<len then (rows[off+j]?).map fun row=>.ip row 0 else none
  | .ms o ep off len _=>(msKd st o ep).bind fun kd=>if kd=n∧j<len then some (.ptr o ep (off+j) 0) else none
  |_=>none
 |some (.array len e) =>
  (szOf P e).bind fun n =>
  if j<len then
   match x with
   | .ip row c=>some (.ip row (c+j*n))
   | .bp o c=>some (.bp o (c+j*n))
   | .ptr o ep i c=>some (.ptr o ep i (c+j*n))
   |_=>none
  else none
 |_=>none
def fieldA (t:TypeId) (x:AV) (f:Nat):Option AV :=
 match P.underlying t,x with
 |some (.struct fields),.agg cs=>(fields[f]?).bind fun fd=>partA P fd.type cs fd.offset
 |_,_=>none
def indexA (t:TypeId) (x ix:AV):Option AV :=
 (natA ix).bind fun j =>
 match P.underlying t,x with
 |some (.array len e),.agg cs=>if j<len then (szOf P e).bind fun n=>partA P e cs (j*n) else none
 |some .string,.str s=>(s[j]?).map fun b=>.int .u8 b.toNat
 |_,_=>none
def makeSliceA (st:St) (home:Option (Nat×Bool)) (t:TypeId) (l c:AV):Option (AV×St) :=
 match P.underlying t,l,c with
 |some (.slice e),.int .i64 l,.int .i64 c =>
  (P.info? e).bind fun i=>(kdOf P e).bind fun kd=>(zeroA P e).bind fun z =>
  if 0≤l∧l≤c∧c.toNat*i.bytes≤roomA∧c.toNat≤roomA∧z.cells.length=szk kd∧z.isTup=false then
   match home with
   |some (h,true)=>(homeA st h true kd (List.replicate c.toNat z.cells)).bind fun r=>match r.1 with | .ms o ep off _ cap=>some (.ms o ep off l.toNat cap,r.2) | _=>none
   |some (h,false)=>if l=0 then homeA st h false kd [] else none
   |none=>some (.ms st.length 0 0 l.toNat c.toNat,.rows kd 0 (List.replicate c.toNat z.cells)::st)
  else none
 |_,_,_=>none
def copyA (st:St) (t:TypeId) (d s:AV):Option (AV×St) :=
 match P.underlying t with
 |some (.slice e) =>
  (kdOf P e).bind fun sz =>
  (rowsOf st sz s).bind fun new =>
  match d with
  | .nils=>some (.int .i64 0,st)
  | .ms o ep off len _ =>
   match st.get o with
   |some (.rows sz' ep' rs) =>
    if sz'=sz∧ep=ep'∧off+len≤rs.length then
     some (.int .i64 (min new.length len:Nat),st.put o (.rows sz ep (rs.take off++new.take len++rs.drop (off+min new.length len))))
    else none
   |_=>none
  |_=>none
 |_=>none
def keyOk:Nat→TypeId→AV→Bool
 | 0,_,_=>false
 |d+1,t,a =>
  match P.underlying t with
  |some (.int _) | some .string | some .bool=>true
  |some (.pointer _)=>(match a with | .bp ..=>true | _=>false)
  |some (.struct fs)=>(match a with | .agg cs=>fs.toList.all fun f=>f.name == "_" || (match partA P f.type cs f.offset with | some x=>keyOk d f.type x | none=>false) | _=>false)
  |some (.array n e)=>(match a with | .agg cs=>(match szOf P e with | some z=>(List.range n).all fun i=>(match partA P e cs (i*z) with | some x=>keyOk d e x | none=>false) | none=>false) | _=>false)
  |_=>false
def scalarEq:AV→AV→Bool
 | .bool a,.bool b=>a==b
 | .int k a,.int k' b=>k==k'&&a==b
 | .str a,.str b=>a==b
 | .bp o c,.bp o' c'=>o==o'&&c==c'
 |_,_=>false
def scalarsEq:List AV→List AV→Bool
 |[],[]=>true
 |a::r,b::s=>scalarEq a b&&scalarsEq r s
 |_,_=>false
def keySame:AV→AV→Bool
 | .agg a,.agg b=>scalarsEq a b
 |a,b=>scalarEq a b
def findA (eq:AV→AV→Option Bool) (k:AV):List (AV×AV)→Nat→Option (Option (Nat×AV))
 |[],_=>some none
 |(k',v)::r,i=>(eq k k').bind fun b=>if b then some (some (i,v)) else findA eq k r (i+1)
def keyEqA (st:St) (kt:TypeId) (x y:AV):Option Bool :=
 match x,y with
 | .bp o c,.bp o' c' =>
  match P.underlying kt,st.get o,st.get o' with
  |some (.pointer e),some (.box ..),some (.box ..)=>(szOf P e).bind fun n=>if n=0 then none else some (o==o'&&c==c')
  |_,_,_=>none
 |x,y=>eqA P 10000 kt x y
def lookupA (st:St) (t:TypeId) (x k:AV) (ok:Bool):Option AV :=
 match P.underlying t with
 |some (.map kt e) =>
  if keyOk P 20 kt k then
   (zeroA P e).bind fun z =>
   match x with
   | .nilm=>some (if ok then .tup [z,.bool false] else z)
   | .mp o =>
    match st.get o with
    |some (.amap es) =>
     (findA (keyEqA P st kt) k es 0).map fun r =>
     match r with
     |some (_,v)=>if ok then .tup [v,.bool true] else v
     |none=>if ok then .tup [z,.bool false] else z
    |_=>none
   |_=>none
  else none
 |_=>none
def mapUpdateA (st:St) (t:TypeId) (x k v:AV):Option St :=
 match P.underlying t with
 |some (.map kt _) =>
  if keyOk P 20 kt k then
   match x with
   | .mp o =>
    match st.get o with
    |some (.amap es) =>
     (findA (keyEqA P st kt) k es 0).bind fun r =>
     match r with
     |some (i,_)=>(es[i]?).bind fun old=>if keySame old.1 k then some (st.put o (.amap (es.set i (k,v)))) else none
     |none=>some (st.put o (.amap (es++[(k,v)])))
    |_=>none
   |_=>none
  else none
 |_=>none
def typeAssertA (x:AV) (asserted:TypeId) (ok:Bool):Option AV :=
 match P.underlying asserted,x with
 |some (.interface _),_=>none
 |some _,.iface t v =>
  if t=asserted then some (if ok then .tup [v,.bool true] else v)
  else if ok then (zeroA P asserted).map fun z=>.tup [z,.bool false] else none
 |some _,.nili=>if ok then (zeroA P asserted).map fun z=>.tup [z,.bool false] else none
 |_,_=>none
def lenA (st:St) (t:TypeId) (x:AV):Option AV :=
 match P.underlying t,x with
 |some .string,.str s=>some (.int .i64 s.length)
 |some (.array n _),_=>some (.int .i64 n)
 |some (.slice _),.nils=>some (.int .i64 0)
 |some (.slice _),.sl _ _ _ len _=>some (.int .i64 len)
 |some (.slice _),.ms _ _ _ len _=>some (.int .i64 len)
 |some (.map _ _),.nilm=>some (.int .i64 0)
 |some (.map _ _),.mp o=>match st.get o with | some (.amap es)=>some (.int .i64 es.length) | _=>none
 |_,_=>none
def maxA:AV→List AV→Option AV
 |x,[]=>some x
 | .int k a,.int k' b::r=>if k=k' then maxA (.int k (if b>a then b else a)) r else none
 |_,_=>none
def minA:AV→List AV→Option AV
 |x,[]=>some x
 | .int k a,.int k' b::r=>if k=k' then minA (.int k (if b<a then b else a)) r else none
 |_,_=>none
inductive Res where
 |val (v:AV)
 |skip
 |defer (f:FuncId) (args:List AV)
 |pan (v:AV)
def bytePtr (t:Option TypeId):Bool:=match t.bind P.underlying with | some (.pointer u)=>(match P.underlying u with | some (.int .u8)=>true | _=>false) | _=>false
def sliceDataA (st:St):AV→Option AV
 | .nils=>some .nilp
 | .sl sz rows off len (.spare t ep) =>
  match st.get t with
  |some (.spare ep' n)=>if sz=0∧0<len∧off+len≤rows.length∧ep=ep'∧n=rows.length then some (.dp rows off) else none
  |_=>none
 |_=>none
def unsafeStringA (t:Option TypeId) (p:AV) (n:Int):Option AV :=
 match p with
 | .nilp=>if n=0∧t.isSome then some (.str []) else none
 | .dp rows off=>if 0<n∧n≤9223372036854775807∧off+n.toNat≤rows.length∧bytePtr P t then (bytesOfRows ((rows.drop off).take n.toNat)).map .str else none
 |_=>none
def builtinA (st:St) (home:Option (Nat×Bool)) (b:Builtin) (ts:Array TypeId) (args:List AV):Option (Res×St) :=
 match b,args with
 | .append,[s,x]=>(ts[0]?).bind fun t=>match (ts[1]?).bind P.underlying with
  |some (.int _)=>none
  |none=>none
  |_=>(appendA P st home t s x).map fun r=>(.val r.1,r.2)
 | .len,[x]=>(ts[0]?).bind fun t=>(lenA P st t x).map fun v=>(.val v,st)
 | .copy,[d,s]=>(ts[0]?).bind fun t=>(copyA P st t d s).map fun r=>(.val r.1,r.2)
 | .max,x::r=>(maxA x r).map fun v=>(.val v,st)
 | .min,x::r=>(minA x r).map fun v=>(.val v,st)
 | .unsafeSliceData,[x]=>(sliceDataA st x).map fun v=>(.val v,st)
 | .unsafeString,[p,.int .i64 n]=>(unsafeStringA P (ts[0]?) p n).map fun v=>(.val v,st)
 |_,_=>none
def isConst:Operand→Bool
 | .const _=>true
 |_=>false
def homeOf (H:Hints) (f:FuncId) (ev:Operand→Option AV) (st:St) (base:Nat) (dst:Option Tmp):Option (Nat×Bool) :=
 (dst.bind (H.home f)).bind fun h =>
 match h.1 with
 |none=>some (base+h.2.1,h.2.2)
 |some s=>(ev (.tmp s)).bind fun v=>match v with | .bp o c=>(match st.get o with | some (.box ty _)=>some (o+1+H.cidx ty c,h.2.2) | _=>none) | _=>none
def homesA:Nat→St→St
 | 0,st=>st
 |n+1,st=>homesA n (.free 0::st)
def compOf (H:Hints) (f:FuncId) (dst:Option Tmp):Nat :=
 match dst with
 |some d=>H.comp f d
 |none=>0
variable (H:Hints) (f:FuncId) (ev:Operand→Option AV) (st:St) (base:Nat) (dst:Option Tmp)
def vA (st:St) (v:Option AV):Option (Res×St):=v.map fun v=>(.val v,st)
def vsA (r:Option (AV×St)):Option (Res×St):=r.map fun r=>(.val r.1,r.2)
def usA (r:Option St):Option (Res×St):=r.map fun s=>(.skip,s)
def pickA (c a b:Operand):Option AV:=(ev c).bind fun c=>match c with | .bool true=>ev a | .bool false=>ev b | _=>none
def madeA (t:TypeId) (cells:List AV):AV×St:=(.bp st.length 0,homesA (compOf H f dst) (.box t cells::st))
def allocA (t:TypeId):Option (AV×St):=(zeroA P t).bind fun z=>if z.isTup then none else some (madeA H f st dst t z.cells)
def boxA (t:TypeId) (x:Operand):Option (AV×St):=(ev x).bind fun v=>if v.isTup then none else some (madeA H f st dst t v.cells)
def buildOA (t:TypeId) (ps:Array (Nat×Operand)):Option AV:=(evps ev ps.toList).bind fun ps=>buildA P t ps
def literalA (home:Option (Nat×Bool)) (kd len:Nat) (z:AV) (ps:List (Nat×AV)):Option (AV×St) :=
 if z.cells.length=szk kd∧z.isTup=false∧len*szk kd≤16777216 then
  (rowsPut (szk kd) (List.replicate len z.cells) ps).bind fun rows =>
  match home with
  |some (h,m)=>homeA st h m kd rows
  |none=>some (.sl kd rows 0 len .exact,st)
 else none
def buildSliceA (t:TypeId) (len:Nat) (ps:Array (Nat×Operand)):Option (AV×St) :=
 match P.underlying t with
 |some (.slice e)=>(kdOf P e).bind fun kd=>(zeroA P e).bind fun z=>(evps ev ps.toList).bind fun ps=>literalA st (homeOf H f ev st base dst) kd len z ps
 |_=>none
def storeOA (t:TypeId) (a x:Operand):Option St:=(ev a).bind fun p=>(ev x).bind fun v=>stA P st t p v
def nilCheckA:AV→Option AV
 | .ip r c=>some (.ip r c)
 | .bp o c=>some (.bp o c)
 | .ptr o e i c=>some (.ptr o e i c)
 |_=>none
def binOA (op:BinOp) (t:TypeId) (x y:Operand):Option AV:=(ev x).bind fun a=>(ev y).bind fun b=>binA P op t (isConst x||isConst y) a b
def convOA (s d:TypeId) (x:Operand):Option (AV×St):=(ev x).bind fun a=>convA P st (homeOf H f ev st base dst) s d a
def ifaceA (t:TypeId) (x:Operand):Option AV:=match P.underlying t with | some (.interface _)=>none | some _=>(ev x).map (.iface t) | none=>none
def funcA (fn:Fn) (first cap:Array Operand):Option AV :=
 match fn with
 | .func g=>if spId g then none else if first.size=0 then (evs ev cap.toList).map (.fn g) else none
 |_=>none
def makeSliceOA (t:TypeId) (l c:Operand):Option (AV×St):=(ev l).bind fun l=>(ev c).bind fun c=>makeSliceA P st (homeOf H f ev st base dst) t l c
def sliceOA (t:TypeId) (x:Operand) (lo hi mx:Option Operand):Option AV :=
 (ev x).bind fun x=>(evs ev (lo.toList++hi.toList++mx.toList)).bind fun _=>sliceA P st t x (lo.bind ev) (hi.bind ev) (mx.bind ev)
def lookupOA (t:TypeId) (x k:Operand) (ok:Bool):Option AV:=(ev x).bind fun x=>(ev k).bind fun k=>lookupA P st t x k ok
def mapUpdateOA (t:TypeId) (m k x:Operand):Option St:=(ev m).bind fun m=>(ev k).bind fun k=>(ev x).bind fun x=>mapUpdateA P st t m k x
def rangeA (t:TypeId) (x:AV):Option (AV×St):=match P.underlying t,x with | some .string,.str s=>some (.it st.length,.iter s 0::st) | _,_=>none
def nextA (isStr:Bool) (x:AV):Option (AV×St) :=
 match x,isStr with
 | .it o,true =>
  match st.get o with
  |some (.iter s pos) =>
   if pos<s.length then
    let r:=Utf8.decode ⟨s.toArray⟩ pos
    some (.tup [.bool true,.int .i64 pos,.int .i32 r.1],st.put o (.iter s (pos+r.2)))
   else some (.tup [.bool false],st)
  |_=>none
 |_,_=>none
def extractA (i:Nat) (v:AV):Option AV:=match v with | .tup vs=>vs[i]? | _=>none
def callBA (c:Call):Option (Res×St) :=
 match c.callee with
 | .builtin b=>(evs ev c.args.toList).bind fun args=>builtinA P st (homeOf H f ev st base dst) b c.argTypes args
 | .value (.func g)=>(H.ext g).bind fun F=>(evs ev c.args.toList).bind fun args=>vA st (F args)
 |_=>none
def deferA (c:Call):Option (Res×St) :=
 match c.callee with
 | .value x=>(ev x).bind fun fv=>match fv with
  | .fn g cap=>if spId g then none else (evs ev c.args.toList).map fun args=>(.defer g (args++cap),st)
  |_=>none
 |_=>none
def panicA (v:AV):Option (Res×St):=match v with | .iface t w=>some (.pan (.iface t w),st) | _=>none
def opA (op:Op):Option (Res×St) :=
 match op with
 | .move x | .assign x=>vA st (ev x)
 | .pick c a b=>vA st (pickA ev c a b)
 | .alloc t=>vsA (allocA P H f st dst t)
 | .box t x=>vsA (boxA H f ev st dst t x)
 | .build t ps=>vA st (buildOA P ev t ps)
 | .buildSlice t len ps=>vsA (buildSliceA P H f ev st base dst t len ps)
 | .load t a=>vA st ((ev a).bind (ldA P st t))
 | .store t a x=>usA (storeOA P ev st t a x)
 | .nilCheck x=>vA st ((ev x).bind nilCheckA)
 | .binOp op t x y _=>vA st (binOA P ev op t x y)
 | .unOp op _ x=>vA st ((ev x).bind (unA op))
 | .convert s d x=>vsA (convOA P H f ev st base dst s d x)
 | .makeInterface t x=>vA st (ifaceA P ev t x)
 | .makeFunc fn first cap=>vA st (funcA ev fn first cap)
 | .makeMap _ r=>match r with | none=>some (.val (.mp st.length),.amap []::st) | some _=>none
 | .makeSlice t l c=>vsA (makeSliceOA P H f ev st base dst t l c)
 | .slice t x lo hi mx=>vA st (sliceOA P ev st t x lo hi mx)
 | .fieldAddr t x i=>vA st ((ev x).bind fun x=>fieldAddrA P t x i)
 | .field t x i=>vA st ((ev x).bind fun x=>fieldA P t x i)
 | .indexAddr t x i=>vA st ((ev x).bind fun x=>(ev i).bind (indexAddrA P st t x))
 | .index t x i=>vA st ((ev x).bind fun x=>(ev i).bind (indexA P t x))
 | .lookup t x k ok=>vA st (lookupOA P ev st t x k ok)
 | .mapUpdate t m k x=>usA (mapUpdateOA P ev st t m k x)
 | .insert t m k x=>usA (mapUpdateOA P ev st t m k x)
 | .range t x=>vsA ((ev x).bind (rangeA P st t))
 | .next x isStr=>vsA ((ev x).bind (nextA st isStr))
 | .typeAssert x _ t ok=>vA st ((ev x).bind fun x=>typeAssertA P x t ok)
 | .extract t i=>vA st ((ev t).bind (extractA i))
 | .call c=>callBA P H f ev st base dst c
 | .defer c=>deferA ev st c
 | .panic x=>(ev x).bind (panicA st)
 |_=>none
end ops
section run
variable (P:Program) (H:Hints)
def look (loc env:Env) (t:Nat):Option AV :=
 match Env.get loc t with
 |some v=>some v
 |none=>Env.get env t
def evO (loc env:Env):Operand→Option AV
 | .tmp t=>look loc env t
 | .const v=>ofVal 6 v
 | .global g=>(H.glob g).map fun row=>.ip row 0
 | .func f=>if spId f then none else some (.fn f [])
def undefA:AV:=.tup []
def putD (f:FuncId) (dst:Option Tmp) (v:AV) (loc env:Env):Env×Env :=
 match dst with
 |none=>(loc,env)
 |some d=>if (H.keep f).contains d then (loc,Env.set env d v) else ((d,v)::loc,env)
def wantA (ops:Array Oper) (loc env:Env) (o:Oper):Option Bool :=
 match o.guard with
 |none=>some true
 |some (j,want) =>
  ((ops[j]?).bind (·.dst)).bind fun d=>(look loc env d).bind fun v =>
  match v with
  | .bool b=>some (b==want)
  | .tup []=>some false
  |_=>none
def callOf (ev:Operand→Option AV) (op:Op):Option (Option (FuncId×List AV)) :=
 match op with
 | .call c =>
  match c.callee with
  | .value x =>
   match x with
   | .func g=>if (H.ext g).isSome then none else some (if spId g then none else (evs ev c.args.toList).map fun args=>(g,args))
   |x=>some ((ev x).bind fun fv=>match fv with | .fn g cap=>if (H.ext g).isSome then none else (evs ev c.args.toList).map fun args=>(g,args++cap) | _=>none)
  |_=>none
 |_=>none
def stepV (callF:FuncId→List AV→St→Option (AOut×St)) (f:FuncId) (base:Nat) (o:Oper) (ev:Operand→Option AV) (st:St):Option (Res×St) :=
 match callOf H ev o.op with
 |some none=>none
 |some (some (g,args))=>(callF g args st).map fun r=>match r.1 with | .ret v=>(.val v,r.2) | .pan v=>(.pan v,r.2)
 |none=>opA P H f ev st base o.dst o.op
def stepA (callF:FuncId→List AV→St→Option (AOut×St)) (f:FuncId) (base:Nat) (o:Oper) (loc env:Env) (st:St):Option (Res×St) :=
 stepV P H callF f base o (evO H loc env) st
def landA (f:FuncId) (o:Oper) (r:Res) (loc:Env) (fr:Fr) (st:St):Option (Env×Fr×St) :=
 match r with
 | .val v =>
  match o.dst with
  |none=>some (loc,fr,st)
  |some d=>(if H.frz f d then freezeA st v else some (v,st)).map fun x=>let p:=putD H f (some d) x.1 loc fr.env;(p.1,{fr with env:=p.2},x.2)
 | .skip=>let p:=putD H f o.dst undefA loc fr.env;some (p.1,{fr with env:=p.2},st)
 | .defer g args=>let p:=putD H f o.dst undefA loc fr.env;some (p.1,{env:=p.2,defers:=(g,args)::fr.defers},st)
 | .pan _=>none
def opsA (callF:FuncId→List AV→St→Option (AOut×St)) (f:FuncId) (base:Nat) (ops:Array Oper):List Oper→Env→Fr→St→Option (AX×Fr×St)
 |[],_,fr,st=>some (.normal,fr,st)
 |o::rest,loc,fr,st =>
  (wantA ops loc fr.env o).bind fun w =>
  if w then
   (stepA P H callF f base o loc fr.env st).bind fun r =>
   match r.1 with
   | .pan v=>some (.panic v,fr,r.2)
   |x=>(landA H f o x loc fr r.2).bind fun l=>opsA callF f base ops rest l.1 l.2.1 l.2.2
  else
   let p:=putD H f o.dst undefA loc fr.env
   opsA callF f base ops rest p.1 {fr with env:=p.2} st
def isE:Op→Bool
 | .move _ | .assign _ | .pick .. | .build .. | .load .. | .nilCheck _ | .binOp .. | .unOp .. | .makeInterface .. | .makeFunc .. | .slice .. | .fieldAddr .. | .field ..
 | .indexAddr .. | .index .. | .lookup .. | .typeAssert .. | .extract ..=>false
 | .call c=>match c.callee with | .builtin b=>(match b with | .len | .max | .min | .unsafeSliceData=>false | _=>true) | _=>true
 |_=>true
def isD (H:Hints) (f:FuncId) (dst:Option Tmp) (op:Op):Bool:=match op with
 | .buildSlice ..=>(dst.bind (H.home f)).isSome
 |op=>isE op
def isO (H:Hints) (f:FuncId) (o:Oper):Bool:=isD H f o.dst o.op
def opsD (callF:FuncId→List AV→St→Option (AOut×St)) (f:FuncId) (base:Nat) (ops:Array Oper):List Oper→Env→Fr→St→List St→Nat→Option (AX×Env×Fr×St×List St×Nat)
 |[],loc,fr,st,tr,k=>some (.normal,loc,fr,st,tr,k)
 |o::rest,loc,fr,st,tr,k =>
  (wantA ops loc fr.env o).bind fun w =>
  if w then
   (stepA P H callF f base o loc fr.env st).bind fun r =>
   match r.1 with
   | .pan v=>some (.panic v,loc,fr,r.2,tr,k)
   |x=>(landA H f o x loc fr r.2).bind fun l=>opsD callF f base ops rest l.1 l.2.1 l.2.2 (if isO H f o then l.2.2::tr else tr) (k+1)
  else
   let p:=putD H f o.dst undefA loc fr.env
   opsD callF f base ops rest p.1 {fr with env:=p.2} st (if isO H f o then st::tr else tr) (k+1)
def notMs:AV→Bool
 | .ms ..=>false
 |_=>true
def isIp:AV→Bool
 | .ip ..=>true
 |_=>false
def notMp:AV→Bool
 | .mp _=>false
 |_=>true
def stillOp (ev:Operand→Option AV):Op→Bool
 | .slice _ x _ _ _=>(match ev x with | some v=>notMs v | none=>false)
 | .indexAddr _ x _=>(match ev x with | some v=>notMs v | none=>false)
 | .load _ a=>(match ev a with | some v=>isIp v | none=>false)
 | .call c=>(match c.callee with | .builtin b=>(match b with | .len=>(match c.args.toList with | [x]=>(match ev x with | some v=>notMp v | none=>false) | _=>false) | _=>false) | _=>false)
 |_=>false
def again1 (f:FuncId) (base:Nat) (ops:Array Oper) (loc env:Env) (tr:List St) (k:Nat) (x:Nat×Nat×Nat):Bool :=
 if k≤x.1 then true else
 match ops[x.1]? with
 |none=>false
 |some o =>
  match wantA ops loc env o with
  |some false=>true
  |none=>false
  |some true =>
   if stillOp (evO H loc env) o.op then o.dst.isSome else
   match o.dst.bind (look loc env) with
   |none=>false
   |some v =>
    (List.range tr.length).all fun s =>
     if x.2.1≤s∧s≤x.2.2 then
      match tr[tr.length - 1 - s]? with
      |some st=>(match opA P H f (evO H loc env) st base o.dst o.op with | some (.val v',_)=>AV.beq v v' | _=>false)
      |none=>false
     else true
def ancOf (anc:List Nat) (es:List Edge):Nat:=es.foldl (fun m e=>if Region.binds .any e then (m ||| (1 <<< e.on)) ||| anc.getD e.on 0 else m) 0
def ancsGo:List Oper→List Nat→List Nat
 |[],anc=>anc
 |o::l,anc=>ancsGo l (anc++[ancOf anc o.after.toList])
def ancs (ops:Array Oper):List Nat:=ancsGo ops.toList []
def looksA (H:Hints) (f:FuncId) (o:Oper):List Operand :=
 o.op.operands.toList++(match o.dst.bind (H.home f) with | some (some s,_)=>[.tmp s] | _=>[])
def readsA (H:Hints) (f:FuncId) (ops:Array Oper) (o:Oper):List Nat :=
 ((looksA H f o).filterMap fun x=>match x with | .tmp t=>some t | _=>none)++(match o.guard with | some (j,_)=>((ops[j]?).bind (·.dst)).toList | none=>[])
def seesSt:Op→Bool
 | .load .. | .lookup .. | .indexAddr .. | .slice ..=>true
 | .call c=>(match c.callee with | .builtin b=>(match b with | .len | .unsafeSliceData=>true | _=>false) | _=>false)
 |_=>false
def mayPan:Op→Bool
 | .call _ | .panic _=>true
 |_=>false
def eOf (H:Hints) (f:FuncId) (o:Option Oper):Bool:=match o with | some o=>isO H f o | none=>false
def isFl (H:Hints) (f:FuncId) (ops:Array Oper) (an:List Nat) (k:Nat):Bool :=
 match ops[k]? with
 |some o=>(match o.op with | .alloc _=>true | _=>false)&&o.guard.isNone&&(match o.dst with | some d=>!H.frz f d&&(H.home f d).isNone | none=>false)&&(List.range k).any fun j=>eOf H f (ops[j]?) && !((an.getD k 0).testBit j)
 |none=>false
def putAt (o:Option Oper):Bool:=match o with
 |some o=>(match o.op with | .store ..=>true | _=>false)&&o.guard.isNone&&o.dst.isNone
 |none=>false
def swpOk (H:Hints) (f:FuncId) (id:Nat) (ops:Array Oper) (an:List Nat):Bool:=match H.swp f id with
 |none=>true
 |some (a,b)=>decide (a<b)&&putAt (ops[a]?)&&putAt (ops[b]?)&&(List.range ops.size).all fun i =>
  (!eOf H f (ops[i]?)||i==a||i==b||(decide (i<a)&&(an.getD a 0).testBit i&&(an.getD b 0).testBit i)) &&
  (match (ops[i]?).bind (·.dst) with
   |some t=>(decide (i<a)||(match ops[a]? with | some o=>!(readsA H f ops o).contains t | none=>true))&&(decide (i<b)||(match ops[b]? with | some o=>!(readsA H f ops o).contains t | none=>true))
   |none=>true)
def drawOk1 (H:Hints) (f:FuncId) (id:Nat) (ops:Array Oper) (an:List Nat) (j:Nat) (o:Oper):Bool :=
 let bit:=fun (i k:Nat)=>(an.getD i 0).testBit k
 let ix:=List.range ops.size
 let fl:=isFl H f ops an
 (ix.all fun k=>!fl k||(match (ops[k]?).bind (·.dst) with | some t=>!(readsA H f ops o).contains t||(List.range (k+1)).all fun e=>!eOf H f (ops[e]?)||bit j e | none=>true)) &&
 (o.after.toList.all fun e=>!Region.binds .any e||decide (e.on<j)) &&
 (ix.all fun i=>match (ops[i]?).bind (·.dst) with
  |some t=>(!(readsA H f ops o).contains t||(decide (i<j)&&bit j i)||(decide (j<i)&&bit i j && !seesSt o.op))&&(o.dst != some t||i==j)
  |none=>true) &&
 (if isO H f o then fl j||ix.all fun i=>!decide (i<j) || !eOf H f (ops[i]?)||bit j i||H.swp f id==some (i,j)
 else (match o.dst with | some d=>!H.frz f d | none=>true) &&
  (!seesSt o.op||(ix.all fun i=>!eOf H f (ops[i]?)||bit j i||bit i j||(fl i&&(List.range i).any fun e=>eOf H f (ops[e]?)&&bit e j)) ||
   ((H.recheck f id).any fun x=>x.1==j&&decide (x.2.1≤ix.countP fun i=>eOf H f (ops[i]?)&&(!fl i&&bit j i))&&decide ((ix.countP fun i=>eOf H f (ops[i]?) && !bit i j)≤x.2.2)))) &&
 (!H.pok f id || !(isO H f o&&mayPan o.op)||ix.all fun i=>!decide (j<i)||bit i j)
def drawOk (H:Hints) (f:FuncId) (id:Nat) (ops:Array Oper):Bool :=
 let an:=ancs ops
 swpOk H f id ops an&&(List.range ops.size).all fun j=>match ops[j]? with | some o=>drawOk1 H f id ops an j o | none=>true
def deadR (H:Hints) (f:FuncId) (id:Nat):Bool:=match H.swp f id with
 |some (a,b)=>a==b && !H.pok f id
 |none=>false
def objOf:AV→Option Nat
 | .bp o _=>some o
 | .ptr o _ _ _=>some o
 |_=>none
def lookAt (f:FuncId) (base:Nat) (ops:Array Oper) (loc env:Env) (s:St) (o:Oper):Bool :=
 match wantA ops loc env o with
 |some false=>true
 |none=>false
 |some true =>
  if stillOp (evO H loc env) o.op then o.dst.isSome else
  match o.dst.bind (look loc env) with
  |none=>false
  |some v=>(match opA P H f (evO H loc env) s base o.dst o.op with | some (.val v',_)=>AV.beq v v' | _=>false)
def swapB (f:FuncId) (base id:Nat) (ops:Array Oper) (loc env:Env) (tr:List St):Bool :=
 match H.swp f id with
 |none=>true
 |some (a,b) =>
  match ops[a]?,ops[b]? with
  |some oa,some ob =>
   (match oa.op,ob.op with
   | .store _ xa _,.store tb xb vb =>
    (match (evO H loc env xa).bind objOf,(evO H loc env xb).bind objOf with | some p,some q=>p != q | _,_=>false) &&
    (match (tr[tr.length - 1 - ((List.range a).countP fun i=>eOf H f (ops[i]?))]?).bind fun s=>storeOA P (evO H loc env) s tb xb vb with
     |some s=>(List.range ops.size).all fun j=>match ops[j]? with
      |some o=>isO H f o || !seesSt o.op||((ancs ops).getD b 0).testBit j||((ancs ops).getD j 0).testBit a||lookAt P H f base ops loc env s o
      |none=>true
     |none=>false)
   |_,_=>false)
  |_,_=>false
def regionA (callF:FuncId→List AV→St→Option (AOut×St)) (f:FuncId) (base:Nat) (id:Nat) (ops:Array Oper) (draw:Bool) (fr:Fr) (st:St):Option (AX×Fr×St) :=
 if draw then
  (opsD P H callF f base ops ops.toList [] fr st [st] 0).bind fun r =>
  let ax:=r.1;let loc:=r.2.1;let fr':=r.2.2.1;let st':=r.2.2.2.1;let tr:=r.2.2.2.2.1;let k:=r.2.2.2.2.2
  if (H.recheck f id).all (again1 P H f base ops loc fr'.env tr k) then
   match ax with
   | .panic _=>if H.pok f id then some (ax,{fr' with env:=fr.env.filter fun p=>!(ops.toList.any fun o=>o.dst==some p.1)},st') else none
   |_=>if swapB P H f base id ops loc fr'.env tr then some (ax,fr',st') else none
  else none
 else opsA P H callF f base ops ops.toList [] fr st
inductive Task where
 |code (c:Code)
 |round (body:Code)
 |resume (body rest:Code)
def roundEnd (f:FuncId) (n:Nat) (fr:Fr) (st:St):Option (Fr×St) :=
 if H.loopKeep f||st.length==n then some (fr,st)
 else if St.closed n (st.trunc n)&&fr.defers.all fun d=>AV.closeds n d.2 then some ({fr with env:=fr.env.filter fun p=>AV.closed n p.2},st.trunc n) else none
def regKey:Code→Nat
 | .region id _ _=>id
 | .seq a _=>regKey a
 | .cond _ a _=>regKey a
 | .block _ b=>regKey b
 | .loop b=>regKey b
 | .scope b=>regKey b
 |_=>1000000
def liveF (f:FuncId) (c:Code) (fr:Fr):Fr :=
 match H.live f (regKey c) with
 |none=>fr
 |some l=>{fr with env:=fr.env.filter fun p=>l.contains p.1}
def roundEndL (f:FuncId) (body:Code) (n:Nat) (fr:Fr) (st:St):Option (Fr×St):=(roundEnd H f n fr st).map fun e=>(liveF H f body e.1,e.2)
def Jmp.ax:Option Jmp→AX
 |none=>.normal
 |some .ret=>.ret
 |some (.exit i)=>.exit i
 |some (.goto l)=>.goto l
def AX.jmp:AX→Option (Option Jmp)
 | .normal=>some none
 | .ret=>some (some .ret)
 | .exit i=>some (some (.exit i))
 | .goto l=>some (some (.goto l))
 | .panic _=>none
def busyA (o:Nat) (st:St):Option St:=match st.get o with | some (.loop f base env ps asg body (some none))=>some (st.put o (.loop f base env ps asg body none)) | _=>none
def doneA (o:Nat) (j:Option Jmp) (st:St):Option St:=match st.get o with | some (.loop f base env ps asg body none)=>some (st.put o (.loop f base env ps asg body (some j))) | _=>none
def rangeEnd (keep:Bool) (n:Nat) (st:St):Option (Option Jmp×St) :=
 match st.get (n+1) with
 |some (.loop _ _ _ _ _ _ (some j))=>if keep then some (j,st.put (n+1) (.coll false)) else if St.closed (n+1) (st.trunc (n+1)) then some (j,st.trunc (n+1)) else none
 |_=>none
def rangePan (keep:Bool) (n:Nat) (v:AV) (st:St):Option St:=if keep then some st else if AV.closed (n+1) v&&St.closed (n+1) (st.trunc (n+1)) then some (st.trunc (n+1)) else none
def collA (args:List AV) (st:St):Option St:=match args with | [.bp o 0]=>(match st.get o with | some (.coll true)=>some (st.put o (.coll false)) | _=>none) | _=>none
def putPs:Env→List Nat→List AV→Env
 |env,t::ts,v::vs=>putPs (Env.set env t v) ts vs
 |env,_,_=>env
def plainR:Code→Bool
 | .region _ ops _=>ops.toList.all fun o=>match o.op with | .defer _=>false | _=>true
 | .seq a b=>plainR a&&plainR b
 | .cond _ a b=>plainR a&&plainR b
 | .block _ b=>plainR b
 | .loop b=>plainR b
 | .scope b=>plainR b
 | .rangeFunc ..=>false
 |_=>true
def codeOk (H:Hints) (f:FuncId) (nt:Nat):Code→Bool
 | .region id ops d=>(ops.toList.all fun o=>match o.dst with | some d=>decide (d<nt) | none=>true)&&(!d||deadR H f id||drawOk H f id ops)
 | .seq a b=>codeOk H f nt a&&codeOk H f nt b
 | .cond _ a b=>codeOk H f nt a&&codeOk H f nt b
 | .block _ b=>codeOk H f nt b
 | .loop b=>codeOk H f nt b
 | .rangeFunc _ _ a b=>codeOk H f nt a&&codeOk H f nt b
 | .scope b=>codeOk H f nt b
 |_=>true
def slotsOk (H:Hints) (f:FuncId):Env→Bool
 |[]=>true
 |(s,_)::r=>(H.keep f).contains s&&(r.all fun p=>decide (s<p.1))&&slotsOk H f r
def loopOk (P:Program) (H:Hints) (f:FuncId) (env:Env) (ps:List Nat) (asg body:Code):Bool :=
 match P.funcs[f]? with
 |some fn=>slotsOk H f env&&(ps.all fun t=>decide (t<fn.ntmps)&&(H.keep f).contains t)&&codeOk H f fn.ntmps asg&&codeOk H f fn.ntmps body&&plainR asg&&plainR body
 |none=>false
def execA (callF:FuncId→List AV→St→Option (AOut×St)) (again:Task→Fr→St→Option (AX×Fr×St)) (f:FuncId) (base:Nat):Code→Fr→St→Option (AX×Fr×St)
 | .skip,fr,st=>some (.normal,fr,st)
 | .label _,fr,st=>some (.normal,fr,st)
 | .region id ops draw,fr,st=>regionA P H callF f base id ops draw fr st
 | .seq a b,fr,st =>
  (execA callF again f base a fr st).bind fun r=>match r.1 with | .normal=>execA callF again f base b (liveF H f b r.2.1) r.2.2 | _=>some r
 | .cond c a b,fr,st =>
  (evO H [] fr.env c).bind fun v=>match v with | .bool t=>if t then execA callF again f base a fr st else execA callF again f base b fr st | _=>none
 | .block id body,fr,st =>
  (execA callF again f base body fr st).map fun r=>match r.1 with | .exit i=>if i=id then (.normal,r.2) else r | _=>r
 | .loop body,fr,st =>
  (execA callF again f base body fr st).bind fun r=>match r.1 with
   | .normal=>(roundEndL H f body st.length r.2.1 r.2.2).bind fun e=>again (.round body) e.1 e.2
   |_=>some r
 | .scope body,fr,st =>
  (execA callF again f base body fr st).bind fun r=>match r.1 with
   | .goto l=>match findLabel body l with | some rest=>again (.resume body rest) r.2.1 r.2.2 | none=>some r
   |_=>some r
 | .exit id,fr,st=>some (.exit id,fr,st)
 | .goto l,fr,st=>some (.goto l,fr,st)
 | .ret,fr,st=>some (.ret,fr,st)
 | .rangeFunc g ps asg body,fr,st =>
  (evO H [] fr.env g).bind fun v=>match v with
   | .fn h cap=>if spId h then none else
    (callF h (.fn yieldId [.bp (st.length+1) 0]::cap) (.loop f base (liveF H f asg fr).env ps.toList asg body (some none)::.coll true::st)).bind fun r =>
    let fr':Fr:={fr with defers:=(collId,[.bp st.length 0])::fr.defers}
    match r.1 with
    | .ret _=>(rangeEnd (H.loopKeep f) st.length r.2).map fun e=>(Jmp.ax e.1,fr',e.2)
    | .pan v=>(rangePan (H.loopKeep f) st.length v r.2).map fun s=>(.panic v,fr',s)
   |_=>none
 | .refuse _,_,_=>none
def taskA (callF:FuncId→List AV→St→Option (AOut×St)) (again:Task→Fr→St→Option (AX×Fr×St)) (f:FuncId) (base:Nat):Task→Fr→St→Option (AX×Fr×St)
 | .code c,fr,st=>execA P H callF again f base c fr st
 | .round body,fr,st=>execA P H callF again f base (.loop body) fr st
 | .resume body rest,fr,st =>
  (execA P H callF again f base rest fr st).bind fun r=>match r.1 with
   | .goto l=>match findLabel body l with | some rest=>again (.resume body rest) r.2.1 r.2.2 | none=>some r
   |_=>some r
inductive AMode where
 |ret
 |pan (v:AV)
 |recd (v:AV)
def settleA:AMode→AMode
 | .recd _=>.ret
 |m=>m
def noY (callF:FuncId→List AV→St→Option (AOut×St)):FuncId→List AV→St→Option (AOut×St):=fun g args st=>if g=yieldId then none else callF g args st
def opsS (callF:FuncId→List AV→St→Option (AOut×St)) (f:FuncId) (base:Nat) (ops:Array Oper):List Oper→Env→Fr→St→AMode→Option (AX×Fr×St×AMode)
 |[],_,fr,st,m=>some (.normal,fr,st,m)
 |o::rest,loc,fr,st,m =>
  (wantA ops loc fr.env o).bind fun w =>
  if w then
   match o.op with
   | .call {callee:=.builtin .recover,..} =>
    match m with
    | .pan v=>let p:=putD H f o.dst v loc fr.env;opsS callF f base ops rest p.1 {fr with env:=p.2} st (.recd v)
    |m=>let p:=putD H f o.dst .nili loc fr.env;opsS callF f base ops rest p.1 {fr with env:=p.2} st m
   |_ =>
    (stepA P H (noY callF) f base o loc fr.env st).bind fun r =>
    match r.1 with
    | .pan v=>some (.panic v,fr,r.2,m)
    |x=>(landA H f o x loc fr r.2).bind fun l=>opsS callF f base ops rest l.1 l.2.1 l.2.2 m
  else
   let p:=putD H f o.dst undefA loc fr.env
   opsS callF f base ops rest p.1 {fr with env:=p.2} st m
def execS (callF:FuncId→List AV→St→Option (AOut×St)) (again:Task→Fr→St→Option (AX×Fr×St)) (f:FuncId) (base:Nat):Code→Fr→St→AMode→Option (AX×Fr×St×AMode)
 | .region id ops draw,fr,st,m =>
  if draw then (regionA P H callF f base id ops draw fr st).map fun r=>(r.1,r.2.1,r.2.2,m)
  else opsS P H callF f base ops ops.toList [] fr st m
 | .seq a b,fr,st,m =>
  (execS callF again f base a fr st m).bind fun r=>match r.1 with | .normal=>execS callF again f base b r.2.1 r.2.2.1 r.2.2.2 | _=>some r
 | .cond c a b,fr,st,m =>
  (evO H [] fr.env c).bind fun v=>match v with | .bool t=>if t then execS callF again f base a fr st m else execS callF again f base b fr st m | _=>none
 |c,fr,st,m=>(execA P H callF again f base c fr st).map fun r=>(r.1,r.2.1,r.2.2,m)
def resultsA (env:Env) (st:St):List ResultVar→Option (List AV)
 |[]=>some []
 | .tmp t::r=>(Env.get env t).bind fun v=>(resultsA env st r).map (v::·)
 | .cell a t::r=>(Env.get env a).bind fun p=>(ldA P st t p).bind fun v=>(resultsA env st r).map (v::·)
def entry (args:List AV):Env:=args.zipIdx.map fun p=>(p.2,p.1)
def outA (f:FuncId) (n:Nat) (r:AOut) (st:St):Option (AOut×St) :=
 if H.keepObj f||st.length==n then some (r,st) else
 match r with
 | .ret v=>let v':=AV.stripR n v;if AV.closed n v'&&St.closed n (st.trunc n) then some (.ret v',st.trunc n) else none
 | .pan v=>if AV.closed n v&&St.closed n (st.trunc n) then some (.pan v,st.trunc n) else none
def leaveA (callD:FuncId→List AV→St→AMode→Option (AOut×St×AMode)) (fn:Func) (env:Env):List (FuncId×List AV)→AMode→St→Option (AOut×St)
 |[],.ret,st=>(resultsA P env st fn.results.toList).map fun vs=>(.ret (match vs with | [v]=>v | vs=>.tup vs),st)
 |[],.pan v,st=>some (.pan v,st)
 |[],.recd _,_=>none
 |(g,args)::ds,m,st =>
  if g=collId then (collA args st).bind fun s=>leaveA callD fn env ds m s else
  (callD g args st m).bind fun r =>
  match r.1 with
  | .ret _=>leaveA callD fn env ds (settleA r.2.2) r.2.1
  | .pan v=>match r.2.2 with | .ret=>leaveA callD fn env ds (.pan v) r.2.1 | _=>none
def callDA (callF:FuncId→List AV→St→Option (AOut×St)) (again:FuncId→Nat→Task→Fr→St→Option (AX×Fr×St)) (g:FuncId) (args:List AV) (st:St) (m:AMode):Option (AOut×St×AMode) :=
 (P.funcs[g]?).bind fun fn=>fn.body.bind fun c =>
 if args.length≤fn.params.size+fn.nfree∧(H.prim g).isNone=true then
 let base:=st.length
 (if H.recov g then execS P H callF (again g base) g base c ⟨entry args,[]⟩ (homesA (H.homes g) st) m
  else (execA P H callF (again g base) g base c ⟨entry args,[]⟩ (homesA (H.homes g) st)).map fun r=>(r.1,r.2.1,r.2.2,m)).bind fun r =>
 if r.2.1.defers.isEmpty then
  (match r.1 with
   | .normal | .ret=>(resultsA P r.2.1.env r.2.2.1 fn.results.toList).map fun vs=>AOut.ret (match vs with | [v]=>v | vs=>.tup vs)
   | .panic v=>some (AOut.pan v)
   |_=>none).bind fun o=>(outA H g base o r.2.2.1).map fun (x:AOut×St)=>(x.1,x.2,r.2.2.2)
 else none
 else none
def roundB (callF:FuncId→List AV→St→Option (AOut×St)) (again:FuncId→Nat→Task→Fr→St→Option (AX×Fr×St)) (o:Nat) (f:FuncId) (base:Nat) (env:Env) (ps:List Nat) (asg body:Code) (vals:List AV) (st:St):Option (AOut×St) :=
 if vals.length=ps.length∧loopOk P H f env ps asg body=true then
  (execA P H callF (again f base) f base asg ⟨putPs env ps vals,[]⟩ st).bind fun r=>match r.1 with
   | .normal=>(busyA o r.2.2).bind fun s =>
    (execA P H callF (again f base) f base body (liveF H f body r.2.1) s).bind fun q=>(AX.jmp q.1).bind fun j=>(doneA o j q.2.2).bind fun s'=>outA H f st.length (.ret (.bool j.isNone)) s'
   |_=>none
 else none
def yieldA (callF:FuncId→List AV→St→Option (AOut×St)) (again:FuncId→Nat→Task→Fr→St→Option (AX×Fr×St)) (args:List AV) (st:St):Option (AOut×St) :=
 match args.reverse with
 | .bp o 0::vals =>
  match st.get o with
  |some (.loop f base env ps asg body (some none))=>roundB P H callF again o f base env ps asg body vals.reverse st
  |_=>none
 |_=>none
def callA (callF:FuncId→List AV→St→Option (AOut×St)) (again:FuncId→Nat→Task→Fr→St→Option (AX×Fr×St)) (g:FuncId) (args:List AV) (st:St):Option (AOut×St) :=
 if g=yieldId then yieldA P H callF again args st else
 match H.prim g with
 |some F=>F args st
 |none =>
  (P.funcs[g]?).bind fun fn=>fn.body.bind fun c =>
  if args.length≤fn.params.size+fn.nfree then
  let base:=st.length
  (execA P H callF (again g base) g base c ⟨entry args,[]⟩ (homesA (H.homes g) st)).bind fun r =>
  (match r.1 with
   | .normal | .ret=>leaveA P (callDA P H callF again) fn r.2.1.env r.2.1.defers .ret r.2.2
   | .panic v=>leaveA P (callDA P H callF again) fn r.2.1.env r.2.1.defers (.pan v) r.2.2
   |_=>none).bind fun o=>outA H g base o.1 o.2
  else none
def levels:Nat→(FuncId→List AV→St→Option (AOut×St))×(FuncId→Nat→Task→Fr→St→Option (AX×Fr×St))
 | 0=>(fun _ _ _=>none,fun _ _ _ _ _=>none)
 |n+1=>(callA P H (levels n).1 (levels n).2,fun f base=>taskA P H (levels n).1 ((levels n).2 f base) f base)
def callN (n:Nat):FuncId→List AV→St→Option (AOut×St):=(levels P H n).1
def runN (n:Nat):FuncId→Nat→Task→Fr→St→Option (AX×Fr×St):=(levels P H n).2
end run
end Go.Abs
namespace Go.Abs
open Go
end Go.Abs
namespace Go.Abs
open Go Go.RowKit
structure Gh where
 I:Nat→Nat→Option Value
 sh:Nat→Option (TypeId×Nat)
 R:Nat→Nat→Option (Nat×Nat×Nat)
 B:Nat→Option Nat
 L:Nat→Nat→Nat→Option (Nat×Nat)
 lo:Nat
 K:Nat→Option Obj:=fun _=>none
structure Gh.Le (σ τ:Gh):Prop where
 I:∀b i v,σ.I b i=some v→τ.I b i=some v
 sh:∀b x,σ.sh b=some x→τ.sh b=some x
 R:∀o e x,σ.R o e=some x→τ.R o e=some x
 B:∀o x,σ.B o=some x→τ.B o=some x
 L:∀t e n x,σ.L t e n=some x→τ.L t e n=some x
 lo:σ.lo=τ.lo
 K:∀b x,σ.K b=some x→τ.K b=some x
theorem Gh.Le.refl (σ:Gh):σ.Le σ:=⟨fun _ _ _ h=>h,fun _ _ h=>h,fun _ _ _ h=>h,fun _ _ h=>h,fun _ _ _ _ h=>h,rfl,fun _ _ h=>h⟩
theorem Gh.Le.trans {σ τ υ:Gh} (h:σ.Le τ) (k:τ.Le υ):σ.Le υ :=
 ⟨fun _ _ _ x=>k.I _ _ _ (h.I _ _ _ x),fun _ _ x=>k.sh _ _ (h.sh _ _ x),fun _ _ _ x=>k.R _ _ _ (h.R _ _ _ x),fun _ _ x=>k.B _ _ (h.B _ _ x),fun _ _ _ _ x=>k.L _ _ _ _ (h.L _ _ _ _ x),h.lo.trans k.lo,fun _ _ x=>k.K _ _ (h.K _ _ x)⟩
def TokOk (σ:Gh) (b o0 kd n off c:Nat):Tok→Prop
 | .no=>True
 | .exact=>n=off+c
 | .spare t ep=>σ.L t ep n=some (b,o0+n*szk kd)
def ByteT (P:Program) (e:TypeId):Prop:=P.underlying e=some (.int .u8)∧P.cellsOf e=1
def Shaped (P:Program) (σ:Gh) (b kd last:Nat):Prop:=∃e n,σ.sh b=some (e,n)∧last≤n∧(kd=0→ByteT P e)
def Tok.isSpare:Tok→Bool
 | .spare _ _=>true
 |_=>false
def ShapedS (P:Program) (σ:Gh) (b kd last:Nat) (sp:Bool):Prop:=last=0∨∃e n,σ.sh b=some (e,n)∧last≤n∧(sp=true→kd=0→ByteT P e)
theorem ShapedS.get {P:Program} {σ:Gh} {b kd last:Nat} (h:ShapedS P σ b kd last true) (hl:0<last):Shaped P σ b kd last:=by
 obtain ⟨e,n,h1,h2,h3⟩:=h.resolve_left (by omega)
 exact ⟨e,n,h1,h2,h3 rfl⟩
theorem ShapedS.le {P:Program} {σ:Gh} {b kd l l':Nat} {sp:Bool} (h:ShapedS P σ b kd l sp) (hl:l'≤l):ShapedS P σ b kd l' sp:=by
 rcases h with h | ⟨e,n,h1,h2,h3⟩
 ·exact .inl (by omega)
 ·exact .inr ⟨e,n,h1,Nat.le_trans hl h2,h3⟩
theorem ShapedS.weak {P:Program} {σ:Gh} {b kd l:Nat} {sp:Bool} (h:ShapedS P σ b kd l sp):ShapedS P σ b kd l false:=h.imp id fun ⟨e,n,h1,h2,_⟩=>⟨e,n,h1,h2,fun h=>by cases h⟩
theorem Shaped.s {P:Program} {σ:Gh} {b kd l:Nat} {sp:Bool} (h:Shaped P σ b kd l):ShapedS P σ b kd l sp:=by
 obtain ⟨e,n,h1,h2,h3⟩:=h
 exact .inr ⟨e,n,h1,h2,fun _=>h3⟩
inductive Rep (P:Program) (σ:Gh):Value→AV→Prop where
 |bool (b:Bool):Rep P σ (.bool b) (.bool b)
 |int (k:IntKind) (n:Int):Rep P σ (.int k n) (.int k n)
 |str (s:ByteArray):Rep P σ (.string s) (.str s.data.toList)
 |nilp:Rep P σ (.pointer none) .nilp
 |nilm:Rep P σ (.map none) .nilm
 |nilf:Rep P σ .nilFunc .nilf
 |nili:Rep P σ .nilIface .nili
 |nils:Rep P σ (.slice none 0 0) .nils
 |agg (cs:Array Value) (as:List AV) (hs:cs.size=as.length) (h1:∀(j:Nat) v,cs[j]?=some v→v.oneCell'=true) (h:∀(j:Nat) v a,cs[j]?=some v→as[j]?=some a→Rep P σ v a):Rep P σ (.agg cs) (.agg as)
 |tup (cs:Array Value) (as:List AV) (hs:cs.size=as.length) (h:∀(j:Nat) v a,cs[j]?=some v→as[j]?=some a→Rep P σ v a):Rep P σ (.tuple cs) (.tup as)
 |sl (b o o0 len c kd:Nat) (rows:List (List AV)) (off:Nat) (tok:Tok) (hlen:off+len≤rows.length) (hrow:∀r ∈ rows,r.length=szk kd) (hc:rows.length≤off+c)
   (ho:0<c→o=o0+off*szk kd) (hsh:ShapedS P σ b kd (max (o0+rows.length*szk kd) (if c=0 then 0 else o+c*szk kd)) tok.isSpare) (htok:TokOk σ b o0 kd rows.length off c tok)
   (hI:∀(i:Nat) r (j:Nat) a,rows[i]?=some r→r[j]?=some a→(σ.I b (o0+i*szk kd+j)).isSome=true)
   (hR:∀(i:Nat) r (j:Nat) a v,rows[i]?=some r→r[j]?=some a→σ.I b (o0+i*szk kd+j)=some v→Rep P σ v a) :
   Rep P σ (.slice (some ⟨b,o,none⟩) len c) (.sl kd rows off len tok)
 |ms (b base kd oo o ep off len c cap:Nat) (hR:σ.R o ep=some (b,base,kd)) (hcap:cap≤c) (hlen:len≤cap) (ho:0<c→oo=base+off*szk kd)
   (hsh:Shaped P σ b kd (if c=0 then 0 else oo+c*szk kd)):Rep P σ (.slice (some ⟨b,oo,none⟩) len c) (.ms o ep off len cap)
 |ip (b x:Nat) (row:List AV) (c:Nat) (hI:∀(j:Nat) a,row[j]?=some a→(σ.I b (x+j)).isSome=true) (hR:∀(j:Nat) a v,row[j]?=some a→σ.I b (x+j)=some v→Rep P σ v a) :
   Rep P σ (.pointer (some ⟨b,x+c,none⟩)) (.ip row c)
 |ptr (b base kd o ep i c:Nat) (hR:σ.R o ep=some (b,base,kd)):Rep P σ (.pointer (some ⟨b,base+i*szk kd+c,none⟩)) (.ptr o ep i c)
 |bp (b o c:Nat) (hB:σ.B o=some b):Rep P σ (.pointer (some ⟨b,c,none⟩)) (.bp o c)
 |fn (f:FuncId) (cs:Array Value) (as:List AV) (hsp:spId f=false) (hs:cs.size=as.length) (h:∀(j:Nat) v a,cs[j]?=some v→as[j]?=some a→Rep P σ v a):Rep P σ (.func (.func f) #[] cs) (.fn f as)
 |iface (t:TypeId) (v:Value) (a:AV) (h:Rep P σ v a):Rep P σ (.iface t v) (.iface t a)
 |mp (b o:Nat) (hB:σ.B o=some b):Rep P σ (.map (some b)) (.mp o)
 |it (b o:Nat) (hB:σ.B o=some b):Rep P σ (.pointer (some ⟨b,0,none⟩)) (.it o)
 |dp (b o0:Nat) (rows:List (List AV)) (off:Nat) (hlo:σ.lo≤b) (hrow:∀r ∈ rows,r.length=1) (hsh:Shaped P σ b 0 (o0+rows.length))
   (hI:∀(i:Nat) r (j:Nat) a,rows[i]?=some r→r[j]?=some a→(σ.I b (o0+i+j)).isSome=true)
   (hR:∀(i:Nat) r (j:Nat) a v,rows[i]?=some r→r[j]?=some a→σ.I b (o0+i+j)=some v→Rep P σ v a) :
   Rep P σ (.pointer (some ⟨b,o0+off,none⟩)) (.dp rows off)
 |slz (a:Addr) (kd:Nat):Rep P σ (.slice (some a) 0 0) (.sl kd [] 0 0 .no)
 |yld (b o:Nat) (hB:σ.B o=some b):Rep P σ (.func (.yield b) #[] #[]) (.fn yieldId [.bp o 0])
theorem Shaped.mono {P:Program} {σ τ:Gh} {b kd l:Nat} (h:Shaped P σ b kd l) (hl:σ.Le τ):Shaped P τ b kd l:=by
 obtain ⟨e,n,h1,h2⟩:=h
 exact ⟨e,n,hl.sh _ _ h1,h2⟩
theorem ShapedS.mono {P:Program} {σ τ:Gh} {b kd l:Nat} {sp:Bool} (h:ShapedS P σ b kd l sp) (hl:σ.Le τ):ShapedS P τ b kd l sp:=h.imp id fun ⟨e,n,h1,h2⟩=>⟨e,n,hl.sh _ _ h1,h2⟩
theorem TokOk.mono {σ τ:Gh} {b o0 kd n off c:Nat} {t:Tok} (h:TokOk σ b o0 kd n off c t) (hl:σ.Le τ):TokOk τ b o0 kd n off c t:=by
 cases t with
 |no=>trivial
 |exact=>exact h
 |spare t ep=>exact hl.L _ _ _ _ h
theorem Gh.Le.I_eq {σ τ:Gh} (hl:σ.Le τ) {b i:Nat} (h:(σ.I b i).isSome=true) {v:Value} (hv:τ.I b i=some v):σ.I b i=some v:=by
 obtain ⟨u,hu⟩:=Option.isSome_iff_exists.1 h
 have:=hl.I _ _ _ hu
 rw [hv] at this
 rw [hu,this]
theorem Gh.Le.I_some {σ τ:Gh} (hl:σ.Le τ) {b i:Nat} (h:(σ.I b i).isSome=true):(τ.I b i).isSome=true:=by
 obtain ⟨u,hu⟩:=Option.isSome_iff_exists.1 h
 rw [hl.I _ _ _ hu];rfl
theorem Rep.mono {P:Program} {σ τ:Gh} (hl:σ.Le τ) {v:Value} {a:AV} (h:Rep P σ v a):Rep P τ v a:=by
 induction h with
 |bool b=>exact .bool b
 |int k n=>exact .int k n
 |str s=>exact .str s
 |nilp=>exact .nilp
 |nilm=>exact .nilm
 |nilf=>exact .nilf
 |nili=>exact .nili
 |nils=>exact .nils
 |slz a kd=>exact .slz a kd
 |agg cs as hs h1 _ ih=>exact .agg cs as hs h1 ih
 |tup cs as hs _ ih=>exact .tup cs as hs ih
 |sl b o o0 len c kd rows off tok hlen hrow hc ho hsh htok hI _ ih =>
  exact .sl b o o0 len c kd rows off tok hlen hrow hc ho (hsh.mono hl) (htok.mono hl) (fun i r j a h1 h2=>hl.I_some (hI i r j a h1 h2))
   (fun i r j a v h1 h2 h3=>ih i r j a v h1 h2 (hl.I_eq (hI i r j a h1 h2) h3))
 |ms b base kd oo o ep off len c cap hR hcap hlen ho hsh=>exact .ms b base kd oo o ep off len c cap (hl.R _ _ _ hR) hcap hlen ho (hsh.mono hl)
 |ip b x row c hI _ ih=>exact .ip b x row c (fun j a h1=>hl.I_some (hI j a h1)) (fun j a v h1 h2=>ih j a v h1 (hl.I_eq (hI j a h1) h2))
 |ptr b base kd o ep i c hR=>exact .ptr b base kd o ep i c (hl.R _ _ _ hR)
 |bp b o c hB=>exact .bp b o c (hl.B _ _ hB)
 |fn f cs as hsp hs _ ih=>exact .fn f cs as hsp hs ih
 |yld b o hB=>exact .yld b o (hl.B _ _ hB)
 |iface t v a _ ih=>exact .iface t v a ih
 |mp b o hB=>exact .mp b o (hl.B _ _ hB)
 |it b o hB=>exact .it b o (hl.B _ _ hB)
 |dp b o0 rows off hlo hrow hsh hI _ ih =>
  exact .dp b o0 rows off (hl.lo▸hlo) hrow (hsh.mono hl) (fun i r j a h1 h2=>hl.I_some (hI i r j a h1 h2)) (fun i r j a v h1 h2 h3=>ih i r j a v h1 h2 (hl.I_eq (hI i r j a h1 h2) h3))
def Gh.trunc (σ:Gh) (n:Nat):Gh :=
 {I:=σ.I,sh:=σ.sh,R:=fun o e=>if o<n then σ.R o e else none,B:=fun o=>if o<n then σ.B o else none,L:=fun t e k=>if t<n then σ.L t e k else none,lo:=σ.lo,K:=σ.K}
theorem AV.closeds_at {n:Nat}:∀{l:List AV} {j:Nat} {a:AV},AV.closeds n l=true→l[j]?=some a→AV.closed n a=true
 |[],_,_,_,h=>by simp at h
 |x::r,0,a,h,hj=>by
  simp only [AV.closeds,Bool.and_eq_true] at h
  simp at hj;subst hj;exact h.1
 |x::r,j+1,a,h,hj=>by
  simp only [AV.closeds,Bool.and_eq_true] at h
  exact AV.closeds_at h.2 (by simpa using hj)
theorem AV.closedss_at {n:Nat}:∀{l:List (List AV)} {j:Nat} {a:List AV},AV.closedss n l=true→l[j]?=some a→AV.closeds n a=true
 |[],_,_,_,h=>by simp at h
 |x::r,0,a,h,hj=>by
  simp only [AV.closedss,Bool.and_eq_true] at h
  simp at hj;subst hj;exact h.1
 |x::r,j+1,a,h,hj=>by
  simp only [AV.closedss,Bool.and_eq_true] at h
  exact AV.closedss_at h.2 (by simpa using hj)
theorem Rep.trunc {P:Program} {σ:Gh} {n:Nat} {v:Value} {a:AV} (h:Rep P σ v a):AV.closed n a=true→Rep P (σ.trunc n) v a:=by
 induction h with
 |bool b=>exact fun _=>.bool b
 |int k n=>exact fun _=>.int k n
 |str s=>exact fun _=>.str s
 |nilp=>exact fun _=>.nilp
 |nilm=>exact fun _=>.nilm
 |nilf=>exact fun _=>.nilf
 |nili=>exact fun _=>.nili
 |nils=>exact fun _=>.nils
 |slz a kd=>exact fun _=>.slz a kd
 |agg cs as hs h1 _ ih=>exact fun hc=>.agg cs as hs h1 fun j v a h1 h2=>ih j v a h1 h2 (AV.closeds_at (by simpa [AV.closed] using hc) h2)
 |tup cs as hs _ ih=>exact fun hc=>.tup cs as hs fun j v a h1 h2=>ih j v a h1 h2 (AV.closeds_at (by simpa [AV.closed] using hc) h2)
 |sl b o o0 len c kd rows off tok hlen hrow hc ho hsh htok hI _ ih =>
  intro hcl
  simp only [AV.closed,Bool.and_eq_true] at hcl
  refine .sl b o o0 len c kd rows off tok hlen hrow hc ho hsh ?_ hI (fun i r j a v h1 h2 h3=>ih i r j a v h1 h2 h3 (AV.closeds_at (AV.closedss_at hcl.1 h1) h2))
  cases tok with
  |no=>trivial
  |exact=>exact htok
  |spare t ep =>
   have ht:t<n:=by simpa using hcl.2
   show (if t<n then _ else _)=_
   rw [if_pos ht];exact htok
 |ms b base kd oo o ep off len c cap hR hcap hlen ho hsh =>
  intro hcl
  have ht:o<n:=by simpa [AV.closed] using hcl
  exact .ms b base kd oo o ep off len c cap (by show (if o<n then _ else _)=_;rw [if_pos ht];exact hR) hcap hlen ho hsh
 |ip b x row c hI _ ih=>exact fun hcl=>.ip b x row c hI (fun j a v h1 h2=>ih j a v h1 h2 (AV.closeds_at (by simpa [AV.closed] using hcl) h1))
 |ptr b base kd o ep i c hR =>
  intro hcl
  have ht:o<n:=by simpa [AV.closed] using hcl
  exact .ptr b base kd o ep i c (by show (if o<n then _ else _)=_;rw [if_pos ht];exact hR)
 |bp b o c hB =>
  intro hcl
  have ht:o<n:=by simpa [AV.closed] using hcl
  exact .bp b o c (by show (if o<n then _ else _)=_;rw [if_pos ht];exact hB)
 |fn f cs as hsp hs _ ih=>exact fun hc=>.fn f cs as hsp hs fun j v a h1 h2=>ih j v a h1 h2 (AV.closeds_at (by simpa [AV.closed] using hc) h2)
 |yld b o hB =>
  intro hcl
  have ht:o<n:=by simpa [AV.closed,AV.closeds] using hcl
  exact .yld b o (by show (if o<n then _ else _)=_;rw [if_pos ht];exact hB)
 |iface t v a _ ih=>exact fun hc=>.iface t v a (ih (by simpa [AV.closed] using hc))
 |mp b o hB =>
  intro hcl
  have ht:o<n:=by simpa [AV.closed] using hcl
  exact .mp b o (by show (if o<n then _ else _)=_;rw [if_pos ht];exact hB)
 |it b o hB =>
  intro hcl
  have ht:o<n:=by simpa [AV.closed] using hcl
  exact .it b o (by show (if o<n then _ else _)=_;rw [if_pos ht];exact hB)
 |dp b o0 rows off hlo hrow hsh hI _ ih =>
  exact fun hcl=>.dp b o0 rows off hlo hrow hsh hI fun i r j a v h1 h2 h3=>ih i r j a v h1 h2 h3 (AV.closeds_at (AV.closedss_at (by simpa [AV.closed] using hcl) h1) h2)
theorem St.get_lt {st:St} {o:Nat} {x:AObj} (h:st.get o=some x):o<st.length:=by
 unfold St.get at h;split at h
 ·assumption
 ·simp at h
theorem St.get_cons (x:AObj) (st:St) (o:Nat):St.get (x::st) o=if o=st.length then some x else St.get st o:=by
 unfold St.get
 by_cases h:o=st.length
 ·subst h;simp
 ·rw [if_neg h]
  by_cases h':o<st.length
  ·have e:(x::st).length - 1 - o=(st.length - 1 - o)+1:=by simp;omega
   rw [if_pos (by simp;omega),if_pos h',e];simp
  ·rw [if_neg (by simp;omega),if_neg h']
@[simp] theorem St.length_put (st:St) (o:Nat) (x:AObj):(St.put st o x).length=st.length:=by
 unfold St.put;split<;>simp
theorem St.get_put (st:St) (o p:Nat) (x:AObj):St.get (St.put st o x) p=if p=o∧o<st.length then some x else St.get st p:=by
 unfold St.put
 by_cases ho:o<st.length
 ·rw [if_pos ho]
  unfold St.get
  by_cases hp:p<st.length
  ·rw [if_pos (by simpa using hp)]
   simp only [List.length_set]
   by_cases e:p=o
   ·subst e;rw [if_pos ⟨rfl,ho⟩]
    rw [List.getElem?_set_self (by omega)]
   ·rw [if_neg (fun h=>e h.1),if_pos hp,List.getElem?_set_ne (by omega)]
  ·rw [if_neg (by simpa using hp),if_neg (by omega),if_neg hp]
 ·rw [if_neg ho,if_neg (by omega)]
theorem St.get_put_same {st:St} {o:Nat} {x:AObj} (h:o<st.length):St.get (St.put st o x) o=some x:=by rw [St.get_put,if_pos ⟨rfl,h⟩]
theorem St.get_put_ne {st:St} {o p:Nat} {x:AObj} (h:p≠o):St.get (St.put st o x) p=St.get st p:=by rw [St.get_put,if_neg (fun k=>h k.1)]
theorem St.length_trunc {st:St} {n:Nat} (h:n≤st.length):(St.trunc st n).length=n:=by simp [St.trunc];omega
theorem St.get_trunc {st:St} {n o:Nat} (h:n≤st.length):St.get (St.trunc st n) o=if o<n then St.get st o else none:=by
 unfold St.get
 rw [St.length_trunc h]
 by_cases ho:o<n
 ·rw [if_pos ho,if_pos ho,if_pos (by omega)]
  unfold St.trunc
  rw [List.getElem?_drop]
  congr 1;omega
 ·rw [if_neg ho,if_neg ho]
def owns (σ:Gh) (o:Nat) (x:AObj) (b:Nat):Prop :=
 match x with
 | .free _=>False
 | .box _ _=>σ.B o=some b
 | .rows _ ep _=>∃y,σ.R o ep=some (b,y)
 | .spare ep n=>∃y,σ.L o ep n=some (b,y)
 | .iter _ _=>σ.B o=some b
 | .amap _=>σ.B o=some b
 | .loop ..=>σ.B o=some b
 | .coll _=>σ.B o=some b
theorem frozen_free {w:World} {b s i:Nat} {cells:Array Value} {e:TypeId} {fz:Nat×Nat} (h:w.heap[b]?=some (.cells cells e fz)) (hf:fz.1=fz.2∨fz.2≤s) (hi:s≤i):w.frozen? ⟨b,i,none⟩=false:=by
 obtain ⟨lo,hi'⟩:=fz
 simp only [World.frozen?,h]
 simp only at hf
 rcases hf with rfl | hf
 ·by_cases h1:lo≤i
  ·have:¬i<lo:=by omega
   simp [this]
  ·simp [h1]
 ·have:¬i<hi':=by omega
  simp [this]
def Loose (σ:Gh) (w:World) (b s:Nat):Prop :=
 (∀i,s≤i→σ.I b i=none)∧∃cells e fz,w.heap[b]?=some (.cells cells e fz)∧(fz.1=fz.2∨fz.2≤s)
def PhOk:Option (Option Jmp)→LoopState→Option Code→Prop
 |none,s,_=>s = .busy
 |some none,s,p=>s = .ready∧p=none
 |some (some j),s,p=>s = .done∧p=some j.code
def ObjOk (P:Program) (bs:Nat) (σ:Gh) (w:World) (o:Nat) (x:AObj):Prop :=
 match x with
 | .free _=>True
 | .box ty row=>∃b vs,σ.B o=some b∧bs≤b∧(∀i,σ.I b i=none)∧w.heap[b]?=some (.cells vs ty (0,0))∧vs.size=row.length∧(∀(j:Nat) v,vs[j]?=some v→v.oneCell'=true)∧∀(j:Nat) v a,vs[j]?=some v→row[j]?=some a→Rep P σ v a
 | .rows kd ep rs=>∃b base,σ.R o ep=some (b,base,kd)∧bs≤b∧Loose σ w b base∧Shaped P σ b kd (base+rs.length*szk kd)∧(∀r ∈ rs,r.length=szk kd) ∧
   ∀(i:Nat) r (j:Nat) a,rs[i]?=some r→r[j]?=some a→∃v,w.cell? ⟨b,base+i*szk kd+j,none⟩=some v∧v.oneCell'=true∧Rep P σ v a
 | .spare ep n=>∃b s,σ.L o ep n=some (b,s)∧bs≤b∧Loose σ w b s
 | .iter s pos=>∃b s',σ.B o=some b∧bs≤b∧w.heap[b]?=some (.stringIter s' pos)∧s'.data.toList=s
 | .amap es=>∃b ents clock,σ.B o=some b∧bs≤b∧w.heap[b]?=some (.map ents clock)∧ents.size=es.length ∧
   ∀(i:Nat) (e:MapEntry) (p:AV×AV),ents[i]?=some e→es[i]?=some p→Rep P σ e.key p.1∧Rep P σ e.val p.2
 | .loop f _ env ps asg body ph=>∃b r,σ.B o=some b∧bs≤b∧w.heap[b]?=some (.loop r)∧PhOk ph r.state r.pending∧r.params.toList=ps∧r.assign=asg∧r.body=body∧(∀fn,P.funcs[f]?=some fn→fn.ntmps≤r.tmps.size) ∧
   ∀(t:Nat) (a:AV),Env.get env t=some a→Rep P σ (r.tmps.getD t undef) a
 | .coll live=>∃b ob,σ.B o=some b∧bs≤b∧w.heap[b]?=some ob∧(∀c e f,ob≠.cells c e f)∧(∀a t,ob≠.view a t)∧(live=true→ob = .deferred (some []))
def Fresh (σ:Gh) (o:Nat) (x:AObj):Prop :=
 match x with
 | .free ep=>(∀e,ep<e→σ.R o e=none)∧(∀e n,ep<e→σ.L o e n=none)
 | .rows _ ep _=>(∀e,ep<e→σ.R o e=none)∧(∀e n,ep<e→σ.L o e n=none)
 | .spare ep n=>(∀e,ep<e→σ.R o e=none)∧(∀e k,ep<e→σ.L o e k=none)∧(∀k,n<k→σ.L o ep k=none)
 | .loop ..=>(∀e,0<e→σ.R o e=none)∧(∀e n,0<e→σ.L o e n=none)
 | .coll _=>(∀e,0<e→σ.R o e=none)∧(∀e n,0<e→σ.L o e n=none)
 |_=>True
def AObj.isB:AObj→Bool
 | .box ..=>true
 | .iter ..=>true
 | .amap _=>true
 | .loop ..=>true
 | .coll _=>true
 |_=>false
structure WF (P:Program) (W:World) (bs:Nat) (σ:Gh) (st:St) (w:World):Prop where
 below:Below bs W w
 bsle:bs≤W.heap.size
 imm:∀b i v,σ.I b i=some v→w.cell? ⟨b,i,none⟩=some v∧v.oneCell'=true
 shp:∀b x,σ.sh b=some x→w.shape? b=some x
 obj:∀o x,st.get o=some x→ObjOk P bs σ w o x
 fresh:∀o x,st.get o=some x→Fresh σ o x
 sep:∀o o' x x' b,st.get o=some x→st.get o'=some x'→owns σ o x b→owns σ o' x' b→o=o'
 idR:∀o e,st.length≤o→σ.R o e=none
 idB:∀o,st.length≤o→σ.B o=none
 idL:∀o e n,st.length≤o→σ.L o e n=none
 lo:σ.lo=bs
 kept:∀b ob,σ.K b=some ob→w.heap[b]?=some ob∧bs≤b∧(∀i,σ.I b i=none)∧∀p y,st.get p=some y→¬owns σ p y b
 isB:∀o b,σ.B o=some b→∃x,st.get o=some x∧x.isB=true
end Go.Abs
namespace Go.Abs
open Go Go.RowKit
theorem cell_of_heap {w w':World} {b:Nat} (h:w'.heap[b]?=w.heap[b]?) (i:Nat):w'.cell? ⟨b,i,none⟩=w.cell? ⟨b,i,none⟩:=by simp [World.cell?,h]
theorem shape_of_heap {w w':World} {b:Nat} (h:w'.heap[b]?=w.heap[b]?):w'.shape? b=w.shape? b:=by simp [World.shape?,h]
theorem lt_of_cell {w:World} {b i:Nat} {v:Value} (h:w.cell? ⟨b,i,none⟩=some v):b<w.heap.size:=World.block_lt_of_cell? _ _ h
theorem lt_of_shape {w:World} {b:Nat} {x:TypeId×Nat} (h:w.shape? b=some x):b<w.heap.size:=by
 unfold World.shape? at h
 rcases Nat.lt_or_ge b w.heap.size with h' | h'
 ·exact h'
 ·simp [Array.getElem?_eq_none h'] at h
theorem lt_of_heap {w:World} {b:Nat} {x:Obj} (h:w.heap[b]?=some x):b<w.heap.size:=by
 rcases Nat.lt_or_ge b w.heap.size with h' | h'
 ·exact h'
 ·simp [Array.getElem?_eq_none h'] at h
section
variable {P:Program} {W:World} {bs:Nat} {σ σ':Gh} {st st':St} {w w':World}
theorem Loose.keep {b s:Nat} {T:Nat} (h:Loose σ w b s) (hI:∀b i v,σ'.I b i=some v→σ.I b i=some v∨b=T) (hT:b≠T) (hb:w'.heap[b]?=w.heap[b]?):Loose σ' w' b s:=by
 obtain ⟨h1,c,e,f,h2,h3⟩:=h
 refine ⟨fun i hi=>?_,c,e,f,by rw [hb,h2],h3⟩
 cases hv:σ'.I b i with
 |none=>rfl
 |some v =>
  rcases hI _ _ _ hv with h | h
  ·rw [h1 i hi] at h;simp at h
  ·exact absurd h hT
theorem ObjOk.keep {o:Nat} {x:AObj} {T:Nat} (h:ObjOk P bs σ w o x) (hl:σ.Le σ') (hI:∀b i v,σ'.I b i=some v→σ.I b i=some v∨b=T)
  (hne:¬owns σ o x T) (hblk:∀b,b≠T→b<w.heap.size→w'.heap[b]?=w.heap[b]?):ObjOk P bs σ' w' o x:=by
 cases x with
 |free ep=>trivial
 |box ty row =>
  obtain ⟨b,vs,h1,h2,h3,h4,h5,h7,h6⟩:=h
  have hT:b≠T:=fun e=>hne (e▸h1)
  refine ⟨b,vs,hl.B _ _ h1,h2,fun i=>?_,by rw [hblk b hT (lt_of_heap h4),h4],h5,h7,fun j v a ha hb=>(h6 j v a ha hb).mono hl⟩
  cases hv:σ'.I b i with
  |none=>rfl
  |some v =>
   rcases hI _ _ _ hv with h | h
   ·rw [h3 i] at h;simp at h
   ·exact absurd h hT
 |rows kd ep rs =>
  obtain ⟨b,base,h1,h2,h3,h4,h5,h6⟩:=h
  have hT:b≠T:=fun e=>hne ⟨_,e▸h1⟩
  have hlt:b<w.heap.size:=by obtain ⟨_,c,e,f,hh,_⟩:=h3;exact lt_of_heap hh
  refine ⟨b,base,hl.R _ _ _ h1,h2,h3.keep hI hT (hblk b hT hlt),h4.mono hl,h5,fun i r j a ha hb=>?_⟩
  obtain ⟨v,hv,h1v,hr⟩:=h6 i r j a ha hb
  exact ⟨v,by rw [cell_of_heap (hblk b hT hlt)];exact hv,h1v,hr.mono hl⟩
 |spare ep n =>
  obtain ⟨b,s,h1,h2,h3⟩:=h
  have hT:b≠T:=fun e=>hne ⟨_,e▸h1⟩
  have hlt:b<w.heap.size:=by obtain ⟨_,c,e,f,hh,_⟩:=h3;exact lt_of_heap hh
  exact ⟨b,s,hl.L _ _ _ _ h1,h2,h3.keep hI hT (hblk b hT hlt)⟩
 |iter s pos =>
  obtain ⟨b,s',h1,h2,h3,h4⟩:=h
  have hT:b≠T:=fun e=>hne (e▸h1)
  exact ⟨b,s',hl.B _ _ h1,h2,by rw [hblk b hT (lt_of_heap h3),h3],h4⟩
 |amap es =>
  obtain ⟨b,ents,clock,h1,h2,h3,h4,h5⟩:=h
  have hT:b≠T:=fun e=>hne (e▸h1)
  exact ⟨b,ents,clock,hl.B _ _ h1,h2,by rw [hblk b hT (lt_of_heap h3),h3],h4,fun i e p ha hb=>⟨(h5 i e p ha hb).1.mono hl,(h5 i e p ha hb).2.mono hl⟩⟩
 |loop f bse env ps asg body ph =>
  obtain ⟨b,r,h1,h2,h3,h4,h5,h6,h7,h8,h9⟩:=h
  have hT:b≠T:=fun e=>hne (e▸h1)
  exact ⟨b,r,hl.B _ _ h1,h2,by rw [hblk b hT (lt_of_heap h3),h3],h4,h5,h6,h7,h8,fun t a ha=>(h9 t a ha).mono hl⟩
 |coll =>
  obtain ⟨b,ob,h1,h2,h3,h4⟩:=h
  have hT:b≠T:=fun e=>hne (e▸h1)
  exact ⟨b,ob,hl.B _ _ h1,h2,by rw [hblk b hT (lt_of_heap h3),h3],h4⟩
theorem Fresh.keep {o p:Nat} {x:AObj} (h:Fresh σ o x) (hne:o≠p) (hR:∀o e y,σ'.R o e=some y→σ.R o e=some y∨o=p) (hL:∀o e n y,σ'.L o e n=some y→σ.L o e n=some y∨o=p):Fresh σ' o x:=by
 have r:∀e,σ.R o e=none→σ'.R o e=none:=fun e he=>by
  cases hv:σ'.R o e with
  |none=>rfl
  |some v =>
   rcases hR _ _ _ hv with h | h
   ·rw [he] at h;simp at h
   ·exact absurd h hne
 have l:∀e n,σ.L o e n=none→σ'.L o e n=none:=fun e n he=>by
  cases hv:σ'.L o e n with
  |none=>rfl
  |some v =>
   rcases hL _ _ _ _ hv with h | h
   ·rw [he] at h;simp at h
   ·exact absurd h hne
 cases x with
 |free ep=>exact ⟨fun e he=>r e (h.1 e he),fun e n he=>l e n (h.2 e n he)⟩
 |rows kd ep rs=>exact ⟨fun e he=>r e (h.1 e he),fun e n he=>l e n (h.2 e n he)⟩
 |spare ep n=>exact ⟨fun e he=>r e (h.1 e he),fun e n he=>l e n (h.2.1 e n he),fun k hk=>l _ _ (h.2.2 k hk)⟩
 |box ty row=>trivial
 |iter s pos=>trivial
 |amap es=>trivial
 |loop=>exact ⟨fun e he=>r e (h.1 e he),fun e n he=>l e n (h.2 e n he)⟩
 |coll=>exact ⟨fun e he=>r e (h.1 e he),fun e n he=>l e n (h.2 e n he)⟩
theorem owns.back {o p:Nat} {x:AObj} {b:Nat} (h:owns σ' o x b) (hne:o≠p) (hR:∀o e y,σ'.R o e=some y→σ.R o e=some y∨o=p)
  (hB:∀o y,σ'.B o=some y→σ.B o=some y∨o=p) (hL:∀o e n y,σ'.L o e n=some y→σ.L o e n=some y∨o=p):owns σ o x b:=by
 cases x with
 |free ep=>exact h
 |box ty row=>exact (hB _ _ h).resolve_right hne
 |rows kd ep rs=>obtain ⟨y,hy⟩:=h;exact ⟨y,(hR _ _ _ hy).resolve_right hne⟩
 |spare ep n=>obtain ⟨y,hy⟩:=h;exact ⟨y,(hL _ _ _ _ hy).resolve_right hne⟩
 |iter s pos=>exact (hB _ _ h).resolve_right hne
 |amap es=>exact (hB _ _ h).resolve_right hne
 |loop=>exact (hB _ _ h).resolve_right hne
 |coll=>exact (hB _ _ h).resolve_right hne
theorem WF.step (h:WF P W bs σ st w) {o:Nat} {x:AObj} {T:Nat} (hl:σ.Le σ') (hbel:Below bs W w')
  (hget:∀p,p≠o→st'.get p=st.get p) (hgo:st'.get o=some x) (hlen:st.length≤st'.length)
  (hblk:∀b,b≠T→b<w.heap.size→w'.heap[b]?=w.heap[b]?)
  (hown:∀p y,p≠o→st.get p=some y→¬owns σ p y T)
  (hI:∀b i v,σ'.I b i=some v→σ.I b i=some v∨b=T) (hIT:∀i v,σ'.I T i=some v→w'.cell? ⟨T,i,none⟩=some v∧v.oneCell'=true)
  (hsh:∀b y,σ'.sh b=some y→σ.sh b=some y∨b=T) (hshT:∀y,σ'.sh T=some y→w'.shape? T=some y)
  (hR:∀o' e y,σ'.R o' e=some y→σ.R o' e=some y∨o'=o) (hB:∀o' y,σ'.B o'=some y→σ.B o'=some y∨o'=o)
  (hL:∀o' e n y,σ'.L o' e n=some y→σ.L o' e n=some y∨o'=o)
  (hok:ObjOk P bs σ' w' o x) (hfr:Fresh σ' o x) (hox:∀b,owns σ' o x b→b=T) (hKT:σ.K T=none) (hK:σ'.K=σ.K:=by rfl) (hBx:∀b,σ'.B o=some b→x.isB=true:=by intros;rfl):WF P W bs σ' st' w':=by
 have ho:o<st'.length:=St.get_lt hgo
 refine ⟨hbel,h.bsle,?_,?_,?_,?_,?_,?_,?_,?_,hl.lo.symm.trans h.lo,fun b ob hb=>?kept,fun o' b' hb'=>?isB⟩
 case isB =>
  by_cases e:o'=o
  ·subst e;exact ⟨x,hgo,hBx b' hb'⟩
  ·obtain ⟨x',q1,q2⟩:=h.isB o' b' ((hB _ _ hb').resolve_right e)
   exact ⟨x',by rw [hget o' e];exact q1,q2⟩
 case kept =>
  rw [hK] at hb
  obtain ⟨k1,k2,k3,k4⟩:=h.kept b ob hb
  have hbT:b≠T:=fun e=>by rw [e,hKT] at hb;cases hb
  refine ⟨by rw [hblk b hbT (lt_of_heap k1)];exact k1,k2,fun i=>?_,fun p y hp hoy=>?_⟩
  ·cases hv:σ'.I b i with
   |none=>rfl
   |some v =>
    rcases hI _ _ _ hv with hh | hh
    ·rw [k3 i] at hh;cases hh
    ·exact absurd hh hbT
  ·by_cases e:p=o
   ·subst e
    rw [hgo] at hp;cases hp
    exact hbT (hox b hoy)
   ·rw [hget p e] at hp
    exact k4 p y hp (hoy.back e hR hB hL)
 ·intro b i v hv
  by_cases hb:b=T
  ·subst hb;exact hIT _ _ hv
  ·have hv':=(hI _ _ _ hv).resolve_right hb
   have:=h.imm _ _ _ hv'
   rw [cell_of_heap (hblk b hb (lt_of_cell this.1))];exact this
 ·intro b y hy
  by_cases hb:b=T
  ·subst hb;exact hshT _ hy
  ·have hy':=(hsh _ _ hy).resolve_right hb
   have:=h.shp _ _ hy'
   rw [shape_of_heap (hblk b hb (lt_of_shape this))];exact this
 ·intro p y hp
  by_cases e:p=o
  ·subst e;rw [hgo] at hp;cases hp;exact hok
  ·rw [hget p e] at hp
   exact (h.obj p y hp).keep hl hI (hown p y e hp) hblk
 ·intro p y hp
  by_cases e:p=o
  ·subst e;rw [hgo] at hp;cases hp;exact hfr
  ·rw [hget p e] at hp
   exact (h.fresh p y hp).keep e hR hL
 ·intro p q y z b hp hq hyb hzb
  by_cases e:p=o
  ·by_cases e':q=o
   ·rw [e,e']
   ·subst e;rw [hgo] at hp;cases hp
    rw [hget q e'] at hq
    have:=hox b hyb;subst this
    exact absurd (hzb.back e' hR hB hL) (hown q z e' hq)
  ·rw [hget p e] at hp
   by_cases e':q=o
   ·subst e';rw [hgo] at hq;cases hq
    have:=hox b hzb;subst this
    exact absurd (hyb.back e hR hB hL) (hown p y e hp)
   ·rw [hget q e'] at hq
    exact h.sep p q y z b hp hq (hyb.back e hR hB hL) (hzb.back e' hR hB hL)
 ·intro p e hp
  cases hv:σ'.R p e with
  |none=>rfl
  |some v =>
   rcases hR _ _ _ hv with h' | h'
   ·rw [h.idR p e (by omega)] at h';simp at h'
   ·omega
 ·intro p hp
  cases hv:σ'.B p with
  |none=>rfl
  |some v =>
   rcases hB _ _ hv with h' | h'
   ·rw [h.idB p (by omega)] at h';simp at h'
   ·omega
 ·intro p e n hp
  cases hv:σ'.L p e n with
  |none=>rfl
  |some v =>
   rcases hL _ _ _ _ hv with h' | h'
   ·rw [h.idL p e n (by omega)] at h';simp at h'
   ·omega
theorem WF.still (h:WF P W bs σ st w) {T:Nat} (hl:σ.Le σ') (hbel:Below bs W w')
  (hblk:∀b,b≠T→b<w.heap.size→w'.heap[b]?=w.heap[b]?) (hown:∀p y,st.get p=some y→¬owns σ p y T)
  (hI:∀b i v,σ'.I b i=some v→σ.I b i=some v∨b=T) (hIT:∀i v,σ'.I T i=some v→w'.cell? ⟨T,i,none⟩=some v∧v.oneCell'=true)
  (hsh:∀b y,σ'.sh b=some y→σ.sh b=some y∨b=T) (hshT:∀y,σ'.sh T=some y→w'.shape? T=some y)
  (hR:σ'.R=σ.R) (hB:σ'.B=σ.B) (hL:σ'.L=σ.L) (hKT:σ.K T=none) (hK:σ'.K=σ.K:=by rfl):WF P W bs σ' st w':=by
 refine ⟨hbel,h.bsle,?_,?_,?_,?_,?_,?_,?_,?_,hl.lo.symm.trans h.lo,fun b ob hb=>?kept,fun o' b' hb'=>h.isB o' b' (by rw [←hB];exact hb')⟩
 case kept =>
  rw [hK] at hb
  obtain ⟨k1,k2,k3,k4⟩:=h.kept b ob hb
  have hbT:b≠T:=fun e=>by rw [e,hKT] at hb;cases hb
  refine ⟨by rw [hblk b hbT (lt_of_heap k1)];exact k1,k2,fun i=>?_,fun p y hp hoy=>?_⟩
  ·cases hv:σ'.I b i with
   |none=>rfl
   |some v =>
    rcases hI _ _ _ hv with hh | hh
    ·rw [k3 i] at hh;cases hh
    ·exact absurd hh hbT
  ·exact k4 p y hp (by cases y<;>simp only [owns,hR,hB,hL] at hoy ⊢<;>exact hoy)
 ·intro b i v hv
  by_cases hb:b=T
  ·subst hb;exact hIT _ _ hv
  ·have hv':=(hI _ _ _ hv).resolve_right hb
   have:=h.imm _ _ _ hv'
   rw [cell_of_heap (hblk b hb (lt_of_cell this.1))];exact this
 ·intro b y hy
  by_cases hb:b=T
  ·subst hb;exact hshT _ hy
  ·have hy':=(hsh _ _ hy).resolve_right hb
   have:=h.shp _ _ hy'
   rw [shape_of_heap (hblk b hb (lt_of_shape this))];exact this
 ·intro p y hp
  exact (h.obj p y hp).keep hl hI (hown p y hp) hblk
 ·intro p y hp
  have:=h.fresh p y hp
  cases y<;>simp only [Fresh,hR,hL] at this ⊢<;>exact this
 ·intro p q y z b hp hq hyb hzb
  have back:∀o y,owns σ' o y b→owns σ o y b:=fun o y hy=>by cases y<;>simp only [owns,hR,hB,hL] at hy ⊢<;>exact hy
  exact h.sep p q y z b hp hq (back _ _ hyb) (back _ _ hzb)
 ·rw [hR];exact h.idR
 ·rw [hB];exact h.idB
 ·rw [hL];exact h.idL
theorem WF.noB (h:WF P W bs σ st w) {o:Nat} {x:AObj} (hx:st.get o=some x) (hn:x.isB=false) {b:Nat} (hb:σ.B o=some b):False:=by
 obtain ⟨y,h1,h2⟩:=h.isB o b hb
 rw [hx] at h1;cases h1
 rw [hn] at h2;cases h2
theorem WF.noBnew (h:WF P W bs σ st w) {b:Nat} (hb:σ.B st.length=some b):False:=by
 rw [h.idB _ (Nat.le_refl _)] at hb;cases hb
theorem owns_lt (h:WF P W bs σ st w) {p:Nat} {y:AObj} {b:Nat} (hp:st.get p=some y) (hb:owns σ p y b):b<w.heap.size:=by
 have ho:=h.obj p y hp
 cases y with
 |free ep=>exact hb.elim
 |box ty row=>obtain ⟨b',vs,h1,_,_,h4,_⟩:=ho;rw [show σ.B p=some b from hb] at h1;cases h1;exact lt_of_heap h4
 |rows kd ep rs =>
  obtain ⟨b',base,h1,_,h3,_⟩:=ho
  obtain ⟨z,hz⟩:=hb
  rw [hz] at h1;cases h1
  obtain ⟨_,c,e,f,hh,_⟩:=h3;exact lt_of_heap hh
 |spare ep n =>
  obtain ⟨b',s,h1,_,h3⟩:=ho
  obtain ⟨z,hz⟩:=hb
  rw [hz] at h1;cases h1
  obtain ⟨_,c,e,f,hh,_⟩:=h3;exact lt_of_heap hh
 |iter s pos=>obtain ⟨b',s',h1,_,h4,_⟩:=ho;rw [show σ.B p=some b from hb] at h1;cases h1;exact lt_of_heap h4
 |amap es=>obtain ⟨b',s',c',h1,_,h4,_⟩:=ho;rw [show σ.B p=some b from hb] at h1;cases h1;exact lt_of_heap h4
 |loop=>obtain ⟨b',r,h1,_,h4,_⟩:=ho;rw [show σ.B p=some b from hb] at h1;cases h1;exact lt_of_heap h4
 |coll=>obtain ⟨b',ob',h1,_,h4,_⟩:=ho;rw [show σ.B p=some b from hb] at h1;cases h1;exact lt_of_heap h4
theorem unowned (h:WF P W bs σ st w) {b:Nat} (hb:w.heap.size≤b):∀p y,st.get p=some y→¬owns σ p y b:=fun p y hp ho=>by
 have:=owns_lt h hp ho;omega
theorem noI (h:WF P W bs σ st w) {b:Nat} (hb:w.heap.size≤b) (i:Nat):σ.I b i=none:=by
 cases hv:σ.I b i with
 |none=>rfl
 |some v=>have:=lt_of_cell (h.imm _ _ _ hv).1;omega
theorem noSh (h:WF P W bs σ st w) {b:Nat} (hb:w.heap.size≤b):σ.sh b=none:=by
 cases hv:σ.sh b with
 |none=>rfl
 |some v=>have:=lt_of_shape (h.shp _ _ hv);omega
theorem noK (h:WF P W bs σ st w) {b:Nat} (hb:w.heap.size≤b):σ.K b=none:=by
 cases hv:σ.K b with
 |none=>rfl
 |some v=>have:=lt_of_heap (h.kept _ _ hv).1;omega
theorem ownK (h:WF P W bs σ st w) {p:Nat} {y:AObj} {b:Nat} (hp:st.get p=some y) (hb:owns σ p y b):σ.K b=none:=by
 cases hv:σ.K b with
 |none=>rfl
 |some v=>exact absurd hb ((h.kept _ _ hv).2.2.2 p y hp)
theorem WF.drew (h:WF P W bs σ st w):WF P W bs σ st w.drew :=
 h.still (T:=w.heap.size) (.refl σ) h.below.drew (fun _ _ _=>rfl) (unowned h (Nat.le_refl _)) (fun _ _ _ hv=>.inl hv)
  (fun i v hv=>h.imm _ _ _ hv) (fun _ _ hy=>.inl hy) (fun y hy=>h.shp _ _ hy) rfl rfl rfl (noK h (Nat.le_refl _))
theorem WF.size (h:WF P W bs σ st w):W.heap.size≤w.heap.size:=h.below.size
end
end Go.Abs
namespace Go.Abs
open Go Go.RowKit
section
variable {P:Program} {W:World} {bs:Nat} {σ:Gh} {st:St} {w:World}
theorem szOf_info {t:TypeId} {n:Nat} (h:szOf P t=some n):∃i,P.info? t=some i∧i.size=n:=by
 unfold szOf at h
 cases hi:P.info? t with
 |none=>simp [hi] at h
 |some i=>simp [hi] at h;exact ⟨i,rfl,h⟩
theorem run_sizeOf' {t:TypeId} {n:Nat} (h:szOf P t=some n) (w:World):(sizeOf t).run P w = .ok n w:=by
 obtain ⟨i,hi,rfl⟩:=szOf_info h
 simp [sizeOf,typeInfo,hi]
theorem run_under' {t:TypeId} {d:TypeDesc} (h:P.underlying t=some d) (w:World):(underlying t).run P w = .ok d w:=by simp [underlying,h]
theorem aggT_under {t:TypeId} {b:Bool} (h:aggT P t=some b):∃d,P.underlying t=some d∧isAggD d=b:=by
 unfold aggT at h
 cases hd:P.underlying t with
 |none=>simp [hd] at h
 |some d=>simp [hd] at h;exact ⟨d,rfl,h⟩
theorem run_isAgg' {t:TypeId} {b:Bool} (h:aggT P t=some b) (w:World):(isAgg t).run P w = .ok b w:=by
 obtain ⟨d,hd,rfl⟩:=aggT_under h
 simp only [isAgg,Sem.run_bind,run_under' hd]
 cases d<;>rfl
def RowAt (P:Program) (σ:Gh) (w:World) (b x:Nat) (row:List AV):Prop :=
 ∀(j:Nat) a,row[j]?=some a→∃v,w.cell? ⟨b,x+j,none⟩=some v∧v.oneCell'=true∧Rep P σ v a
theorem RowAt.drop {b x:Nat} {row:List AV} (h:RowAt P σ w b x row) (c:Nat):RowAt P σ w b (x+c) (row.drop c):=by
 intro j a ha
 obtain ⟨v,h1,h2⟩:=h (c+j) a (by simpa [List.getElem?_drop] using ha)
 exact ⟨v,by rw [Nat.add_assoc];exact h1,h2⟩
theorem RowAt.take {b x:Nat} {row:List AV} (h:RowAt P σ w b x row) (n:Nat):RowAt P σ w b x (row.take n):=by
 intro j a ha
 rw [List.getElem?_take] at ha
 split at ha
 ·exact h j a ha
 ·simp at ha
theorem RowAt.vals {b x:Nat}:∀{row:List AV},RowAt P σ w b x row→∃f:Nat→Value,(∀j,j<row.length→w.cell? ⟨b,x+j,none⟩=some (f j))∧(∀j,j<row.length→(f j).oneCell'=true)∧∀j a,row[j]?=some a→Rep P σ (f j) a:=by
 intro row h
 refine ⟨fun j=>(w.cell? ⟨b,x+j,none⟩).getD .nilIface,fun j hj=>?_,fun j hj=>?_,fun j a ha=>?_⟩<;>dsimp only
 ·obtain ⟨v,h1,_⟩:=h j row[j] (List.getElem?_eq_getElem hj)
  rw [h1];rfl
 ·obtain ⟨v,h1,h2,_⟩:=h j row[j] (List.getElem?_eq_getElem hj)
  rw [h1];exact h2
 ·obtain ⟨v,h1,_,h2⟩:=h j a ha
  rw [h1];exact h2
theorem range_map {n:Nat} {f:Nat→Value} {j:Nat} {v:Value} (h:((List.range n).map f).toArray[j]?=some v):j<n∧f j=v:=by
 simp only [List.getElem?_toArray,List.getElem?_map,Option.map_eq_some_iff] at h
 obtain ⟨i,hi,rfl⟩:=h
 obtain ⟨hlt,hi⟩:=List.getElem?_eq_some_iff.1 hi
 simp at hlt hi
 subst hi
 exact ⟨hlt,rfl⟩
theorem loadCells_row {b x n:Nat} {row:List AV} (h:RowAt P σ w b x row) (hn:row.length=n) :
  ∃cs:Array Value,(loadCells ⟨b,x,none⟩ n).run P w = .ok cs w∧cs.size=n∧(∀(j:Nat) v,cs[j]?=some v→v.oneCell'=true)∧∀(j:Nat) v a,cs[j]?=some v→row[j]?=some a→Rep P σ v a:=by
 obtain ⟨f,h1,h2,h3⟩:=h.vals
 have hr:=run_loadCells (P:=P) (w:=w) ⟨b,x,none⟩ n f (fun j hj=>by rw [Addr.add_mid];exact h1 j (by omega))
 refine ⟨_,hr,by simp,fun j v hv=>?_,fun j v a hv ha=>?_⟩
 ·obtain ⟨hj,rfl⟩:=range_map hv;exact h2 j (by omega)
 ·obtain ⟨hj,rfl⟩:=range_map hv;exact h3 j a ha
theorem readRow_load {b x c n:Nat} {t:TypeId} {ag:Bool} {row:List AV} {a:AV} (h:RowAt P σ w b x row) (hag:aggT P t=some ag) (hn:szOf P t=some n)
  (hr:readRow row c n ag=some a):∃v,(loadVar t ⟨b,x+c,none⟩).run P w = .ok v w∧Rep P σ v a:=by
 unfold readRow at hr
 simp only [loadVar,Sem.run_bind,run_isAgg' hag,Result.andThen_ok]
 cases ag with
 |true =>
  simp only [if_true] at hr ⊢
  split at hr
  ·rename_i hlen
   cases hr
   obtain ⟨cs,h1,h2,h3,h4⟩:=loadCells_row (h.drop c |>.take n) (n:=n) (by simp;omega)
   refine ⟨.agg cs,?_,.agg cs _ (by simp;omega) h3 h4⟩
   simp [run_sizeOf' hn,h1]
  ·simp at hr
 |false =>
  simp only [Bool.false_eq_true,if_false] at hr ⊢
  obtain ⟨v,h1,_,h2⟩:=h c a hr
  exact ⟨v,by simp [h1],h2⟩
theorem RowAt.ofI {b x:Nat} {row:List AV} (h:WF P W bs σ st w) (hI:∀(j:Nat) a,row[j]?=some a→(σ.I b (x+j)).isSome=true)
  (hR:∀(j:Nat) a v,row[j]?=some a→σ.I b (x+j)=some v→Rep P σ v a):RowAt P σ w b x row:=by
 intro j a ha
 obtain ⟨v,hv⟩:=Option.isSome_iff_exists.1 (hI j a ha)
 have:=h.imm _ _ _ hv
 exact ⟨v,this.1,this.2,hR j a v ha hv⟩
theorem ptr_row {pv:Value} {p:AV} (h:WF P W bs σ st w) (hp:Rep P σ pv p):∀{row:List AV} {c:Nat},
  (p = .ip row c∨(∃o ty,p = .bp o c∧st.get o=some (.box ty row))∨∃o ep i kd rs,p = .ptr o ep i c∧st.get o=some (.rows kd ep rs)∧rs[i]?=some row) →
  ∃b x,pv = .pointer (some ⟨b,x+c,none⟩)∧RowAt P σ w b x row:=by
 intro row c hc
 rcases hc with rfl | ⟨o,ty,rfl,ho⟩ | ⟨o,ep,i,kd,rs,rfl,ho,hi⟩
 ·cases hp with
  |ip b x row c hI hR=>exact ⟨b,x,rfl,.ofI h hI hR⟩
 ·cases hp with
  |bp b o c hB =>
   obtain ⟨b',vs,h1,_,_,h4,h5,h7,h6⟩:=h.obj _ _ ho
   rw [hB] at h1;cases h1
   refine ⟨b,0,by simp,fun j a ha=>?_⟩
   have hj:j<vs.size:=by
    rw [h5];exact (List.getElem?_eq_some_iff.1 ha).1
   refine ⟨vs[j],?_,h7 j _ (Array.getElem?_eq_getElem hj),h6 j _ a (Array.getElem?_eq_getElem hj) ha⟩
   simp [World.cell?,h4,Array.getElem?_eq_getElem hj]
 ·cases hp with
  |ptr b base kd' o ep i c hR =>
   obtain ⟨b',base',h1,_,_,_,h5,h6⟩:=h.obj _ _ ho
   rw [hR] at h1;cases h1
   refine ⟨b,base+i*szk kd,rfl,fun j a ha=>?_⟩
   exact h6 i row j a hi ha
theorem sim_load {t:TypeId} {pv:Value} {p a:AV} (h:WF P W bs σ st w) (hp:Rep P σ pv p) (hl:ldA P st t p=some a) :
  ∃v,(Instr.loadAt t pv).run P w = .ok v w∧Rep P σ v a:=by
 unfold ldA at hl
 obtain ⟨ag,hag,hl'⟩:=Option.bind_eq_some_iff.1 hl;clear hl;have hl:=hl';clear hl'
 obtain ⟨n,hn,hl'⟩:=Option.bind_eq_some_iff.1 hl;clear hl;have hl:=hl';clear hl'
 have key:∀row c,(p = .ip row c∨(∃o ty,p = .bp o c∧st.get o=some (.box ty row))∨∃o ep i kd rs,p = .ptr o ep i c∧st.get o=some (.rows kd ep rs)∧rs[i]?=some row) →
   readRow row c n ag=some a→∃v,(Instr.loadAt t pv).run P w = .ok v w∧Rep P σ v a:=by
  intro row c hc hr
  obtain ⟨b,x,rfl,hrow⟩:=ptr_row h hp hc
  obtain ⟨v,h1,h2⟩:=readRow_load hrow hag hn hr
  exact ⟨v,by simp [Instr.loadAt,Instr.sureAddr,h1],h2⟩
 cases p with
 |ip row c=>exact key row c (.inl rfl) hl
 |bp o c =>
  dsimp only at hl
  split at hl
  ·rename_i ty row ho
   exact key row c (.inr (.inl ⟨o,ty,rfl,ho⟩)) hl
  ·simp at hl
 |ptr o ep i c =>
  dsimp only at hl
  split at hl
  ·rename_i kd ep' rs ho
   split at hl
   ·rename_i he;subst he
    obtain ⟨row,hrow,hl'⟩:=Option.bind_eq_some_iff.1 hl;clear hl;have hl:=hl';clear hl'
    exact key row c (.inr (.inr ⟨o,ep,i,kd,rs,rfl,ho,hrow⟩)) hl
   ·simp at hl
  ·simp at hl
 |_=>simp at hl
theorem sim_part {t:TypeId} {cs:Array Value} {as:List AV} {off:Nat} {a:AV} (hs:cs.size=as.length) (h1:∀(j:Nat) v,cs[j]?=some v→v.oneCell'=true)
  (hR:∀(j:Nat) v a,cs[j]?=some v→as[j]?=some a→Rep P σ v a) (hp:partA P t as off=some a) :
  ∃v,(part t cs off).run P w = .ok v w∧Rep P σ v a:=by
 unfold partA at hp
 obtain ⟨ag,hag,hp'⟩:=Option.bind_eq_some_iff.1 hp;clear hp;have hp:=hp';clear hp'
 simp only [part,Sem.run_bind,run_isAgg' hag,Result.andThen_ok]
 cases ag with
 |true =>
  simp only [if_true] at hp ⊢
  obtain ⟨n,hn,hp'⟩:=Option.bind_eq_some_iff.1 hp;clear hp;have hp:=hp';clear hp'
  split at hp
  ·rename_i hle
   cases hp
   refine ⟨.agg (cs.extract off (off+n)),by simp [run_sizeOf' hn],.agg _ _ (by simp;omega) (fun j v hv=>?_) (fun j v b hv hb=>?_)⟩
   ·rw [Array.getElem?_extract] at hv
    split at hv
    ·exact h1 _ _ hv
    ·simp at hv
   ·rw [Array.getElem?_extract] at hv
    split at hv
    ·rw [List.getElem?_take] at hb
     split at hb
     ·rw [List.getElem?_drop] at hb;exact hR _ _ _ hv hb
     ·simp at hb
    ·simp at hv
  ·simp at hp
 |false =>
  simp only [Bool.false_eq_true,if_false] at hp ⊢
  have hj:off<cs.size:=by rw [hs];exact (List.getElem?_eq_some_iff.1 hp).1
  exact ⟨cs[off],by simp [Array.getElem?_eq_getElem hj],hR off _ a (Array.getElem?_eq_getElem hj) hp⟩
theorem sim_field {t:TypeId} {x:Value} {xa a:AV} {f:Nat} (hx:Rep P σ x xa) (hf:fieldA P t xa f=some a):∃v,(Instr.field t x f).run P w = .ok v w∧Rep P σ v a:=by
 unfold fieldA at hf
 split at hf
 ·rename_i fields cs hd
  obtain ⟨fd,hfd,hf'⟩:=Option.bind_eq_some_iff.1 hf;clear hf;have hf:=hf';clear hf'
  cases hx with
  |agg vs as hs h1 hR =>
   obtain ⟨v,hv,hr⟩:=sim_part (w:=w) hs h1 hR hf
   exact ⟨v,by simp [Instr.field,run_under' hd,hfd,asAgg,hv],hr⟩
 ·simp at hf
theorem natA_int {v:Value} {a:AV} {n:Nat} (hx:Rep P σ v a) (h:natA a=some n):∃k m,v = .int k m∧0≤m∧m.toNat=n:=by
 unfold natA at h
 split at h
 ·split at h
  ·cases hx;cases h;exact ⟨_,_,rfl,by assumption,rfl⟩
  ·simp at h
 ·simp at h
theorem sim_index {t:TypeId} {x ix:Value} {xa ia a:AV} (hx:Rep P σ x xa) (hi:Rep P σ ix ia) (h:indexA P t xa ia=some a) :
  ∃v,(Instr.index t x ix).run P w = .ok v w∧Rep P σ v a:=by
 unfold indexA at h
 obtain ⟨j,hj,h'⟩:=Option.bind_eq_some_iff.1 h;clear h;have h:=h';clear h'
 obtain ⟨k,m,rfl,hm,rfl⟩:=natA_int hi hj
 clear hj
 revert h
 split
 ·rename_i len e cs hd
  intro h
  split at h
  ·rename_i hlt
   obtain ⟨n,hn,h2⟩:=Option.bind_eq_some_iff.1 h
   cases hx with
   |agg vs as hs h1 hR =>
    obtain ⟨v,hv,hr⟩:=sim_part (w:=w) hs h1 hR h2
    refine ⟨v,?_,hr⟩
    have c:0≤m∧m<(len:Int):=⟨hm,by omega⟩
    simp [Instr.index,asIntOf,run_under' hd,c,run_sizeOf' hn,hv]
  ·simp at h
 ·rename_i s hd
  intro h
  obtain ⟨b,hb,rfl⟩:=Option.map_eq_some_iff.1 h
  cases hx with
  |str s =>
   refine ⟨.int .u8 b.toNat,?_,.int _ _⟩
   have hb':s[m.toNat]?=some b:=by
    rw [←hb,getElem?_def,getElem?_def]
    have:s.data.toList.length=s.size:=rfl
    by_cases hlt:m.toNat<s.size
    ·rw [dif_pos hlt,dif_pos (by omega)];rfl
    ·rw [dif_neg hlt,dif_neg (by omega)]
   simp only [Instr.index,asIntOf,Sem.run_bind,Sem.run_pure,Result.andThen_ok,run_under' hd,if_pos hm]
   rw [hb'];rfl
 ·intro h;simp at h
theorem addr_add (b o n:Nat):(⟨b,o,none⟩:Addr).add n=⟨b,o+n,none⟩:=Addr.add_mid b o n
theorem sim_fieldAddr {t:TypeId} {x:Value} {xa a:AV} {f:Nat} (hx:Rep P σ x xa) (hf:fieldAddrA P t xa f=some a) :
  ∃v,(Instr.fieldAt t x f).run P w = .ok v w∧Rep P σ v a:=by
 unfold fieldAddrA at hf
 split at hf
 ·rename_i fields hd
  obtain ⟨fd,hfd,hf'⟩:=Option.bind_eq_some_iff.1 hf;clear hf;have hf:=hf';clear hf'
  obtain ⟨n,hn,hf'⟩:=Option.bind_eq_some_iff.1 hf;clear hf;have hf:=hf';clear hf'
  split at hf
  ·simp at hf
  ·rename_i hn0
   have key:∀b o,x = .pointer (some ⟨b,o,none⟩)→(Instr.fieldAt t x f).run P w = .ok (.pointer (some ⟨b,o+fd.offset,none⟩)) w:=by
    intro b o hx;subst hx
    simp [Instr.fieldAt,run_under' hd,hfd,Instr.sureAddr,fieldPlace,run_sizeOf' hn,hn0,addr_add]
   split at hf
   ·cases hf
    cases hx with
    |ip b y _ _ hI hR=>exact ⟨_,key b _ rfl,by rw [Nat.add_assoc];exact .ip b y _ _ hI hR⟩
   ·cases hf
    cases hx with
    |bp b _ _ hB=>exact ⟨_,key b _ rfl,.bp b _ _ hB⟩
   ·cases hf
    cases hx with
    |ptr b base kd _ _ _ _ hR=>exact ⟨_,key b _ rfl,by rw [Nat.add_assoc];exact .ptr b base kd _ _ _ _ hR⟩
   ·simp at hf
 ·simp at hf
theorem kdOf_sz {e:TypeId} {kd:Nat} (h:kdOf P e=some kd):szOf P e=some (szk kd)∧(kd=0→ByteT P e):=by
 unfold kdOf at h
 split at h
 ·rename_i hu
  obtain ⟨i,hi,h'⟩:=Option.bind_eq_some_iff.1 h;clear h;have h:=h';clear h'
  split at h
  ·rename_i h1;cases h;exact ⟨by simp [szOf,hi,h1,szk],fun _=>⟨hu,by simp [Program.cellsOf,hi,h1]⟩⟩
  ·simp at h
 ·rename_i d hu hne
  obtain ⟨i,hi,h'⟩:=Option.bind_eq_some_iff.1 h;clear h;have h:=h';clear h'
  split at h
  ·simp at h
  ·rename_i h0;cases h
   exact ⟨by simp [szOf,hi,szk,h0],fun hz=>absurd hz h0⟩
 ·simp at h
theorem msKd_get {o ep kd:Nat} (h:msKd st o ep=some kd):∃rs,st.get o=some (.rows kd ep rs):=by
 unfold msKd at h
 split at h
 ·rename_i kd' ep' rs ho
  split at h
  ·rename_i e;cases h;subst e;exact ⟨rs,ho⟩
  ·simp at h
 ·simp at h
theorem szk_pos (kd:Nat):0<szk kd:=by unfold szk;split<;>omega
theorem sim_indexAddr {t:TypeId} {x ix:Value} {xa ia a:AV} (h:WF P W bs σ st w) (hx:Rep P σ x xa) (hi:Rep P σ ix ia) (hf:indexAddrA P st t xa ia=some a)
  : ∃v,(Instr.indexAt t x ix).run P w = .ok v w∧Rep P σ v a:=by
 unfold indexAddrA at hf
 obtain ⟨j,hj,hf'⟩:=Option.bind_eq_some_iff.1 hf;clear hf;have hf:=hf';clear hf'
 obtain ⟨k,m,rfl,hm,rfl⟩:=natA_int hi hj
 split at hf
 ·rename_i e hd
  obtain ⟨kd,hkd,hf'⟩:=Option.bind_eq_some_iff.1 hf;clear hf;have hf:=hf';clear hf'
  obtain ⟨hsz,_⟩:=kdOf_sz hkd
  have key:∀b o len c,x = .slice (some ⟨b,o,none⟩) len c→m.toNat<len→(Instr.indexAt t x (.int k m)).run P w = .ok (.pointer (some ⟨b,o+m.toNat*szk kd,none⟩)) w:=by
   intro b o len c hx hlt;subst hx
   have hc:0≤m∧m<(len:Int):=⟨hm,by omega⟩
   simp [Instr.indexAt,asIntOf,run_under' hd,hc,run_sizeOf' hsz,addr_add]
  split at hf
  ·rename_i sz rows off len tok
   split at hf
   ·rename_i hcond
    obtain ⟨rfl,hlt⟩:=hcond
    obtain ⟨row,hrow,rfl⟩:=Option.map_eq_some_iff.1 hf
    cases hx with
    |slz a kd=>exact absurd hlt (by omega)
    |sl b o o0 len c kd rows off tok hlen hrow' hc ho hsh htok hI hR =>
     refine ⟨_,key b o len c rfl hlt,?_⟩
     have hoff:off+m.toNat<rows.length:=(List.getElem?_eq_some_iff.1 hrow).1
     rw [ho (by omega)]
     have e1:o0+off*szk sz+m.toNat*szk sz=o0+(off+m.toNat)*szk sz+0:=by rw [Nat.add_mul];omega
     rw [e1]
     exact .ip b _ row 0 (fun j a ha=>hI _ _ _ _ hrow ha) (fun j a v ha hv=>hR _ _ _ _ _ hrow ha hv)
   ·simp at hf
  ·rename_i o ep off len cap
   obtain ⟨kd',hk,hf2⟩:=Option.bind_eq_some_iff.1 hf;clear hf
   split at hf2
   ·rename_i hcond
    obtain ⟨rfl,hlt⟩:=hcond
    cases hf2
    obtain ⟨rs,hobj⟩:=msKd_get hk
    obtain ⟨b',base',h1,_⟩:=h.obj _ _ hobj
    cases hx with
    |ms b base kd oo _ _ _ _ c _ hR hcap hlen ho hsh =>
     rw [hR] at h1
     simp only [Option.some.injEq,Prod.mk.injEq] at h1
     obtain ⟨_,_,rfl⟩:=h1
     refine ⟨_,key b oo _ c rfl hlt,?_⟩
     rw [ho (by omega)]
     have e1:base+off*szk kd+m.toNat*szk kd=base+(off+m.toNat)*szk kd+0:=by rw [Nat.add_mul];omega
     rw [e1]
     exact .ptr b base kd _ _ _ 0 hR
   ·simp at hf2
  ·simp at hf
 ·rename_i len e hd
  obtain ⟨n,hn,hf'⟩:=Option.bind_eq_some_iff.1 hf;clear hf;have hf:=hf';clear hf'
  split at hf
  ·rename_i hlt
   have key:∀b o,x = .pointer (some ⟨b,o,none⟩)→(Instr.indexAt t x (.int k m)).run P w = .ok (.pointer (some ⟨b,o+m.toNat*n,none⟩)) w:=by
    intro b o hx;subst hx
    have hc:0≤m∧m<(len:Int):=⟨hm,by omega⟩
    simp [Instr.indexAt,asIntOf,run_under' hd,Instr.sureAddr,hc,run_sizeOf' hn,addr_add]
   split at hf
   ·cases hf
    cases hx with
    |ip b y _ _ hI hR=>exact ⟨_,key b _ rfl,by rw [Nat.add_assoc];exact .ip b y _ _ hI hR⟩
   ·cases hf
    cases hx with
    |bp b _ _ hB=>exact ⟨_,key b _ rfl,.bp b _ _ hB⟩
   ·cases hf
    cases hx with
    |ptr b base kd _ _ _ _ hR=>exact ⟨_,key b _ rfl,by rw [Nat.add_assoc];exact .ptr b base kd _ _ _ _ hR⟩
   ·simp at hf
  ·simp at hf
 ·simp at hf
end
end Go.Abs
namespace Go.Abs
open Go Go.RowKit
section
variable {P:Program} {W:World} {bs:Nat} {σ:Gh} {st:St} {w:World}
theorem bytes_beq (a b:ByteArray):(a.data.toList==b.data.toList)=(a.toList==b.toList):=by rw [ByteArray.toList_eq,ByteArray.toList_eq]
theorem sim_fields (d:Nat) (eq:TypeId→AV→AV→Option Bool)
  (ih:∀t x y xa ya b,Rep P σ x xa→Rep P σ y ya→eq t xa ya=some b→(Op.equalIn d t x y).run P w = .ok b w)
  {xs ys:Array Value} {xa ya:List AV} (hsx:xs.size=xa.length) (hsy:ys.size=ya.length)
  (h1x:∀(j:Nat) v,xs[j]?=some v→v.oneCell'=true) (h1y:∀(j:Nat) v,ys[j]?=some v→v.oneCell'=true)
  (hx:∀(j:Nat) v a,xs[j]?=some v→xa[j]?=some a→Rep P σ v a) (hy:∀(j:Nat) v a,ys[j]?=some v→ya[j]?=some a→Rep P σ v a) :
  ∀(fs:List Field) (b:Bool),eqFieldsA P eq xa ya fs=some b→(Op.eqFields d xs ys fs).run P w = .ok b w
 |[],b,h=>by simp [eqFieldsA] at h;subst h;simp [Op.eqFields]
 |f::fs,b,h=>by
  simp only [eqFieldsA] at h
  simp only [Op.eqFields]
  by_cases hn:f.name ≠ "_"
  ·rw [if_pos hn] at h
   obtain ⟨a,ha,h2⟩:=Option.bind_eq_some_iff.1 h
   obtain ⟨c,hc,h3⟩:=Option.bind_eq_some_iff.1 h2
   obtain ⟨r,hr,h4⟩:=Option.bind_eq_some_iff.1 h3
   obtain ⟨v,hv,hva⟩:=sim_part (w:=w) hsx h1x hx ha
   obtain ⟨u,hu,huc⟩:=sim_part (w:=w) hsy h1y hy hc
   have e:=ih _ _ _ _ _ _ hva huc hr
   rw [if_pos hn]
   simp only [Sem.run_bind,hv,hu,e,Result.andThen_ok]
   cases r with
   |false=>simp at h4;subst h4;simp
   |true =>
    simp only [if_true] at h4
    simp only [Bool.not_true,Bool.false_eq_true,if_false]
    exact sim_fields d eq ih hsx hsy h1x h1y hx hy fs b h4
  ·rw [if_neg hn] at h
   rw [if_neg hn]
   exact sim_fields d eq ih hsx hsy h1x h1y hx hy fs b h
theorem sim_elems (d:Nat) (e:TypeId) (n:Nat) (eq:AV→AV→Option Bool)
  (ih:∀x y xa ya b,Rep P σ x xa→Rep P σ y ya→eq xa ya=some b→(Op.equalIn d e x y).run P w = .ok b w)
  {xs ys:Array Value} {xa ya:List AV} (hsx:xs.size=xa.length) (hsy:ys.size=ya.length)
  (h1x:∀(j:Nat) v,xs[j]?=some v→v.oneCell'=true) (h1y:∀(j:Nat) v,ys[j]?=some v→v.oneCell'=true)
  (hx:∀(j:Nat) v a,xs[j]?=some v→xa[j]?=some a→Rep P σ v a) (hy:∀(j:Nat) v a,ys[j]?=some v→ya[j]?=some a→Rep P σ v a) :
  ∀(k i:Nat) (b:Bool),eqElemsA P eq e n xa ya i k=some b→(Op.eqItems d e n xs ys (List.range' i k)).run P w = .ok b w
 | 0,i,b,h=>by simp [eqElemsA] at h;subst h;simp [Op.eqItems]
 |k+1,i,b,h=>by
  simp only [eqElemsA] at h
  obtain ⟨a,ha,h2⟩:=Option.bind_eq_some_iff.1 h
  obtain ⟨c,hc,h3⟩:=Option.bind_eq_some_iff.1 h2
  obtain ⟨r,hr,h4⟩:=Option.bind_eq_some_iff.1 h3
  obtain ⟨v,hv,hva⟩:=sim_part (w:=w) hsx h1x hx ha
  obtain ⟨u,hu,huc⟩:=sim_part (w:=w) hsy h1y hy hc
  have e':=ih _ _ _ _ _ hva huc hr
  simp only [List.range'_succ,Op.eqItems,Sem.run_bind,hv,hu,e',Result.andThen_ok]
  cases r with
  |false=>simp at h4;subst h4;simp
  |true =>
   simp only [if_true] at h4
   simp only [Bool.not_true,Bool.false_eq_true,if_false]
   exact sim_elems d e n eq ih hsx hsy h1x h1y hx hy k (i+1) b h4
def PtEq (P:Program) (σ:Gh) (w:World):Prop:=∀(o o' b b' c c':Nat),σ.B o=some b→σ.B o'=some b'→(sameAddr ⟨b,c,none⟩ ⟨b',c',none⟩).run P w = .ok (o==o'&&c==c') w
theorem WF.ptEq (h:WF P W bs σ st w):PtEq P σ w:=by
 intro o o' b b' c c' hB hB'
 by_cases e:o=o'∧c=c'
 ·obtain ⟨rfl,rfl⟩:=e
  rw [hB] at hB';cases hB'
  rw [run_sameAddr_same]
  simp
 ·have q:(o==o'&&c==c')=false:=by
   cases hq:(o==o'&&c==c') with
   |false=>rfl
   |true=>simp only [Bool.and_eq_true,beq_iff_eq] at hq;exact absurd hq e
  rw [q]
  obtain ⟨x,hx,hxB⟩:=h.isB o b hB
  obtain ⟨x',hx',hxB'⟩:=h.isB o' b' hB'
  have own:owns σ o x b:=by cases x<;>first | exact hB | cases hxB
  have own':owns σ o' x' b':=by cases x'<;>first | exact hB' | cases hxB'
  by_cases hb:b=b'
  ·subst hb
   have:=h.sep o o' x x' b hx hx' own own'
   subst this
   have hc:¬c=c':=fun hh=>e ⟨rfl,hh⟩
   simp [sameAddr,hc]
  ·have key:∀{o:Nat} {x:AObj} {b c:Nat},st.get o=some x→x.isB=true→σ.B o=some b→w.frozen? ⟨b,c,none⟩=false∧(viewAt b).run P w = .ok none w∧(stringish ⟨b,c,none⟩).run P w = .ok false w:=fun {o x b c} hx hxB hB=>by
    have hob:=h.obj o x hx
    cases x with
    |box ty row =>
     obtain ⟨b1,vs,h1,_,_,h4,_⟩:=hob
     rw [hB] at h1;cases h1
     simp [World.frozen?,h4,viewAt,World.shape?,stringish]
    |iter s pos =>
     obtain ⟨b1,s',h1,_,h4,_⟩:=hob
     rw [hB] at h1;cases h1
     simp [World.frozen?,h4,viewAt,World.shape?,stringish,getObj,Sem.run]
    |amap es =>
     obtain ⟨b1,s',ck,h1,_,h4,_⟩:=hob
     rw [hB] at h1;cases h1
     simp [World.frozen?,h4,viewAt,World.shape?,stringish,getObj,Sem.run]
    |loop =>
     obtain ⟨b1,r,h1,_,h4,_⟩:=hob
     rw [hB] at h1;cases h1
     simp [World.frozen?,h4,viewAt,World.shape?,stringish,getObj,Sem.run]
    |coll live =>
     obtain ⟨b1,ob,h1,_,h4,h5,h6,_⟩:=hob
     rw [hB] at h1;cases h1
     cases ob with
     |cells c e f=>exact absurd rfl (h5 c e f)
     |view a t=>exact absurd rfl (h6 a t)
     |_=>simp [World.frozen?,h4,viewAt,World.shape?,stringish,getObj,Sem.run]
    |_=>cases hxB
   obtain ⟨f1,v1,s1⟩:=key (c:=c) hx hxB hB
   obtain ⟨f2,v2,s2⟩:=key (c:=c') hx' hxB' hB'
   have hm:(mayBeOne ⟨b,c,none⟩ ⟨b',c',none⟩).run P w = .ok false w:=by simp [mayBeOne,s1,s2]
   simp [sameAddr,hb,f1,noView,v1,v2,hm]
set_option maxHeartbeats 4000000 in
theorem sim_eq (hpt:PtEq P σ w):∀(d:Nat) (t:TypeId) (x y:Value) (xa ya:AV) (b:Bool),Rep P σ x xa→Rep P σ y ya→eqA P d t xa ya=some b→(Op.equalIn d t x y).run P w = .ok b w
 | 0,_,_,_,_,_,_,_,_,h=>by simp [eqA] at h
 |d+1,t,x,y,xa,ya,b,hx,hy,h=>by
  have ih:=sim_eq hpt d
  unfold eqA at h
  cases hd:P.underlying t with
  |none=>simp [hd] at h
  |some desc =>
   rw [hd] at h
   have nil2:∀{r:Bool},some r=some b→(Op.equalIn (d+1) t x y).run P w = .ok r w→(Op.equalIn (d+1) t x y).run P w = .ok b w:=by
    intro r hr hh;cases hr;exact hh
   cases desc with
   |bool =>
    dsimp only at h
    split at h
    ·cases hx<;>cases hy<;>(refine nil2 h ?_;simp [Op.equalIn,run_under' hd])
    ·simp at h
   |int k =>
    dsimp only at h
    split at h
    ·split at h
     ·rename_i e;subst e
      cases hx;cases hy;refine nil2 h ?_;simp [Op.equalIn,run_under' hd]
     ·simp at h
    ·simp at h
   |string =>
    dsimp only at h
    split at h
    ·cases hx with
     |str s=>cases hy with
      |str s' =>
       refine nil2 h ?_
       rw [run_equalIn_string w d t s s' hd,bytes_beq]
    ·simp at h
   |pointer e =>
    dsimp only at h
    split at h
    ·cases hx<;>cases hy<;>(refine nil2 h ?_;simp [Op.equalIn,run_under' hd])
    ·cases hx<;>cases hy<;>(refine nil2 h ?_;simp [Op.equalIn,run_under' hd])
    ·cases hx<;>cases hy<;>(refine nil2 h ?_;simp [Op.equalIn,run_under' hd])
    ·cases hx<;>cases hy<;>(refine nil2 h ?_;simp [Op.equalIn,run_under' hd])
    ·cases hx<;>cases hy<;>(refine nil2 h ?_;simp [Op.equalIn,run_under' hd])
    ·cases hx<;>cases hy<;>(refine nil2 h ?_;simp [Op.equalIn,run_under' hd])
    ·cases hx<;>cases hy<;>(refine nil2 h ?_;simp [Op.equalIn,run_under' hd])
    ·obtain ⟨n,hn,h2⟩:=Option.bind_eq_some_iff.1 h
     split at h2
     ·simp at h2
     ·rename_i hn0
      cases hx with
      |bp b1 o1 c1 hB =>
      cases hy with
      |bp b2 o2 c2 hB' =>
      refine nil2 h2 ?_
      simp [Op.equalIn,run_under' hd,run_sizeOf' hn,hn0]
      exact hpt _ _ _ _ _ _ hB hB'
    ·simp at h
   |interface ms =>
    dsimp only at h
    split at h
    ·cases hx<;>cases hy<;>(refine nil2 h ?_;simp [Op.equalIn,run_under' hd])
    ·cases hx<;>cases hy<;>(refine nil2 h ?_;simp [Op.equalIn,run_under' hd])
    ·cases hx<;>cases hy<;>(refine nil2 h ?_;simp [Op.equalIn,run_under' hd])
    ·cases hx with
     |iface tx vx ax hvx=>cases hy with
      |iface ty vy ay hvy =>
       split at h
       ·rename_i he
        subst he
        obtain ⟨i,hi,h2⟩:=Option.bind_eq_some_iff.1 h
        split at h2
        ·rename_i hcmp
         have:=ih _ vx vy _ _ b hvx hvy h2
         simp [Op.equalIn,run_under' hd,typeInfo,hi,hcmp,this]
        ·simp at h2
       ·rename_i hne
        refine nil2 h ?_
        simp [Op.equalIn,run_under' hd,hne]
    ·simp at h
   |struct fields =>
    dsimp only at h
    split at h
    ·split at h
     ·simp at h
     ·rename_i hst
      cases hx with
      |agg xs as hsx h1x hRx=>cases hy with
       |agg ys as' hsy h1y hRy =>
        have hf:P.fieldsOf t=fields:=by simp [Program.fieldsOf,hd]
        rw [run_equalIn_struct w d t xs ys (by rw [hf];exact hd) (by simpa using hst),hf]
        exact sim_fields d (eqA P d) (fun t x y xa ya b h1 h2 h3=>ih t x y xa ya b h1 h2 h3) hsx hsy h1x h1y hRx hRy _ b h
    ·simp at h
   |array len e =>
    dsimp only at h
    split at h
    ·obtain ⟨n,hn,h2⟩:=Option.bind_eq_some_iff.1 h
     obtain ⟨i,hi,rfl⟩:=szOf_info hn
     cases hx with
     |agg xs as hsx h1x hRx=>cases hy with
      |agg ys as' hsy h1y hRy =>
       rw [run_equalIn_array w d xs ys hd hi,show P.cellsOf e=i.size by simp [Program.cellsOf,hi],List.range_eq_range']
       exact sim_elems d e i.size (eqA P d e) (fun x y xa ya b h1 h2 h3=>ih e x y xa ya b h1 h2 h3) hsx hsy h1x h1y hRx hRy len 0 b h2
    ·simp at h
   |slice e =>
    dsimp only at h
    split at h
    ·cases hx<;>cases hy<;>(refine nil2 h ?_;simp [Op.equalIn,run_under' hd])
    ·cases hx<;>cases hy<;>(refine nil2 h ?_;simp [Op.equalIn,run_under' hd])
    ·cases hx<;>cases hy<;>(refine nil2 h ?_;simp [Op.equalIn,run_under' hd])
    ·cases hx<;>cases hy<;>(refine nil2 h ?_;simp [Op.equalIn,run_under' hd])
    ·cases hx<;>cases hy<;>(refine nil2 h ?_;simp [Op.equalIn,run_under' hd])
    ·simp at h
   |map k e =>
    dsimp only at h
    split at h
    ·cases hx<;>cases hy<;>(refine nil2 h ?_;simp [Op.equalIn,run_under' hd])
    ·cases hx<;>cases hy<;>(refine nil2 h ?_;simp [Op.equalIn,run_under' hd])
    ·cases hx<;>cases hy<;>(refine nil2 h ?_;simp [Op.equalIn,run_under' hd])
    ·simp at h
   |func a r v =>
    dsimp only at h
    split at h
    ·cases hx<;>cases hy<;>(refine nil2 h ?_;simp [Op.equalIn,run_under' hd])
    ·cases hx<;>cases hy<;>(refine nil2 h ?_;simp [Op.equalIn,run_under' hd])
    ·cases hx<;>cases hy<;>(refine nil2 h ?_;simp [Op.equalIn,run_under' hd])
    ·simp at h
   |_=>simp at h
end
end Go.Abs
namespace Go.Abs
open Go Go.RowKit
section
variable {P:Program} {W:World} {bs:Nat} {σ:Gh} {st:St} {w:World}
theorem sim_int {op:BinOp} {k:IntKind} {a b:Int} {t:TypeId} {r:AV} (hs:op≠.shl) (hr':op≠.shr) (h:intA op k a b=some r) :
  ∃v,(binOp op t (.int k a) (.int k b)).run P w = .ok v w∧Rep P σ v r:=by
 have cmp:∀(c:Bool),some (AV.bool c)=some r→(binOp op t (.int k a) (.int k b)).run P w = .ok (.bool c) w→∃v,(binOp op t (.int k a) (.int k b)).run P w = .ok v w∧Rep P σ v r:=by
  intro c hc hh;cases hc;exact ⟨_,hh,.bool _⟩
 have num:∀(c:Int),some (AV.int k c)=some r→(binOp op t (.int k a) (.int k b)).run P w = .ok (.int k c) w→∃v,(binOp op t (.int k a) (.int k b)).run P w = .ok v w∧Rep P σ v r:=by
  intro c hc hh;cases hc;exact ⟨_,hh,.int _ _⟩
 cases op with
 |add=>exact num _ h (by simp [binOp,Op.intArith])
 |sub=>exact num _ h (by simp [binOp,Op.intArith])
 |mul=>exact num _ h (by simp [binOp,Op.intArith])
 |quo =>
  simp only [intA] at h
  split at h
  ·simp at h
  ·rename_i hb;exact num _ h (by simp [binOp,Op.intDiv,hb])
 |rem =>
  simp only [intA] at h
  split at h
  ·simp at h
  ·rename_i hb;exact num _ h (by simp [binOp,Op.intDiv,hb])
 |and=>exact num _ h (by simp only [binOp,ne_eq,not_true_eq_false,if_false];rfl)
 |or=>exact num _ h (by simp only [binOp,ne_eq,not_true_eq_false,if_false];rfl)
 |xor=>exact num _ h (by simp only [binOp,ne_eq,not_true_eq_false,if_false];rfl)
 |andNot=>exact num _ h (by simp only [binOp,ne_eq,not_true_eq_false,if_false];rfl)
 |eql=>exact cmp _ h (by simp [binOp,Op.intCmp])
 |neq=>exact cmp _ h (by simp [binOp,Op.intCmp])
 |lss=>exact cmp _ h (by simp [binOp,Op.intCmp])
 |leq=>exact cmp _ h (by simp [binOp,Op.intCmp])
 |gtr=>exact cmp _ h (by simp [binOp,Op.intCmp])
 |geq=>exact cmp _ h (by simp [binOp,Op.intCmp])
 |shl=>exact absurd rfl hs
 |shr=>exact absurd rfl hr'
theorem sim_shift {op:BinOp} {k kb:IntKind} {a b:Int} {t:TypeId} {r:AV} (hs:op = .shl∨op = .shr) (h:shiftA op k a b=some r) :
  ∃v,(binOp op t (.int k a) (.int kb b)).run P w = .ok v w∧Rep P σ v r:=by
 unfold shiftA at h
 split at h
 ·simp at h
 ·rename_i hb
  rcases hs with rfl | rfl<;>(cases h;exact ⟨_,by simp [binOp,Op.shift,hb],.int _ _⟩)
theorem sim_str {op:BinOp} {a b:ByteArray} {t:TypeId} {r:AV} (h:strA op a.data.toList b.data.toList=some r) :
  ∃v,(binOp op t (.string a) (.string b)).run P w = .ok v w∧Rep P σ v r:=by
 have ea:a.toList=a.data.toList:=ByteArray.toList_eq a
 have eb:b.toList=b.data.toList:=ByteArray.toList_eq b
 cases op with
 |add =>
  simp only [strA] at h
  split at h
  ·rename_i hle
   cases h
   have hle':a.size+b.size≤4611686018427387904:=hle
   have hn:¬(9223372036854775807<(a.size:Int)+(b.size:Int)):=by omega
   refine ⟨.string (a++b),?_,?_⟩
   ·simp [binOp,Op.stringOp,IntKind.max,IntKind.signed,IntKind.bits,hn]
   ·have:a.data.toList++b.data.toList=(a++b).data.toList:=by rw [ByteArray.data_append,Array.toList_append]
    rw [this];exact .str _
  ·simp at h
 |eql=>cases h;exact ⟨_,by simp only [binOp,Op.stringOp,ea,eb,Sem.run_pure],.bool _⟩
 |neq=>cases h;exact ⟨_,by simp only [binOp,Op.stringOp,ea,eb,Sem.run_pure],.bool _⟩
 |lss=>cases h;exact ⟨_,by simp only [binOp,Op.stringOp,ea,eb,Sem.run_pure],.bool _⟩
 |leq=>cases h;exact ⟨_,by simp only [binOp,Op.stringOp,ea,eb,Sem.run_pure],.bool _⟩
 |gtr=>cases h;exact ⟨_,by simp only [binOp,Op.stringOp,ea,eb,Sem.run_pure],.bool _⟩
 |geq=>cases h;exact ⟨_,by simp only [binOp,Op.stringOp,ea,eb,Sem.run_pure],.bool _⟩
 |_=>simp [strA] at h
theorem guard_quiet {op:BinOp} (t:TypeId) (xo yo:Operand) {x y:Value} {xa ya:AV} (hx:Rep P σ x xa) (hy:Rep P σ y ya) (h:guardA P t (isConst xo||isConst yo) xa ya=true) :
  (eqGuard op t xo yo x y).run P w = .ok () w:=by
 cases x with
 |nilIface =>
  cases y with
  |nilIface =>
   cases hx;cases hy
   simp only [guardA,Bool.or_eq_true] at h
   rcases h with h | h
   ·cases xo<;>first | (exact Bool.noConfusion h) | (cases op<;>rfl)
   ·cases yo<;>first | (exact Bool.noConfusion h) | (cases xo<;>cases op<;>rfl)
  |_=>cases op<;>rfl
 |agg cs =>
  cases y with
  |agg ds =>
   cases hx;cases hy
   simp only [guardA,Bool.not_eq_true'] at h
   exact run_eqGuard_agg w op t xo yo cs ds h
  |_=>cases op<;>rfl
 |_=>cases op<;>rfl
set_option maxHeartbeats 1000000 in
theorem binOp_eql {t:TypeId} {x y:Value} {xa ya:AV} (hx:Rep P σ x xa) (hy:Rep P σ y ya) {b:Bool} (hi:∀k n k' n',¬(x = .int k n∧y = .int k' n')) (hs:∀a b,¬(x = .string a∧y = .string b))
  (h:(Op.equal t x y).run P w = .ok b w):(binOp .eql t x y).run P w = .ok (.bool b) w∧(binOp .neq t x y).run P w = .ok (.bool (!b)) w:=by
 constructor
 ·cases x<;>cases y<;>first
   |(exact absurd ⟨rfl,rfl⟩ (hi _ _ _ _))
   |(exact absurd ⟨rfl,rfl⟩ (hs _ _))
   |(cases hx;done)
   |(simp only [binOp,Sem.run_bind,h,Result.andThen_ok,Sem.run_pure])
 ·cases x<;>cases y<;>first
   |(exact absurd ⟨rfl,rfl⟩ (hi _ _ _ _))
   |(exact absurd ⟨rfl,rfl⟩ (hs _ _))
   |(cases hx;done)
   |(simp only [binOp,Sem.run_bind,h,Result.andThen_ok,Sem.run_pure])
theorem sim_bin {op:BinOp} {t:TypeId} {xo yo:Operand} {x y:Value} {xa ya r:AV} (hpt:PtEq P σ w) (hx:Rep P σ x xa) (hy:Rep P σ y ya) (h:binA P op t (isConst xo||isConst yo) xa ya=some r) :
  ∃v,(do eqGuard op t xo yo x y;binOp op t x y:Sem Value).run P w = .ok v w∧Rep P σ v r:=by
 simp only [Sem.run_bind]
 unfold binA at h
 split at h
 ·rename_i ka a kb b
  cases hx;cases hy
  have hg:(eqGuard op t xo yo (.int ka a) (.int kb b)).run P w = .ok () w:=by
   cases op<;>rfl
  rw [hg];simp only [Result.andThen_ok]
  split at h
  ·exact sim_shift (.inl rfl) h
  ·exact sim_shift (.inr rfl) h
  ·rename_i h1 h2
   split at h
   ·rename_i e;subst e
    exact sim_int h1 h2 h
   ·simp at h
 ·cases hx;cases hy
  rename_i a b
  have hg:(eqGuard op t xo yo (.string a) (.string b)).run P w = .ok () w:=by
   cases op<;>rfl
  rw [hg];simp only [Result.andThen_ok]
  exact sim_str h
 ·rename_i h1 h2
  have hi:∀k n k' n',¬(x = .int k n∧y = .int k' n'):=by
   rintro k n k' n' ⟨rfl,rfl⟩
   cases hx;cases hy;exact h1 _ _ _ _ rfl rfl
  have hs:∀a b,¬(x = .string a∧y = .string b):=by
   rintro a b ⟨rfl,rfl⟩
   cases hx;cases hy;exact h2 _ _ rfl rfl
  split at h
  ·split at h
   ·rename_i hg
    obtain ⟨b,hb,rfl⟩:=Option.map_eq_some_iff.1 h
    rw [guard_quiet t xo yo hx hy hg];simp only [Result.andThen_ok]
    exact ⟨_,(binOp_eql hx hy hi hs (sim_eq hpt 10000 t x y xa ya b hx hy hb)).1,.bool _⟩
   ·simp at h
  ·split at h
   ·rename_i hg
    obtain ⟨b,hb,rfl⟩:=Option.map_eq_some_iff.1 h
    rw [guard_quiet t xo yo hx hy hg];simp only [Result.andThen_ok]
    exact ⟨_,(binOp_eql hx hy hi hs (sim_eq hpt 10000 t x y xa ya b hx hy hb)).2,.bool _⟩
   ·simp at h
  ·simp at h
theorem sim_un {op:UnOp} {x:Value} {xa r:AV} (hx:Rep P σ x xa) (h:unA op xa=some r):∃v,(Op.unary op x).run P w = .ok v w∧Rep P σ v r:=by
 unfold unA at h
 split at h
 ·cases hx
  split at h
  ·cases h;exact ⟨_,by simp [Op.unary,Op.intArith],.int _ _⟩
  ·cases h;exact ⟨_,by simp only [Op.unary];rfl,.int _ _⟩
  ·simp at h
 ·cases hx
  split at h
  ·cases h;exact ⟨_,by simp [Op.unary],.bool _⟩
  ·simp at h
 ·simp at h
end
end Go.Abs
namespace Go.Abs
open Go Go.RowKit
section
variable {P:Program} {W:World} {bs:Nat} {σ:Gh} {st:St} {w:World}
theorem Rep.noTok {P:Program} {σ:Gh} {v:Value} {kd off len:Nat} {rows:List (List AV)} (h:Rep P σ v (.sl kd rows off len .exact)):Rep P σ v (.sl kd rows off len .no):=by
 cases h with
 |sl b o o0 _ c _ _ _ _ hlen hrow hc ho hsh htok hI hR=>exact .sl b o o0 _ c _ _ _ .no hlen hrow hc ho hsh.weak trivial hI hR
inductive RepO (P:Program) (σ:Gh):Option Value→Option AV→Prop where
 |none:RepO P σ none none
 |some {v:Value} {a:AV} (h:Rep P σ v a):RepO P σ (some v) (some a)
theorem run_bound {v:Value} {a:AV} {n y:Nat} {c:BoundsCode} (hv:Rep P σ v a) (hn:natA a=some n) (hy:n≤y):(Instr.sliceBound v y c).run P w = .ok n w:=by
 obtain ⟨k,m,rfl,hm,rfl⟩:=natA_int hv hn
 have h:0≤m∧m≤(y:Int):=⟨hm,by omega⟩
 simp [Instr.sliceBound,asIntOf,h]
theorem run_bounds2 {isS:Bool} {len cap l h:Nat} {lo hi:Option Value} {la ha:Option AV} (hlo:RepO P σ lo la) (hhi:RepO P σ hi ha)
  (el:optA la 0=some l) (eh:optA ha len=some h) (h1:l≤h) (h2:h≤cap) (h0:ha=none→len≤cap) :
  (Instr.sliceBounds isS len cap lo hi none).run P w = .ok (l,h,cap) w:=by
 cases hhi with
 |none =>
  simp only [optA,Option.some.injEq] at eh;subst eh
  cases hlo with
  |none=>simp only [optA,Option.some.injEq] at el;subst el;simp [Instr.sliceBounds]
  |some hl=>simp only [optA] at el;simp [Instr.sliceBounds,run_bound hl el h1]
 |some hh =>
  simp only [optA] at eh
  cases hlo with
  |none=>simp only [optA,Option.some.injEq] at el;subst el;simp [Instr.sliceBounds,run_bound hh eh h2]
  |some hl=>simp only [optA] at el;simp [Instr.sliceBounds,run_bound hh eh h2,run_bound hl el h1]
theorem run_bounds3 {isS:Bool} {len cap l h m:Nat} {lo:Option Value} {hv mv:Value} {la:Option AV} {ha ma:AV} (hlo:RepO P σ lo la) (hhi:Rep P σ hv ha) (hmx:Rep P σ mv ma)
  (el:optA la 0=some l) (eh:natA ha=some h) (em:natA ma=some m) (h1:l≤h) (h2:h≤m) (h3:m≤cap) :
  (Instr.sliceBounds isS len cap lo (some hv) (some mv)).run P w = .ok (l,h,m) w:=by
 cases hlo with
 |none=>simp only [optA,Option.some.injEq] at el;subst el;simp [Instr.sliceBounds,run_bound hmx em h3,run_bound hhi eh h2]
 |some hl=>simp only [optA] at el;simp [Instr.sliceBounds,run_bound hmx em h3,run_bound hhi eh h2,run_bound hl el h1]
theorem sliceAt_slice {t:TypeId} {x:Value} {lo hi mx:Option Value} {d:TypeDesc} (hd:P.underlying t=some d) (hn:∀n e,d≠.array n e) :
  (Instr.sliceAt t x lo hi mx).run P w=(Instr.slice t x lo hi mx).run P w:=by
 simp only [Instr.sliceAt,Sem.run_bind,run_under' hd,Result.andThen_ok]
theorem str_cut (s:ByteArray) (l h:Nat):(s.extract l h).data.toList=(s.data.toList.take h).drop l:=by
 rw [ByteArray.data_extract,Array.toList_extract]
 simp [List.extract_eq_take_drop,List.drop_take]
theorem sim_slice {t:TypeId} {x:Value} {xa a:AV} {lo hi mx:Option Value} {la ha ma:Option AV} (h:WF P W bs σ st w) (hx:Rep P σ x xa) (hlo:RepO P σ lo la) (hhi:RepO P σ hi ha) (hmx:RepO P σ mx ma)
  (hs:sliceA P st t xa la ha ma=some a):∃v,(Instr.sliceAt t x lo hi mx).run P w = .ok v w∧Rep P σ v a:=by
 unfold sliceA at hs
 revert hs
 split
 ·rename_i s hd
  intro hs
  obtain ⟨hh,eh,h2⟩:=Option.bind_eq_some_iff.1 hs
  obtain ⟨l,el,h3⟩:=Option.bind_eq_some_iff.1 h2
  split at h3
  ·rename_i hc
   obtain ⟨hm,hlh,hhs⟩:=hc
   cases hmx with
   |some=>simp at hm
   |none =>
    cases h3
    cases hx with
    |str s =>
     have hsz:s.data.toList.length=s.size:=rfl
     rw [hsz] at eh hhs
     rw [sliceAt_slice hd (by intros;simp),Instr.slice]
     refine ⟨.string (s.extract l hh),?_,?_⟩
     ·simp only [Sem.run_bind,run_under' hd,Result.andThen_ok]
      simp [run_bounds2 hlo hhi el eh hlh hhs (fun _=>Nat.le_refl _)]
     ·rw [←str_cut];exact .str _
  ·simp at h3
 ·rename_i e hd
  intro hs
  obtain ⟨n,hn,h1⟩:=Option.bind_eq_some_iff.1 hs
  obtain ⟨hh,eh,h2⟩:=Option.bind_eq_some_iff.1 h1
  obtain ⟨l,el,h3⟩:=Option.bind_eq_some_iff.1 h2
  obtain ⟨m,em,h4⟩:=Option.bind_eq_some_iff.1 h3
  split at h4
  ·rename_i hc
   obtain ⟨rfl,rfl,rfl,hio⟩:=hc
   cases h4
   cases hx
   rw [sliceAt_slice hd (by intros;simp),Instr.slice]
   refine ⟨.slice none 0 0,?_,.nils⟩
   simp only [Sem.run_bind,run_under' hd,Result.andThen_ok]
   cases hmx with
   |none=>rw [run_bounds2 hlo hhi el eh (Nat.le_refl _) (Nat.le_refl _) (fun _=>Nat.le_refl _)];simp [run_sizeOf' hn]
   |some hm =>
    cases hhi with
    |none=>simp at hio
    |some hv=>simp only [optA] at eh em;rw [run_bounds3 hlo hv hm el eh em (Nat.le_refl _) (Nat.le_refl _) (Nat.le_refl _)];simp [run_sizeOf' hn]
  ·simp at h4
 ·rename_i e sz rows off len tok hd
  intro hs
  obtain ⟨n,hn,h2⟩:=Option.bind_eq_some_iff.1 hs
  obtain ⟨hh,eh,h3⟩:=Option.bind_eq_some_iff.1 h2
  obtain ⟨l,el,h4⟩:=Option.bind_eq_some_iff.1 h3
  obtain ⟨hsz,hu8⟩:=kdOf_sz hn
  clear hs h2 h3
  split at h4
  ·rename_i hc
   obtain ⟨rfl,hlh⟩:=hc
   rw [sliceAt_slice hd (by intros;simp),Instr.slice]
   cases hx with
   |slz a kd =>
    simp only [Sem.run_bind,run_under' hd,Result.andThen_ok]
    split at h4
    ·split at h4
     ·rename_i hcap
      obtain rfl:hh=0:=by simp at hcap;exact hcap
      obtain rfl:l=0:=by omega
      cases h4
      cases hmx
      rw [run_bounds2 hlo hhi el eh (Nat.le_refl _) (Nat.zero_le _) (fun _=>Nat.le_refl _)]
      simp only [Result.andThen_ok,run_sizeOf' hsz,Sem.run_pure]
      exact ⟨_,rfl,.slz a _⟩
     ·simp at h4
    ·rename_i mv
     obtain ⟨m,em,h5⟩:=Option.bind_eq_some_iff.1 h4
     split at h5
     ·rename_i hc
      obtain ⟨hhs,hhm,hmr⟩:=hc
      obtain rfl:m=0:=by simp at hmr;exact hmr
      obtain rfl:hh=0:=by omega
      obtain rfl:l=0:=by omega
      cases h5
      cases hmx with
      |some hm =>
       cases hhi with
       |none=>simp at hhs
       |some hv =>
        simp only [optA] at eh
        rw [run_bounds3 hlo hv hm el eh em (Nat.le_refl _) hhm (by omega)]
        simp only [Result.andThen_ok,run_sizeOf' hsz,Sem.run_pure]
        exact ⟨_,rfl,.slz a _⟩
     ·simp at h5
   |sl b o o0 _ c _ _ _ _ hlen hrow hcc ho hsh htok hI hR =>
    simp only [Sem.run_bind,run_under' hd,Result.andThen_ok]
    split at h4
    ·rename_i hmn
     split at h4
     ·rename_i hcap
      cases h4
      cases hmx
      rw [run_bounds2 hlo hhi el eh hlh (by omega) (fun _=>by omega)]
      simp only [Result.andThen_ok,run_sizeOf' hsz,Sem.run_pure]
      have hpos:=szk_pos sz
      obtain ⟨nn,hs0,hs2⟩:∃nn,(∀l',l'≤nn→ShapedS P σ b sz l' tok.isSpare)∧max (o0+rows.length*szk sz) (if c=0 then 0 else o+c*szk sz)≤nn:=⟨_,fun l' hl=>hsh.le hl,Nat.le_refl _⟩
      by_cases hcl:c=l
      ·refine ⟨_,rfl,?_⟩
       rw [if_pos hcl]
       refine .sl b o o0 _ _ _ _ _ _ (by omega) hrow (by omega) (fun hpos=>by omega) (hs0 _ ?_) ?_ hI hR
       ·rw [if_pos (by omega)];exact Nat.max_le.2 ⟨Nat.le_trans (Nat.le_max_left _ _) hs2,Nat.zero_le _⟩
       ·cases tok with
        |no=>trivial
        |exact=>simp only [TokOk] at htok ⊢;omega
        |spare t ep=>exact htok
      ·refine ⟨_,rfl,?_⟩
       rw [if_neg hcl,Option.map_some,addr_add]
       have hoo:=ho (by omega)
       have e1:(off+l)*szk sz=off*szk sz+l*szk sz:=Nat.add_mul ..
       have e2:l*szk sz+(c - l)*szk sz=c*szk sz:=by rw [←Nat.add_mul];congr 1;omega
       refine .sl b _ o0 _ _ _ _ _ _ (by omega) hrow (by omega) (fun _=>by rw [hoo,e1];omega) (hs0 _ ?_) ?_ hI hR
       ·refine Nat.max_le.2 ⟨Nat.le_trans (Nat.le_max_left _ _) hs2,?_⟩
        split
        ·omega
        ·have:=Nat.le_trans (Nat.le_max_right _ _) hs2
         rw [if_neg (by omega)] at this
         omega
       ·cases tok with
        |no=>trivial
        |exact=>simp only [TokOk] at htok ⊢;omega
        |spare t ep=>exact htok
     ·simp at h4
    ·rename_i mv
     obtain ⟨m,em,h5⟩:=Option.bind_eq_some_iff.1 h4
     split at h5
     ·rename_i hc
      obtain ⟨hhs,hhm,hmr⟩:=hc
      cases h5
      cases hmx with
      |some hm =>
       cases hhi with
       |none=>simp at hhs
       |some hv =>
        simp only [optA] at eh
        rw [run_bounds3 hlo hv hm el eh em hlh hhm (by omega)]
        simp only [Result.andThen_ok,run_sizeOf' hsz,Sem.run_pure]
        suffices key:∃v,Sem.run P (pure (Value.slice (if m=l then some (⟨b,o,none⟩:Addr) else Option.map (fun x=>x.add (l*szk sz)) (some (⟨b,o,none⟩:Addr))) (hh - l) (m - l))) w = .ok v w∧Rep P σ v (.sl sz (rows.take (off+m)) (off+l) (hh - l) .exact) by
         obtain ⟨v,k1,k2⟩:=key
         refine ⟨v,k1,?_⟩
         split
         ·exact k2.noTok
         ·exact k2
        have hpos:=szk_pos sz
        obtain ⟨nn,hs0,hs2⟩:∃nn,(∀l',l'≤nn→ShapedS P σ b sz l' false)∧max (o0+rows.length*szk sz) (if c=0 then 0 else o+c*szk sz)≤nn:=⟨_,fun l' hl=>(hsh.le hl).weak,Nat.le_refl _⟩
        have hlt:(rows.take (off+m)).length=off+m:=by simp;omega
        have hrow':∀r ∈ rows.take (off+m),r.length=szk sz:=fun r hr=>hrow r (List.mem_of_mem_take hr)
        have hI':∀(i:Nat) r (j:Nat) a,(rows.take (off+m))[i]?=some r→r[j]?=some a→(σ.I b (o0+i*szk sz+j)).isSome=true:=fun i r j a h1 h2=>by
         rw [List.getElem?_take] at h1
         split at h1
         ·exact hI i r j a h1 h2
         ·simp at h1
        have hR':∀(i:Nat) r (j:Nat) a v,(rows.take (off+m))[i]?=some r→r[j]?=some a→σ.I b (o0+i*szk sz+j)=some v→Rep P σ v a:=fun i r j a v h1 h2 h3=>by
         rw [List.getElem?_take] at h1
         split at h1
         ·exact hR i r j a v h1 h2 h3
         ·simp at h1
        have hm1:(off+m)*szk sz≤rows.length*szk sz:=Nat.mul_le_mul_right _ hmr
        by_cases hcl:m=l
        ·refine ⟨_,rfl,?_⟩
         rw [if_pos hcl]
         refine .sl b o o0 _ _ _ _ _ _ (by rw [hlt];omega) hrow' (by rw [hlt];omega) (fun hp=>by omega) (hs0 _ ?_) (by simp only [TokOk];rw [hlt];omega) hI' hR'
         rw [if_pos (by omega),hlt]
         have:=Nat.le_trans (Nat.le_max_left _ _) hs2
         exact Nat.max_le.2 ⟨by omega,Nat.zero_le _⟩
        ·refine ⟨_,rfl,?_⟩
         rw [if_neg hcl,Option.map_some,addr_add]
         have hoo:=ho (by omega)
         have e1:(off+l)*szk sz=off*szk sz+l*szk sz:=Nat.add_mul ..
         have e2:l*szk sz+(m - l)*szk sz=m*szk sz:=by rw [←Nat.add_mul];congr 1;omega
         have e3:(off+m)*szk sz=off*szk sz+m*szk sz:=Nat.add_mul ..
         refine .sl b _ o0 _ _ _ _ _ _ (by rw [hlt];omega) hrow' (by rw [hlt];omega) (fun _=>by rw [hoo,e1];omega) (hs0 _ ?_) (by simp only [TokOk];rw [hlt];omega) hI' hR'
         rw [hlt]
         have:=Nat.le_trans (Nat.le_max_left _ _) hs2
         refine Nat.max_le.2 ⟨by omega,?_⟩
         split
         ·omega
         ·omega
     ·simp at h5
  ·simp at h4
 ·rename_i e o ep off len cap hd
  intro hs
  obtain ⟨n,hn,h2⟩:=Option.bind_eq_some_iff.1 hs
  obtain ⟨kd,hk,h2⟩:=Option.bind_eq_some_iff.1 h2
  obtain ⟨hh,eh,h3⟩:=Option.bind_eq_some_iff.1 h2
  obtain ⟨l,el,h4⟩:=Option.bind_eq_some_iff.1 h3
  obtain ⟨hsz,hu8⟩:=kdOf_sz hn
  clear hs h2 h3
  split at h4
  ·rename_i hc
   obtain ⟨rfl,hlh⟩:=hc
   rw [sliceAt_slice hd (by intros;simp),Instr.slice]
   obtain ⟨rs,hobj⟩:=msKd_get hk
   obtain ⟨b',base',ho1,_⟩:=h.obj _ _ hobj
   cases hx with
   |ms b base kd' oo _ _ _ _ c _ hR hcap hlen ho hsh =>
    rw [hR] at ho1
    simp only [Option.some.injEq,Prod.mk.injEq] at ho1
    obtain ⟨_,_,rfl⟩:=ho1
    simp only [Sem.run_bind,run_under' hd,Result.andThen_ok]
    have hpos:=szk_pos kd'
    obtain ⟨e',nn,hs1,hs2,hs3⟩:=hsh
    have e1:(off+l)*szk kd'=off*szk kd'+l*szk kd':=Nat.add_mul ..
    split at h4
    ·split at h4
     ·rename_i hhc
      cases h4
      cases hmx
      rw [run_bounds2 hlo hhi el eh hlh (by omega) (fun _=>by omega)]
      simp only [Result.andThen_ok,run_sizeOf' hsz,Sem.run_pure]
      by_cases hcl:c=l
      ·refine ⟨_,rfl,?_⟩
       rw [if_pos hcl]
       exact .ms b base kd' oo _ _ _ _ _ _ hR (by omega) (by omega) (fun hp=>by omega) ⟨e',nn,hs1,by rw [if_pos (by omega)];exact Nat.zero_le _,hs3⟩
      ·refine ⟨_,rfl,?_⟩
       rw [if_neg hcl,Option.map_some,addr_add]
       have hoo:=ho (by omega)
       have e2:l*szk kd'+(c - l)*szk kd'=c*szk kd':=by rw [←Nat.add_mul];congr 1;omega
       refine .ms b base kd' _ _ _ _ _ _ _ hR (by omega) (by omega) (fun _=>by rw [hoo,e1];omega) ⟨e',nn,hs1,?_,hs3⟩
       rw [if_neg (by omega)] at hs2 ⊢
       omega
     ·simp at h4
    ·rename_i mv
     obtain ⟨m,em,h5⟩:=Option.bind_eq_some_iff.1 h4
     split at h5
     ·rename_i hc
      obtain ⟨hhs,hhm,hmr⟩:=hc
      cases h5
      cases hmx with
      |some hm =>
       cases hhi with
       |none=>simp at hhs
       |some hv =>
        simp only [optA] at eh
        rw [run_bounds3 hlo hv hm el eh em hlh hhm (by omega)]
        simp only [Result.andThen_ok,run_sizeOf' hsz,Sem.run_pure]
        by_cases hcl:m=l
        ·refine ⟨_,rfl,?_⟩
         rw [if_pos hcl]
         exact .ms b base kd' oo _ _ _ _ _ _ hR (by omega) (by omega) (fun hp=>by omega) ⟨e',nn,hs1,by rw [if_pos (by omega)];exact Nat.zero_le _,hs3⟩
        ·refine ⟨_,rfl,?_⟩
         rw [if_neg hcl,Option.map_some,addr_add]
         have hoo:=ho (by omega)
         have e2:l*szk kd'+(m - l)*szk kd'=m*szk kd':=by rw [←Nat.add_mul];congr 1;omega
         have e3:m*szk kd'≤c*szk kd':=Nat.mul_le_mul_right _ (by omega)
         refine .ms b base kd' _ _ _ _ _ _ _ hR (by omega) (by omega) (fun _=>by rw [hoo,e1];omega) ⟨e',nn,hs1,?_,hs3⟩
         rw [if_neg (by omega)] at hs2 ⊢
         omega
     ·simp at h5
  ·simp at h4
 ·intro hs;simp at hs
end
end Go.Abs
namespace Go.Abs
open Go Go.RowKit
section
variable {P:Program} {W:World} {bs:Nat} {σ:Gh} {st:St} {w:World}
structure RepCells (P:Program) (σ:Gh) (cs:Array Value) (as:List AV):Prop where
 size:cs.size=as.length
 one:∀(j:Nat) v,cs[j]?=some v→v.oneCell'=true
 rep:∀(j:Nat) v a,cs[j]?=some v→as[j]?=some a→Rep P σ v a
theorem RepCells.agg {cs:Array Value} {as:List AV} (h:RepCells P σ cs as):Rep P σ (.agg cs) (.agg as):=.agg cs as h.size h.one h.rep
theorem RepCells.mono {σ':Gh} {cs:Array Value} {as:List AV} (h:RepCells P σ cs as) (hl:σ.Le σ'):RepCells P σ' cs as:=⟨h.size,h.one,fun j v a h1 h2=>(h.rep j v a h1 h2).mono hl⟩
theorem RepCells.single {v:Value} {a:AV} (h:Rep P σ v a) (h1:v.oneCell'=true):RepCells P σ #[v] [a]:=by
 refine ⟨rfl,fun j u hu=>?_,fun j u b hu hb=>?_⟩
 ·cases j with
  |zero=>simp at hu;subst hu;exact h1
  |succ j=>simp at hu
 ·cases j with
  |zero=>simp at hu hb;subst hu;subst hb;exact h
  |succ j=>simp at hu
theorem Rep.cells {v:Value} {a:AV} (h:Rep P σ v a) (ht:a.isTup=false):RepCells P σ v.cells a.cells:=by
 cases h with
 |agg cs as hs h1 hR=>exact ⟨hs,h1,hR⟩
 |tup=>simp [AV.isTup] at ht
 |bool b=>exact .single (.bool b) rfl
 |int k n=>exact .single (.int k n) rfl
 |str s=>exact .single (.str s) rfl
 |nilp=>exact .single .nilp rfl
 |nilm=>exact .single .nilm rfl
 |nilf=>exact .single .nilf rfl
 |nili=>exact .single .nili rfl
 |nils=>exact .single .nils rfl
 |slz a kd=>exact .single (.slz a kd) rfl
 |sl b o o0 len c kd rows off tok hlen hrow hc ho hsh htok hI hR=>exact .single (.sl b o o0 len c kd rows off tok hlen hrow hc ho hsh htok hI hR) rfl
 |ms b base kd oo o ep off len c cap hR hcap hlen ho hsh=>exact .single (.ms b base kd oo o ep off len c cap hR hcap hlen ho hsh) rfl
 |ip b x row c hI hR=>exact .single (.ip b x row c hI hR) rfl
 |ptr b base kd o ep i c hR=>exact .single (.ptr b base kd o ep i c hR) rfl
 |bp b o c hB=>exact .single (.bp b o c hB) rfl
 |fn f cs as hsp hs h=>exact .single (.fn f cs as hsp hs h) rfl
 |yld b o hB=>exact .single (.yld b o hB) rfl
 |iface t v a h=>exact .single (.iface t v a h) rfl
 |mp b o hB=>exact .single (.mp b o hB) rfl
 |it b o hB=>exact .single (.it b o hB) rfl
 |dp b o0 rows off hlo hrow hsh hI hR=>exact .single (.dp b o0 rows off hlo hrow hsh hI hR) rfl
theorem setAt_spec:∀{as:List AV} {off:Nat} {bs as':List AV},setAt as off bs=some as' →
  as'.length=as.length∧off+bs.length≤as.length∧∀j,as'[j]?=if off≤j∧j<off+bs.length then bs[j - off]? else as[j]?
 |as,0,[],as',h=>by
  simp [setAt] at h;subst h
  exact ⟨rfl,by simp,fun j=>by rw [if_neg (by simp)]⟩
 |[],0,c::cs,as',h=>by simp [setAt] at h
 |a::r,0,c::cs,as',h=>by
  simp only [setAt,Option.map_eq_some_iff] at h
  obtain ⟨r',hr,rfl⟩:=h
  obtain ⟨h1,h2,h3⟩:=setAt_spec hr
  refine ⟨by simp [h1],by simp at h2 ⊢;omega,fun j=>?_⟩
  cases j with
  |zero=>simp
  |succ j =>
   have:=h3 j
   simp only [List.getElem?_cons_succ,List.length_cons,Nat.zero_add,Nat.sub_zero] at this ⊢
   rw [this]
   by_cases hj:j<cs.length
   ·rw [if_pos ⟨Nat.zero_le _,hj⟩,if_pos ⟨Nat.zero_le _,by omega⟩]
   ·rw [if_neg (fun x=>hj x.2),if_neg (by omega)]
 |[],n+1,bs,as',h=>by cases bs<;>simp [setAt] at h
 |a::r,n+1,bs,as',h=>by
  have h':(setAt r n bs).map (a::·)=some as':=by cases bs<;>simpa [setAt] using h
  rw [Option.map_eq_some_iff] at h'
  obtain ⟨r',hr,rfl⟩:=h'
  obtain ⟨h1,h2,h3⟩:=setAt_spec hr
  refine ⟨by simp [h1],by simp;omega,fun j=>?_⟩
  cases j with
  |zero=>rw [if_neg (by omega)];simp
  |succ j =>
   simp only [List.getElem?_cons_succ]
   rw [h3 j]
   by_cases hj:n≤j∧j<n+bs.length
   ·rw [if_pos hj,if_pos (by omega)]
    congr 1;omega
   ·rw [if_neg hj,if_neg (by omega)]
theorem fold_set (off:Nat):∀(l:List Value) (k:Nat) (cells:Array Value),off+k+l.length≤cells.size →
  ((l.zipIdx k).foldl (fun cs (p:Value×Nat)=>cs.setIfInBounds (off+p.2) p.1) cells).size=cells.size ∧
  ∀j:Nat,((l.zipIdx k).foldl (fun cs (p:Value×Nat)=>cs.setIfInBounds (off+p.2) p.1) cells)[j]?=if off+k≤j∧j<off+k+l.length then l[j - (off+k)]? else cells[j]?
 |[],k,cells,_=>⟨rfl,fun j=>by rw [if_neg (by simp)];rfl⟩
 |v::l,k,cells,h=>by
  simp only [List.zipIdx_cons,List.foldl_cons]
  have h':off+(k+1)+l.length≤(cells.setIfInBounds (off+k) v).size:=by simp at h ⊢;omega
  obtain ⟨h1,h2⟩:=fold_set off l (k+1) _ h'
  refine ⟨by rw [h1];simp,fun j=>?_⟩
  rw [h2 j]
  simp at h
  by_cases hj:off+(k+1)≤j∧j<off+(k+1)+l.length
  ·rw [if_pos hj,if_pos (by simp;omega)]
   have:j - (off+k)=(j - (off+(k+1)))+1:=by omega
   rw [this,List.getElem?_cons_succ]
  ·rw [if_neg hj]
   by_cases e:j=off+k
   ·subst e
    rw [if_pos (by simp)]
    rw [Array.getElem?_setIfInBounds_self_of_lt (by omega)]
    simp
   ·rw [if_neg (by simp;omega),Array.getElem?_setIfInBounds_ne (by omega)]
theorem RepCells.setAt {cs vs:Array Value} {as bs as':List AV} {off:Nat} (h:RepCells P σ cs as) (hv:RepCells P σ vs bs) (hs:setAt as off bs=some as') :
  RepCells P σ (vs.zipIdx.foldl (fun cs (x:Value×Nat)=>cs.setIfInBounds (off+x.2) x.1) cs) as'∧off+vs.size≤cs.size:=by
 obtain ⟨h1,h2,h3⟩:=setAt_spec hs
 have hle:off+vs.size≤cs.size:=by rw [h.size,hv.size];exact h2
 obtain ⟨f1,f2⟩:=fold_set off vs.toList 0 cs (by simpa using hle)
 have e:vs.zipIdx.foldl (fun cs (x:Value×Nat)=>cs.setIfInBounds (off+x.2) x.1) cs=(vs.toList.zipIdx 0).foldl (fun cs (p:Value×Nat)=>cs.setIfInBounds (off+p.2) p.1) cs:=by
  rw [←Array.foldl_toList,Array.toList_zipIdx]
 rw [e]
 refine ⟨⟨by rw [f1,h.size,h1],fun j v hj=>?_,fun j v a hj ha=>?_⟩,hle⟩
 ·rw [f2 j] at hj
  split at hj
  ·rename_i hc
   exact hv.one _ v (by simpa using hj)
  ·exact h.one _ v hj
 ·rw [f2 j] at hj
  rw [h3 j] at ha
  have hsz:vs.toList.length=bs.length:=by simpa using hv.size
  by_cases hc:off+0≤j∧j<off+0+vs.toList.length
  ·rw [if_pos hc] at hj
   rw [if_pos (by omega)] at ha
   exact hv.rep (j - off) v a (by simpa using hj) ha
  ·rw [if_neg hc] at hj
   rw [if_neg (by omega)] at ha
   exact h.rep j v a hj ha
theorem ofVal_rep:∀(d:Nat) (v:Value) (a:AV),ofVal d v=some a→Rep P σ v a
 | 0,_,_,h=>by simp [ofVal] at h
 |d+1,v,a,h=>by
  have all:∀(cs:Array Value) (as:List AV),cs.toList.mapM (ofVal d)=some as→cs.size=as.length∧∀(j:Nat) v a,cs[j]?=some v→as[j]?=some a→Rep P σ v a:=by
   intro cs as hm
   have:∀(l:List Value) (as:List AV),l.mapM (ofVal d)=some as→l.length=as.length∧∀(j:Nat) v a,l[j]?=some v→as[j]?=some a→Rep P σ v a:=by
    intro l
    induction l with
    |nil=>intro as h;simp at h;subst h;exact ⟨rfl,by simp⟩
    |cons x r ih =>
     intro as h
     rw [List.mapM_cons] at h
     simp only [bind,Option.bind_eq_some_iff,pure,Option.some.injEq] at h
     obtain ⟨a,ha,as',has,rfl⟩:=h
     obtain ⟨h1,h2⟩:=ih as' has
     refine ⟨by simp [h1],fun j v b hv hb=>?_⟩
     cases j with
     |zero=>simp at hv hb;subst hv;subst hb;exact ofVal_rep d _ _ ha
     |succ j=>exact h2 j v b (by simpa using hv) (by simpa using hb)
   obtain ⟨h1,h2⟩:=this cs.toList as hm
   exact ⟨by simpa using h1,fun j v a hv ha=>h2 j v a (by simpa using hv) ha⟩
  cases v with
  |bool b=>simp [ofVal] at h;subst h;exact .bool b
  |int k n=>simp [ofVal] at h;subst h;exact .int k n
  |string s=>simp [ofVal] at h;subst h;exact .str s
  |pointer p=>cases p<;>simp [ofVal] at h;subst h;exact .nilp
  |slice p l c =>
   cases p with
   |some p=>simp [ofVal] at h
   |none =>
    cases l with
    |succ l=>simp [ofVal] at h
    |zero =>
     cases c with
     |succ c=>simp [ofVal] at h
     |zero=>simp [ofVal] at h;subst h;exact .nils
  |map r=>cases r<;>simp [ofVal] at h;subst h;exact .nilm
  |nilFunc=>simp [ofVal] at h;subst h;exact .nilf
  |nilIface=>simp [ofVal] at h;subst h;exact .nili
  |iface t v =>
   simp only [ofVal,Option.map_eq_some_iff] at h
   obtain ⟨b,hb,rfl⟩:=h
   exact .iface t v b (ofVal_rep d v b hb)
  |agg cs =>
   simp only [ofVal] at h
   split at h
   ·rename_i hall
    rw [Option.map_eq_some_iff] at h
    obtain ⟨as,has,rfl⟩:=h
    obtain ⟨h1,h2⟩:=all cs as has
    refine .agg cs as h1 (fun j v hv=>?_) h2
    rw [Array.all_eq_true] at hall
    obtain ⟨hj,rfl⟩:=Array.getElem?_eq_some_iff.1 hv
    exact hall j hj
   ·simp at h
  |tuple cs =>
   simp only [ofVal,Option.map_eq_some_iff] at h
   obtain ⟨as,has,rfl⟩:=h
   obtain ⟨h1,h2⟩:=all cs as has
   exact .tup cs as h1 h2
  |_=>simp [ofVal] at h
theorem sim_zero {t:TypeId} {z:AV} (h:zeroA P t=some z) (w:World):∃v,(zeroValue t).run P w = .ok v w∧Rep P σ v z:=by
 unfold zeroA at h
 obtain ⟨i,hi,h2⟩:=Option.bind_eq_some_iff.1 h
 obtain ⟨v,hv,h3⟩:=Option.bind_eq_some_iff.1 h2
 exact ⟨v,by simp [zeroValue,typeInfo,hi,hv],ofVal_rep 4 v z h3⟩
inductive RepPs (P:Program) (σ:Gh):List (Nat×Value)→List (Nat×AV)→Prop where
 |nil:RepPs P σ [] []
 |cons {i:Nat} {v:Value} {a:AV} {vs:List (Nat×Value)} {as:List (Nat×AV)} (h:Rep P σ v a) (hs:RepPs P σ vs as):RepPs P σ ((i,v)::vs) ((i,a)::as)
theorem sim_fill {place:Nat→Option (Nat×Nat)}:∀{ps:List (Nat×Value)} {as:List (Nat×AV)} {cs:Array Value} {cells cells':List AV},RepPs P σ ps as→RepCells P σ cs cells→fillA place cells as=some cells' →
  ∃cs',Instr.fill place cs ps=some cs'∧RepCells P σ cs' cells':=by
 intro ps
 induction ps with
 |nil=>intro as cs cells cells' hp hc h;cases hp;simp [fillA] at h;subst h;exact ⟨cs,rfl,hc⟩
 |cons p ps ih =>
  intro as cs cells cells' hp hc h
  cases hp with
  | @cons i v a vs as ha hs =>
   simp only [fillA] at h
   obtain ⟨q,hq,h2⟩:=Option.bind_eq_some_iff.1 h
   split at h2
   ·rename_i hcond
    obtain ⟨c',hc',h3⟩:=Option.bind_eq_some_iff.1 h2
    have hv:=ha.cells hcond.2
    obtain ⟨h5,h6⟩:=hc.setAt hv hc'
    obtain ⟨cs',h7,h8⟩:=ih hs h5 h3
    refine ⟨cs',?_,h8⟩
    obtain ⟨off,size⟩:=q
    have hsz:v.cells.size=size:=by rw [hv.size];exact hcond.1
    simp only [Instr.fill,hq]
    rw [if_neg (by simp [hsz];omega)]
    exact h7
   ·simp at h2
theorem sim_places (fields:List Field) (h:fields.all (fun f=>(szOf P f.type).isSome)=true) (w:World) :
  ∃l:List (Nat×Nat),(fields.mapM (fun f=>do pure (f.offset,←sizeOf f.type):Field→Sem (Nat×Nat))).run P w = .ok l w∧∀i:Nat,l[i]?=(fields[i]?).bind fun f=>(szOf P f.type).map fun s=>(f.offset,s):=by
 induction fields with
 |nil=>exact ⟨[],rfl,by simp⟩
 |cons f fs ih =>
  simp only [List.all_cons,Bool.and_eq_true] at h
  obtain ⟨l,h1,h2⟩:=ih h.2
  obtain ⟨s,hs⟩:=Option.isSome_iff_exists.1 h.1
  refine ⟨(f.offset,s)::l,?_,fun i=>?_⟩
  ·rw [List.mapM_cons]
   simp only [Sem.run_bind,Sem.run_pure,run_sizeOf' hs,Result.andThen_ok]
   rw [h1];rfl
  ·cases i with
   |zero=>simp [hs]
   |succ i=>simp [h2]
theorem sim_build {t:TypeId} {ps:List (Nat×Value)} {as:List (Nat×AV)} {a:AV} (hp:RepPs P σ ps as) (h:buildA P t as=some a) :
  ∃v,(Instr.build t ps.toArray).run P w = .ok v w∧Rep P σ v a:=by
 unfold buildA at h
 obtain ⟨z,hz,h2⟩:=Option.bind_eq_some_iff.1 h
 clear h
 obtain ⟨zv,hz1,hz2⟩:=sim_zero (σ:=σ) hz w
 split at h2
 ·simp at h2
 ·rename_i htup
  have hzc:=hz2.cells (by simpa using htup)
  split at h2
  ·rename_i fields hd
   split at h2
   ·rename_i hall
    obtain ⟨cells,hc,rfl⟩:=Option.map_eq_some_iff.1 h2
    obtain ⟨l,hl1,hl2⟩:=sim_places fields.toList hall w
    have e:(fun i:Nat=>(fields[i]?).bind fun (f:Field)=>(szOf P f.type).map fun s=>(f.offset,s))=(fun i:Nat=>l[i]?):=by
     funext i;rw [hl2 i];simp
    rw [e] at hc
    obtain ⟨cs',h7,h8⟩:=sim_fill hp hzc hc
    refine ⟨.agg cs',?_,h8.agg⟩
    have hm:(fields.mapM (fun f=>do pure (f.offset,←sizeOf f.type):Field→Sem (Nat×Nat))).run P w = .ok l.toArray w:=by
     rw [Array.mapM_eq_mapM_toList]
     simp only [Sem.run_map,hl1,Result.andThen_ok]
    simp only [Instr.build,Sem.run_bind,hz1,run_under' hd,hm,Result.andThen_ok]
    simp [h7]
   ·simp at h2
  ·rename_i n e hd
   obtain ⟨s,hs,h3⟩:=Option.bind_eq_some_iff.1 h2
   obtain ⟨cells,hc,rfl⟩:=Option.map_eq_some_iff.1 h3
   obtain ⟨cs',h7,h8⟩:=sim_fill hp hzc hc
   refine ⟨.agg cs',?_,h8.agg⟩
   simp only [Instr.build,Sem.run_bind,hz1,run_under' hd,run_sizeOf' hs,Result.andThen_ok]
   simp [h7]
  ·simp at h2
theorem sim_iface {t:TypeId} {x:Value} {xa a:AV} (hx:Rep P σ x xa) (h:(match P.underlying t with | some (.interface _)=>none | some _=>some (AV.iface t xa) | none=>none)=some a) :
  ∃v,(Instr.makeInterface t x).run P w = .ok v w∧Rep P σ v a:=by
 split at h
 ·simp at h
 ·rename_i d hne hd
  cases h
  refine ⟨.iface t x,?_,.iface t x xa hx⟩
  simp only [Instr.makeInterface,Sem.run_bind,run_under' hd,Result.andThen_ok]
  cases d<;>first | rfl | (exact absurd rfl (hne _))
 ·simp at h
theorem sim_extract {i:Nat} {x:Value} {xa a:AV} (hx:Rep P σ x xa) (h:extractA i xa=some a):∃v,(Instr.extract x i).run P w = .ok v w∧Rep P σ v a:=by
 unfold extractA at h
 split at h
 ·cases hx with
  |tup cs as hs hR =>
   have hi:i<cs.size:=by rw [hs];exact (List.getElem?_eq_some_iff.1 h).1
   exact ⟨cs[i],by simp [Instr.extract,Array.getElem?_eq_getElem hi],hR i _ a (Array.getElem?_eq_getElem hi) h⟩
 ·simp at h
theorem RepTup2 {v u:Value} {a b:AV} (h:Rep P σ v a) (k:Rep P σ u b):Rep P σ (.tuple #[v,u]) (.tup [a,b]):=by
 refine .tup _ _ rfl fun j x y hx hy=>?_
 match j with
 | 0=>simp at hx hy;subst hx;subst hy;exact h
 | 1=>simp at hx hy;subst hx;subst hy;exact k
 |j+2=>simp at hx
theorem sim_assert {x:Value} {xa a:AV} {xt t:TypeId} {ok:Bool} (hx:Rep P σ x xa) (h:typeAssertA P xa t ok=some a) :
  ∃v,(Instr.typeAssert x xt t ok).run P w = .ok v w∧Rep P σ v a:=by
 unfold typeAssertA at h
 revert h
 split
 ·intro h;simp at h
 ·rename_i d ta va hne hd
  intro h
  cases hx with
  |iface _ v _ hv =>
   have hd':∀ms,d≠.interface ms:=fun ms e=>hne ms e
   split at h
   ·rename_i e;subst e
    cases h
    cases ok with
    |true =>
     refine ⟨.tuple #[v,.bool true],?_,RepTup2 hv (.bool true)⟩
     simp only [Instr.typeAssert,Sem.run_bind,run_under' hd,Result.andThen_ok]
     cases d<;>first | (exact absurd rfl (hd' _)) | simp
    |false =>
     refine ⟨v,?_,hv⟩
     simp only [Instr.typeAssert,Sem.run_bind,run_under' hd,Result.andThen_ok]
     cases d<;>first | (exact absurd rfl (hd' _)) | simp
   ·rename_i hne2
    split at h
    ·rename_i hok;subst hok
     obtain ⟨z,hz,rfl⟩:=Option.map_eq_some_iff.1 h
     obtain ⟨zv,hz1,hz2⟩:=sim_zero (σ:=σ) hz w
     refine ⟨.tuple #[zv,.bool false],?_,RepTup2 hz2 (.bool false)⟩
     simp only [Instr.typeAssert,Sem.run_bind,run_under' hd,Result.andThen_ok]
     cases d<;>first | (exact absurd rfl (hd' _)) | simp [hne2,hz1]
    ·simp at h
 ·rename_i d hne hd
  intro h
  cases hx
  have hd':∀ms,d≠.interface ms:=fun ms e=>hne ms e
  split at h
  ·rename_i hok;subst hok
   obtain ⟨z,hz,rfl⟩:=Option.map_eq_some_iff.1 h
   obtain ⟨zv,hz1,hz2⟩:=sim_zero (σ:=σ) hz w
   refine ⟨.tuple #[zv,.bool false],?_,RepTup2 hz2 (.bool false)⟩
   simp only [Instr.typeAssert,Sem.run_bind,run_under' hd,Result.andThen_ok]
   cases d<;>first | (exact absurd rfl (hd' _)) | simp [hz1]
  ·simp at h
 ·intro h;simp at h
end
end Go.Abs
namespace Go.Abs
open Go Go.RowKit
section
variable {P:Program} {W:World} {bs:Nat} {σ:Gh} {st:St} {w:World}
theorem sim_len {ts:Array TypeId} {t ty:TypeId} {x:Value} {xa a:AV} (h:WF P W bs σ st w) (ht:ts[0]?=some t) (hx:Rep P σ x xa) (hl:lenA P st t xa=some a) :
  ∃v,(Builtin.len_ ts ty #[x]).run P w = .ok v w∧Rep P σ v a:=by
 unfold lenA at hl
 revert hl
 split
 ·rename_i s hd;intro hl;cases hl
  cases hx with
  |str s=>exact ⟨_,by simp [Builtin.len_,ht,run_under' hd,goInt],.int _ _⟩
 ·rename_i n e hd;intro hl;cases hl
  refine ⟨.int .i64 n,?_,.int _ _⟩
  simp only [Builtin.len_,ht,List.getElem?_toArray,List.getElem?_cons_zero,Sem.run_bind,run_under' hd,Result.andThen_ok]
  cases hx<;>rfl
 ·rename_i e hd;intro hl;cases hl
  cases hx;exact ⟨_,by simp [Builtin.len_,ht,run_under' hd,goInt],.int _ _⟩
 ·rename_i e kd rows off len tok hd;intro hl;cases hl
  cases hx
  ·exact ⟨_,by simp [Builtin.len_,ht,run_under' hd,goInt],.int _ _⟩
  ·exact ⟨_,by simp [Builtin.len_,ht,run_under' hd,goInt],.int _ 0⟩
 ·rename_i e o ep off len cap hd;intro hl;cases hl
  cases hx;exact ⟨_,by simp [Builtin.len_,ht,run_under' hd,goInt],.int _ _⟩
 ·rename_i k e hd;intro hl;cases hl
  cases hx;exact ⟨_,by simp [Builtin.len_,ht,run_under' hd,goInt],.int _ _⟩
 ·rename_i k e o hd;intro hl
  split at hl
  ·rename_i es ho
   cases hl
   cases hx with
   |mp b o hB =>
    obtain ⟨b',ents,clock,h1,_,h3,h4,_⟩:=h.obj _ _ ho
    rw [hB] at h1;cases h1
    refine ⟨.int .i64 ents.size,?_,by rw [h4];exact .int _ _⟩
    simp [Builtin.len_,ht,run_under' hd,goInt,getObj,Sem.run,h3]
  ·simp at hl
 ·intro hl;simp at hl
theorem sim_max:∀{xs:List Value} {as:List AV} {x:Value} {xa a:AV},Rep P σ x xa→(∀(j:Nat) v b,xs[j]?=some v→as[j]?=some b→Rep P σ v b)→xs.length=as.length→maxA xa as=some a →
  ∃v,(xs.foldlM Builtin.max2 x).run P w = .ok v w∧Rep P σ v a
 |[],[],x,xa,a,hx,_,_,h=>by simp [maxA] at h;subst h;exact ⟨x,rfl,hx⟩
 |y::ys,b::bs,x,xa,a,hx,hxs,hl,h=>by
  unfold maxA at h
  split at h
  ·rename_i heq;simp at heq
  ·rename_i k p k' q r heq
   split at h
   ·rename_i hk;subst hk
    cases heq
    cases hx
    have hy:=hxs 0 y _ rfl rfl
    cases hy
    obtain ⟨v,h1,h2⟩:=sim_max (xs:=ys) (as:=bs) (x:=.int k (if q>p then q else p)) (.int _ _) (fun j v b h1 h2=>hxs (j+1) v b h1 h2) (by simpa using hl) h
    exact ⟨v,by rw [List.foldlM_cons];simp only [Sem.run_bind,Builtin.max2,Sem.run_pure,Result.andThen_ok];exact h1,h2⟩
   ·simp at h
  ·simp at h
 |[],_::_,_,_,_,_,_,hl,_=>by simp at hl
 |_::_,[],_,_,_,_,_,hl,_=>by simp at hl
theorem sim_min:∀{xs:List Value} {as:List AV} {x:Value} {xa a:AV},Rep P σ x xa→(∀(j:Nat) v b,xs[j]?=some v→as[j]?=some b→Rep P σ v b)→xs.length=as.length→minA xa as=some a →
  ∃v,(xs.foldlM Builtin.min2 x).run P w = .ok v w∧Rep P σ v a
 |[],[],x,xa,a,hx,_,_,h=>by simp [minA] at h;subst h;exact ⟨x,rfl,hx⟩
 |y::ys,b::bs,x,xa,a,hx,hxs,hl,h=>by
  unfold minA at h
  split at h
  ·rename_i heq;simp at heq
  ·rename_i k p k' q r heq
   split at h
   ·rename_i hk;subst hk
    cases heq
    cases hx
    have hy:=hxs 0 y _ rfl rfl
    cases hy
    obtain ⟨v,h1,h2⟩:=sim_min (xs:=ys) (as:=bs) (x:=.int k (if q<p then q else p)) (.int _ _) (fun j v b h1 h2=>hxs (j+1) v b h1 h2) (by simpa using hl) h
    exact ⟨v,by rw [List.foldlM_cons];simp only [Sem.run_bind,Builtin.min2,Sem.run_pure,Result.andThen_ok];exact h1,h2⟩
   ·simp at h
  ·simp at h
 |[],_::_,_,_,_,_,_,hl,_=>by simp at hl
 |_::_,[],_,_,_,_,_,hl,_=>by simp at hl
def Gh.addI (σ:Gh) (b s:Nat) (vs:List Value):Gh:={σ with I:=fun b' i=>if b'=b∧s≤i∧i<s+vs.length then vs[i - s]? else σ.I b' i}
def Gh.setSh (σ:Gh) (b:Nat) (x:TypeId×Nat):Gh:={σ with sh:=fun b'=>if b'=b then some x else σ.sh b'}
def Gh.setB (σ:Gh) (o b:Nat):Gh:={σ with B:=fun o'=>if o'=o then some b else σ.B o'}
def Gh.setR (σ:Gh) (o ep:Nat) (x:Nat×Nat×Nat):Gh:={σ with R:=fun o' e'=>if o'=o∧e'=ep then some x else σ.R o' e'}
def Gh.setL (σ:Gh) (t ep n:Nat) (x:Nat×Nat):Gh:={σ with L:=fun t' e' n'=>if t'=t∧e'=ep∧n'=n then some x else σ.L t' e' n'}
theorem Gh.le_addI (σ:Gh) {b s:Nat} {vs:List Value} (h:∀i,s≤i→i<s+vs.length→σ.I b i=none):σ.Le (σ.addI b s vs):=by
 refine ⟨fun b' i v hv=>?_,fun _ _ h=>h,fun _ _ _ h=>h,fun _ _ h=>h,fun _ _ _ _ h=>h,rfl,fun _ _ h=>h⟩
 show (if _ then _ else _)=_
 by_cases hc:b'=b∧s≤i∧i<s+vs.length
 ·obtain ⟨rfl,h1,h2⟩:=hc
  rw [h i h1 h2] at hv;simp at hv
 ·rw [if_neg hc];exact hv
theorem Gh.le_setSh (σ:Gh) {b:Nat} {x:TypeId×Nat} (h:∀y,σ.sh b=some y→y=x):σ.Le (σ.setSh b x):=by
 refine ⟨fun _ _ _ h=>h,fun b' y hy=>?_,fun _ _ _ h=>h,fun _ _ h=>h,fun _ _ _ _ h=>h,rfl,fun _ _ h=>h⟩
 show (if _ then _ else _)=_
 by_cases hc:b'=b
 ·subst hc;rw [if_pos rfl,h y hy]
 ·rw [if_neg hc];exact hy
theorem Gh.le_setB (σ:Gh) {o b:Nat} (h:σ.B o=none):σ.Le (σ.setB o b):=by
 refine ⟨fun _ _ _ h=>h,fun _ _ h=>h,fun _ _ _ h=>h,fun o' y hy=>?_,fun _ _ _ _ h=>h,rfl,fun _ _ h=>h⟩
 show (if _ then _ else _)=_
 by_cases hc:o'=o
 ·subst hc;rw [h] at hy;simp at hy
 ·rw [if_neg hc];exact hy
theorem Gh.le_setR (σ:Gh) {o ep:Nat} {x:Nat×Nat×Nat} (h:σ.R o ep=none):σ.Le (σ.setR o ep x):=by
 refine ⟨fun _ _ _ h=>h,fun _ _ h=>h,fun o' e' y hy=>?_,fun _ _ h=>h,fun _ _ _ _ h=>h,rfl,fun _ _ h=>h⟩
 show (if _ then _ else _)=_
 by_cases hc:o'=o∧e'=ep
 ·obtain ⟨rfl,rfl⟩:=hc;rw [h] at hy;simp at hy
 ·rw [if_neg hc];exact hy
theorem Gh.le_setL (σ:Gh) {t ep n:Nat} {x:Nat×Nat} (h:σ.L t ep n=none):σ.Le (σ.setL t ep n x):=by
 refine ⟨fun _ _ _ h=>h,fun _ _ h=>h,fun _ _ _ h=>h,fun _ _ h=>h,fun t' e' n' y hy=>?_,rfl,fun _ _ h=>h⟩
 show (if _ then _ else _)=_
 by_cases hc:t'=t∧e'=ep∧n'=n
 ·obtain ⟨rfl,rfl,rfl⟩:=hc;rw [h] at hy;simp at hy
 ·rw [if_neg hc];exact hy
theorem heap_alloc_lt (w:World) (o:Obj) {b:Nat} (h:b<w.heap.size):(w.alloc o).heap[b]?=w.heap[b]?:=by
 show (w.heap.push o)[b]?=_
 rw [Array.getElem?_push,if_neg (by omega)]
theorem heap_alloc_new (w:World) (o:Obj):(w.alloc o).heap[w.heap.size]?=some o:=by
 show (w.heap.push o)[_]?=_
 rw [Array.getElem?_push,if_pos rfl]
theorem WF.pushFree (h:WF P W bs σ st w):WF P W bs σ (.free 0::st) w :=
 h.step (o:=st.length) (x:=.free 0) (T:=w.heap.size) (.refl σ) h.below (fun p hp=>by rw [St.get_cons,if_neg hp]) (by rw [St.get_cons,if_pos rfl]) (by simp)
  (fun _ _ _=>rfl) (fun p y _ hp=>unowned h (Nat.le_refl _) p y hp) (fun _ _ _ hv=>.inl hv) (fun i v hv=>h.imm _ _ _ hv) (fun _ _ hy=>.inl hy) (fun y hy=>h.shp _ _ hy)
  (fun _ _ _ hy=>.inl hy) (fun _ _ hy=>.inl hy) (fun _ _ _ _ hy=>.inl hy) trivial
  ⟨fun e _=>h.idR _ e (Nat.le_refl _),fun e n _=>h.idL _ e n (Nat.le_refl _)⟩ (fun b hb=>hb.elim) (noK h (Nat.le_refl _)) (hBx:=fun _ hb=>(h.noBnew hb).elim)
theorem WF.homes (h:WF P W bs σ st w):∀n,WF P W bs σ (homesA n st) w:=by
 intro n
 induction n generalizing st with
 |zero=>exact h
 |succ n ih=>exact ih h.pushFree
theorem WF.pushBox (h:WF P W bs σ st w) {vs:Array Value} {row:List AV} (ty:TypeId) (hc:RepCells P σ vs row) :
  WF P W bs (σ.setB st.length w.heap.size) (.box ty row::st) (w.alloc (.cells vs ty))∧σ.Le (σ.setB st.length w.heap.size):=by
 have hl:=σ.le_setB (b:=w.heap.size) (h.idB st.length (Nat.le_refl _))
 refine ⟨h.step (o:=st.length) (x:=.box ty row) (T:=w.heap.size) hl (h.below.alloc (Nat.le_trans h.bsle h.size) _) (fun p hp=>by rw [St.get_cons,if_neg hp]) (by rw [St.get_cons,if_pos rfl]) (by simp)
  (fun b _ hb=>heap_alloc_lt w _ hb) (fun p y _ hp=>unowned h (Nat.le_refl _) p y hp) (fun _ _ _ hv=>.inl hv)
  (fun i v hv=>absurd (h.imm _ _ _ hv).1 (fun hh=>by have:=lt_of_cell hh;omega)) (fun _ _ hy=>.inl hy) (fun y hy=>absurd (h.shp _ _ hy) (fun hh=>by have:=lt_of_shape hh;omega))
  (fun _ _ _ hy=>.inl hy) (fun o' y hy=>?_) (fun _ _ _ _ hy=>.inl hy) ?_ trivial (fun b hb=>?_) (noK h (Nat.le_refl _)),hl⟩
 ·change (if o'=st.length then some w.heap.size else σ.B o')=some y at hy
  split at hy
  ·right;assumption
  ·left;exact hy
 ·refine ⟨w.heap.size,vs,?_,Nat.le_trans h.bsle h.size,fun i=>noI h (Nat.le_refl _) i,heap_alloc_new w _,hc.size,hc.one,fun j v a h1 h2=>(hc.rep j v a h1 h2).mono hl⟩
  show (if _ then _ else _)=_
  rw [if_pos rfl]
 ·change (if st.length=st.length then some w.heap.size else _)=some b at hb
  rw [if_pos rfl] at hb
  exact (Option.some.inj hb).symm
theorem sim_made {H:Hints} {f:FuncId} {dst:Option Tmp} {vs:Array Value} {row:List AV} (ty:TypeId) (h:WF P W bs σ st w) (hc:RepCells P σ vs row) :
  ∃σ',σ.Le σ'∧WF P W bs σ' (madeA H f st dst ty row).2 (w.alloc (.cells vs ty))∧Rep P σ' (.pointer (some ⟨w.heap.size,0,none⟩)) (madeA H f st dst ty row).1:=by
 obtain ⟨h1,h2⟩:=h.pushBox ty hc
 refine ⟨_,h2,h1.homes _,?_⟩
 exact .bp _ _ _ (by show (if _ then _ else _)=_;rw [if_pos rfl])
theorem sim_alloc {H:Hints} {f:FuncId} {dst:Option Tmp} {t:TypeId} {r:AV×St} (h:WF P W bs σ st w) (ha:allocA P H f st dst t=some r) :
  ∃v w' σ',(Instr.alloc t true (.tuple #[])).run P w = .ok v w'∧σ.Le σ'∧WF P W bs σ' r.2 w'∧Rep P σ' v r.1:=by
 unfold allocA at ha
 obtain ⟨z,hz,h2⟩:=Option.bind_eq_some_iff.1 ha
 split at h2
 ·simp at h2
 ·rename_i ht
  cases h2
  obtain ⟨zv,hz1,hz2⟩:=sim_zero (σ:=σ) hz w
  obtain ⟨σ',h3,h4,h5⟩:=sim_made (H:=H) (f:=f) (dst:=dst) t h (hz2.cells (by simpa using ht))
  exact ⟨_,_,σ',by simp [Instr.alloc,hz1,newVar,newRow],h3,h4,h5⟩
theorem sim_box {H:Hints} {f:FuncId} {dst:Option Tmp} {t:TypeId} {x:Value} {xa:AV} (h:WF P W bs σ st w) (hx:Rep P σ x xa) (ht:xa.isTup=false) :
  ∃v w' σ',(Instr.box t x).run P w = .ok v w'∧σ.Le σ'∧WF P W bs σ' (madeA H f st dst t xa.cells).2 w'∧Rep P σ' v (madeA H f st dst t xa.cells).1:=by
 obtain ⟨σ',h3,h4,h5⟩:=sim_made (H:=H) (f:=f) (dst:=dst) t h (hx.cells ht)
 exact ⟨_,_,σ',by simp [Instr.box,newVar,newRow],h3,h4,h5⟩
end
end Go.Abs
namespace Go.Abs
open Go Go.RowKit
section
variable {P:Program} {W:World} {bs:Nat} {σ:Gh} {st:St} {w:World}
theorem setCell_heap (w:World) (b o:Nat) (v:Value) {cells:Array Value} {e:TypeId} {fz:Nat×Nat} (h:w.heap[b]?=some (.cells cells e fz)) :
  (w.setCell ⟨b,o,none⟩ v).heap[b]?=some (.cells (cells.setIfInBounds o v) e fz):=by
 simp only [World.setCell,Array.getElem?_modify,if_true,h,Option.map_some]
 rfl
theorem setCell_heap_ne (w:World) (b o:Nat) (v:Value) {b':Nat} (h:b'≠b):(w.setCell ⟨b,o,none⟩ v).heap[b']?=w.heap[b']?:=by
 simp only [World.setCell,Array.getElem?_modify]
 rw [if_neg (fun e=>h e.symm)]
theorem setCells_heap (b:Nat) {e:TypeId} {fz:Nat×Nat}:∀(vs:List Value) (o:Nat) (w:World) (cells:Array Value),w.heap[b]?=some (.cells cells e fz)→o+vs.length≤cells.size →
  (∃cells',(w.setCells b o vs).heap[b]?=some (.cells cells' e fz)∧cells'.size=cells.size∧∀j:Nat,cells'[j]?=if o≤j∧j<o+vs.length then vs[j - o]? else cells[j]?) ∧
  (∀b',b'≠b→(w.setCells b o vs).heap[b']?=w.heap[b']?)∧(w.setCells b o vs).heap.size=w.heap.size
 |[],o,w,cells,h,_=>⟨⟨cells,h,rfl,fun j=>by rw [if_neg (by simp)]⟩,fun _ _=>rfl,rfl⟩
 |v::vs,o,w,cells,h,hle=>by
  simp only [List.length_cons] at hle
  obtain ⟨⟨c',h1,h2,h3⟩,h4,h5⟩:=setCells_heap b vs (o+1) (w.setCell ⟨b,o,none⟩ v) _ (setCell_heap w b o v h) (by simp;omega)
  refine ⟨⟨c',h1,by rw [h2];simp,fun j=>?_⟩,fun b' hb=>?_,?_⟩
  ·rw [h3 j]
   simp only [List.length_cons]
   by_cases hj:o+1≤j∧j<o+1+vs.length
   ·rw [if_pos hj,if_pos (by omega)]
    have:j - o=(j - (o+1))+1:=by omega
    rw [this,List.getElem?_cons_succ]
   ·rw [if_neg hj]
    by_cases e:j=o
    ·subst e
     rw [if_pos (by omega),Array.getElem?_setIfInBounds_self_of_lt (by omega)]
     simp
    ·rw [if_neg (by omega),Array.getElem?_setIfInBounds_ne (by omega)]
  ·show ((w.setCell ⟨b,o,none⟩ v).setCells b (o+1) vs).heap[b']?=_
   rw [h4 b' hb,setCell_heap_ne w b o v hb]
  ·show ((w.setCell ⟨b,o,none⟩ v).setCells b (o+1) vs).heap.size=_
   rw [h5];simp
theorem below_setCells {B:Nat} {a:World} (b:Nat):∀(vs:List Value) (o:Nat) (w:World),Below B a w→B≤b→Below B a (w.setCells b o vs)
 |[],_,_,h,_=>h
 |v::vs,o,w,h,hb=>below_setCells b vs (o+1) _ (h.setCell (p:=⟨b,o,none⟩) hb v) hb
theorem run_storeRow {b x:Nat} {t:TypeId} {v:Value} {cells:Array Value} {e:TypeId} {fz:Nat×Nat} (hn:szOf P t=some v.cells.size) (hb:w.heap[b]?=some (.cells cells e fz))
  (hle:x+v.cells.size≤cells.size) (hf:∀j,x≤j→j<x+v.cells.size→w.frozen? ⟨b,j,none⟩=false) (h1:∀u ∈ v.cells.toList,u.oneCell'=true) :
  (storeVar t ⟨b,x,none⟩ v).run P w = .ok () (w.setCells b x v.cells.toList):=by
 have hc:=run_storeCells_cells (P:=P) b x v.cells.toList 0 w (fun j hj=>by
   simp only [World.cell?,Nat.add_zero,hb]
   have:x+j<cells.size:=by simp at hj;omega
   simp [this]) (fun j hj=>hf _ (by omega) (by simp at hj;omega)) h1
 simp only [storeVar,Sem.run_bind,run_sizeOf' hn,Result.andThen_ok,ne_eq,not_true_eq_false,if_false]
 simpa using hc
theorem sim_store {t:TypeId} {pv v:Value} {p a:AV} {st':St} (h:WF P W bs σ st w) (hp:Rep P σ pv p) (hv:Rep P σ v a) (hs:stA P st t p a=some st') :
  ∃w',(Instr.storeAt t pv v).run P w = .ok () w'∧WF P W bs σ st' w':=by
 unfold stA at hs
 obtain ⟨n,hn,h2⟩:=Option.bind_eq_some_iff.1 hs
 clear hs
 split at h2
 ·rename_i hcond
  obtain ⟨hlen,htup⟩:=hcond
  have hc:=hv.cells htup
  have hn':szOf P t=some v.cells.size:=by rw [hc.size,hlen];exact hn
  have hone:∀u ∈ v.cells.toList,u.oneCell'=true:=fun u hu=>by
   obtain ⟨j,hj,rfl⟩:=List.getElem_of_mem hu
   exact hc.one j _ (by simp at hj;simp [Array.getElem?_eq_getElem hj])
  split at h2
  ·rename_i o c
   split at h2
   ·rename_i ty row ho
    obtain ⟨row',hrow,rfl⟩:=Option.map_eq_some_iff.1 h2
    cases hp with
    |bp b _ _ hB =>
     obtain ⟨b',vs,h3,hbs,hI,h4,h5,h7,h6⟩:=h.obj _ _ ho
     rw [hB] at h3
     obtain rfl:=Option.some.inj h3
     obtain ⟨e1,e2,e3⟩:=setAt_spec hrow
     have hcs:v.cells.size=a.cells.length:=hc.size
     have hle:c+v.cells.size≤vs.size:=by rw [h5,hcs];exact e2
     refine ⟨w.setCells b c v.cells.toList,by simp [Instr.storeAt,Instr.sureAddr,run_storeRow hn' h4 hle (fun j _ _=>by simp [World.frozen?,h4]) hone],?_⟩
     obtain ⟨⟨c',g1,g2,g3⟩,g4,g5⟩:=setCells_heap b v.cells.toList c w vs h4 (by simpa using hle)
     refine h.step (o:=o) (x:=.box ty row') (T:=b) (.refl σ) (below_setCells b _ _ _ h.below hbs) (fun p hp=>St.get_put_ne hp) (St.get_put_same (St.get_lt ho)) (by simp)
      (fun b' hb' _=>g4 b' hb') (fun p y hp hy hown=>hp (h.sep p o y (.box ty row) b hy ho hown hB)) (fun _ _ _ hv=>.inl hv) (fun i v hv=>by rw [hI i] at hv;simp at hv)
      (fun _ _ hy=>.inl hy) (fun y hy=>?_) (fun _ _ _ hy=>.inl hy) (fun _ _ hy=>.inl hy) (fun _ _ _ _ hy=>.inl hy) ?_ trivial (fun b' hb'=>by rw [show σ.B o=some b' from hb'] at hB;exact Option.some.inj hB) (ownK h ho hB)
     ·have:=h.shp _ _ hy
      simp only [World.shape?,h4,g1] at this ⊢
      rw [g2];exact this
     ·refine ⟨b,c',hB,hbs,hI,g1,by rw [g2,h5,e1],fun j u hu=>?_,fun j u d hu hd=>?_⟩
      ·rw [g3 j] at hu
       split at hu
       ·exact hone u (List.mem_of_getElem? hu)
       ·exact h7 j u hu
      ·rw [g3 j] at hu
       rw [e3 j] at hd
       by_cases hj:c≤j∧j<c+v.cells.toList.length
       ·rw [if_pos hj] at hu
        rw [if_pos (by simp at hj;omega)] at hd
        exact hc.rep (j - c) u d (by simpa using hu) hd
       ·rw [if_neg hj] at hu
        rw [if_neg (by simp at hj;omega)] at hd
        exact h6 j u d hu hd
   ·simp at h2
  ·rename_i o ep i c
   split at h2
   ·rename_i kd ep' rs ho
    split at h2
    ·rename_i he;subst he
     obtain ⟨row,hri,h3⟩:=Option.bind_eq_some_iff.1 h2
     obtain ⟨row',hrow,rfl⟩:=Option.map_eq_some_iff.1 h3
     cases hp with
     |ptr b base kd' _ _ _ _ hR =>
      obtain ⟨b',base',g1,hbs,hloose,hsh,hrl,hcell⟩:=h.obj _ _ ho
      rw [hR] at g1
      simp only [Option.some.injEq,Prod.mk.injEq] at g1
      obtain ⟨rfl,rfl,rfl⟩:=g1
      obtain ⟨hI,cells,ce,fz,h4,hfz0⟩:=hloose
      have hfz:∀j,base≤j→j<cells.size→w.frozen? ⟨b,j,none⟩=false:=fun j hj _=>frozen_free h4 hfz0 hj
      obtain ⟨e1,e2,e3⟩:=setAt_spec hrow
      have hcs:v.cells.size=a.cells.length:=hc.size
      have hrowl:row.length=szk kd':=hrl row (List.mem_of_getElem? hri)
      have hi:i<rs.length:=(List.getElem?_eq_some_iff.1 hri).1
      obtain ⟨se,sn,hs1,hs2,_⟩:=hsh
      have hshp:=h.shp _ _ hs1
      simp only [World.shape?,h4,Option.some.injEq,Prod.mk.injEq] at hshp
      have hmul:i*szk kd'+szk kd'≤rs.length*szk kd':=by rw [←Nat.succ_mul];exact Nat.mul_le_mul_right _ hi
      have hle:base+i*szk kd'+c+v.cells.size≤cells.size:=by rw [hshp.2];omega
      refine ⟨w.setCells b (base+i*szk kd'+c) v.cells.toList,by simp [Instr.storeAt,Instr.sureAddr,run_storeRow hn' h4 hle (fun j hj1 hj2=>hfz j (by omega) (by omega)) hone],?_⟩
      obtain ⟨⟨c',q1,q2,q3⟩,q4,q5⟩:=setCells_heap b v.cells.toList (base+i*szk kd'+c) w cells h4 (by simpa using hle)
      refine h.step (o:=o) (x:=.rows kd' ep (rs.set i row')) (T:=b) (.refl σ) (below_setCells b _ _ _ h.below hbs) (fun p hp=>St.get_put_ne hp) (St.get_put_same (St.get_lt ho)) (by simp)
       (fun b' hb' _=>q4 b' hb') (fun p y hp hy hown=>hp (h.sep p o y (.rows kd' ep rs) b hy ho hown ⟨_,hR⟩)) (fun _ _ _ hv=>.inl hv) (fun k u hu=>?_)
       (fun _ _ hy=>.inl hy) (fun y hy=>?_) (fun _ _ _ hy=>.inl hy) (fun _ _ hy=>.inl hy) (fun _ _ _ _ hy=>.inl hy) ?_ (by have hf:=h.fresh o _ ho;exact ⟨hf.1,hf.2⟩) (fun b' hb'=>by obtain ⟨y,hy⟩:=hb';rw [hR] at hy;cases hy;rfl) (ownK h ho ⟨_,hR⟩) (hBx:=fun _ hb=>(h.noB ho rfl hb).elim)
      ·have hk:=h.imm _ _ _ hu
       have hkb:k<base:=by
        rcases Nat.lt_or_ge k base with hlt | hge
        ·exact hlt
        ·rw [hI k hge] at hu;simp at hu
       simp only [World.cell?,h4,q1,Option.isSome_none,Bool.false_eq_true,if_false] at hk ⊢
       rw [q3 k,if_neg (by omega)]
       exact hk
      ·have:=h.shp _ _ hy
       simp only [World.shape?,h4,q1] at this ⊢
       rw [q2];exact this
      ·refine ⟨b,base,hR,hbs,⟨hI,c',ce,fz,q1,hfz0⟩,⟨se,sn,hs1,by simpa using hs2,by assumption⟩,fun r hr=>?_,fun k r j d hk hj=>?_⟩
       ·rcases List.mem_or_eq_of_mem_set hr with hr | rfl
        ·exact hrl r hr
        ·rw [e1];exact hrowl
       ·have hkl:k<rs.length:=by simpa using (List.getElem?_eq_some_iff.1 hk).1
        simp only [World.cell?,q1,Option.isSome_none,Bool.false_eq_true,if_false]
        by_cases hki:k=i
        ·subst hki
         rw [List.getElem?_set_self hi] at hk
         cases hk
         rw [e3 j] at hj
         by_cases hjc:c≤j∧j<c+a.cells.length
         ·rw [if_pos hjc] at hj
          have hlt:j - c<v.cells.size:=by omega
          refine ⟨v.cells[j - c],?_,hc.one _ _ (Array.getElem?_eq_getElem hlt),hc.rep _ _ d (Array.getElem?_eq_getElem hlt) hj⟩
          rw [q3,if_pos (by simp;omega)]
          have:base+k*szk kd'+j - (base+k*szk kd'+c)=j - c:=by omega
          simp [this,Array.getElem?_eq_getElem hlt]
         ·rw [if_neg hjc] at hj
          obtain ⟨u,hu1,hu2,hu3⟩:=hcell k row j d hri hj
          refine ⟨u,?_,hu2,hu3⟩
          simp only [World.cell?,h4,Option.isSome_none,Bool.false_eq_true,if_false] at hu1
          rw [q3,if_neg (by simp;omega)]
          exact hu1
        ·rw [List.getElem?_set_ne (fun e=>hki e.symm)] at hk
         obtain ⟨u,hu1,hu2,hu3⟩:=hcell k r j d hk hj
         refine ⟨u,?_,hu2,hu3⟩
         have hjr:j<szk kd':=by rw [←hrl r (List.mem_of_getElem? hk)];exact (List.getElem?_eq_some_iff.1 hj).1
         simp only [World.cell?,h4,Option.isSome_none,Bool.false_eq_true,if_false] at hu1
         rw [q3,if_neg ?_]
         ·exact hu1
         ·simp only [Array.length_toList]
          rcases Nat.lt_or_ge k i with hlt | hge
          ·have:k*szk kd'+szk kd'≤i*szk kd':=by rw [←Nat.succ_mul];exact Nat.mul_le_mul_right _ hlt
           omega
          ·have:i*szk kd'+szk kd'≤k*szk kd':=by rw [←Nat.succ_mul];exact Nat.mul_le_mul_right _ (by omega)
           have h9:c+v.cells.size≤szk kd':=by rw [←hrowl,hcs];exact e2
           omega
    ·simp at h2
   ·simp at h2
  ·simp at h2
 ·simp at h2
end
end Go.Abs
namespace Go.Abs
open Go Go.RowKit
section
variable {P:Program} {W:World} {bs:Nat} {σ:Gh} {st:St} {w:World}
theorem cell_new (w:World) (vs:Array Value) (e:TypeId) (i:Nat):(w.alloc (.cells vs e)).cell? ⟨w.heap.size,i,none⟩=vs[i]?:=by
 unfold World.cell?
 rw [show (w.alloc (.cells vs e)).heap[(⟨w.heap.size,i,none⟩:Addr).block]?=some (.cells vs e) from heap_alloc_new w _]
 rfl
theorem shape_new (w:World) (vs:Array Value) (e:TypeId):(w.alloc (.cells vs e)).shape? w.heap.size=some (e,vs.size):=by
 unfold World.shape?
 rw [heap_alloc_new]
structure RowsIn (P:Program) (σ:Gh) (vs:Array Value) (kd:Nat) (rows:List (List AV)):Prop where
 size:rows.length*szk kd≤vs.size
 len:∀r ∈ rows,r.length=szk kd
 cell:∀(i:Nat) r (j:Nat) a,rows[i]?=some r→r[j]?=some a→∃v,vs[i*szk kd+j]?=some v∧v.oneCell'=true∧Rep P σ v a
theorem RowsIn.mono {σ':Gh} {vs:Array Value} {kd:Nat} {rows:List (List AV)} (h:RowsIn P σ vs kd rows) (hl:σ.Le σ'):RowsIn P σ' vs kd rows :=
 ⟨h.size,h.len,fun i r j a h1 h2=>let ⟨v,a1,a2,a3⟩:=h.cell i r j a h1 h2;⟨v,a1,a2,a3.mono hl⟩⟩
theorem in_row {rows:List (List AV)} {kd i j:Nat} {r:List AV} {a:AV} (hl:∀r ∈ rows,r.length=szk kd) (h1:rows[i]?=some r) (h2:r[j]?=some a) :
  i*szk kd+j<rows.length*szk kd:=by
 have hi:i<rows.length:=(List.getElem?_eq_some_iff.1 h1).1
 have hj:j<szk kd:=by rw [←hl r (List.mem_of_getElem? h1)];exact (List.getElem?_eq_some_iff.1 h2).1
 have:i*szk kd+szk kd≤rows.length*szk kd:=by rw [←Nat.succ_mul];exact Nat.mul_le_mul_right _ hi
 omega
def Gh.newRows (σ:Gh) (b:Nat) (vs:Array Value) (e:TypeId) (n:Nat):Gh:=(σ.addI b 0 (vs.toList.take n)).setSh b (e,vs.size)
theorem Gh.le_newRows (h:WF P W bs σ st w) (vs:Array Value) (e:TypeId) (n:Nat):σ.Le (σ.newRows w.heap.size vs e n) :=
 (σ.le_addI (fun i _ _=>noI h (Nat.le_refl _) i)).trans (Gh.le_setSh _ (fun y hy=>by
  have:σ.sh w.heap.size=some y:=hy
  rw [noSh h (Nat.le_refl _)] at this;simp at this))
theorem newRows_I {vs:Array Value} {e:TypeId} {n b i:Nat} {v:Value} (hn:n≤vs.size) (hno:σ.I b i=none) (h:(σ.newRows b vs e n).I b i=some v):i<n∧vs[i]?=some v:=by
 change (if b=b∧0≤i∧i<0+(vs.toList.take n).length then (vs.toList.take n)[i - 0]? else σ.I b i)=some v at h
 split at h
 ·rename_i hc
  have hi:i<n:=by have:=hc.2.2;simp at this;omega
  refine ⟨hi,?_⟩
  rw [List.getElem?_take] at h
  simpa [hi] using h
 ·rw [hno] at h;simp at h
theorem newRows_I' {vs:Array Value} {e:TypeId} {n b i:Nat} (hn:n≤vs.size) (hi:i<n):(σ.newRows b vs e n).I b i=vs[i]?:=by
 change (if b=b∧0≤i∧i<0+(vs.toList.take n).length then (vs.toList.take n)[i - 0]? else σ.I b i)=_
 rw [if_pos ⟨rfl,Nat.zero_le _,by simp;omega⟩,List.getElem?_take]
 simp [hi]
theorem newRows_ne {vs:Array Value} {e:TypeId} {n b b' i:Nat} {v:Value} (h:(σ.newRows b vs e n).I b' i=some v):σ.I b' i=some v∨b'=b:=by
 change (if b'=b∧0≤i∧i<0+(vs.toList.take n).length then (vs.toList.take n)[i - 0]? else σ.I b' i)=some v at h
 split at h
 ·rename_i hc;exact .inr hc.1
 ·exact .inl h
theorem newRows_sh {vs:Array Value} {e:TypeId} {n b b':Nat} {y:TypeId×Nat} (h:(σ.newRows b vs e n).sh b'=some y):σ.sh b'=some y∨b'=b:=by
 change (if b'=b then some (e,vs.size) else σ.sh b')=some y at h
 split at h
 ·exact .inr (by assumption)
 ·exact .inl h
theorem newRows_shT {vs:Array Value} {e:TypeId} {n b:Nat}:(σ.newRows b vs e n).sh b=some (e,vs.size):=by
 show (if b=b then _ else _)=_
 rw [if_pos rfl]
theorem rep_new {vs:Array Value} {e:TypeId} {kd b len c:Nat} {rows:List (List AV)} {tok:Tok} {τ:Gh} (hr:RowsIn P σ vs kd rows) (hu:kd=0→ByteT P e)
  (hI:∀i,σ.I b i=none) (hl:(σ.newRows b vs e (rows.length*szk kd)).Le τ) (hσ:σ.Le (σ.newRows b vs e (rows.length*szk kd)))
  (hlen:len≤rows.length) (hc:rows.length≤c) (hcs:c*szk kd≤vs.size) (htok:TokOk τ b 0 kd rows.length 0 c tok):Rep P τ (.slice (some ⟨b,0,none⟩) len c) (.sl kd rows 0 len tok):=by
 refine .sl b 0 0 len c kd rows 0 tok (by omega) hr.len (by omega) (fun _=>by simp) (.inr ⟨e,vs.size,hl.sh _ _ newRows_shT,?_,fun _=>hu⟩) htok (fun i r j a h1 h2=>?_) (fun i r j a v h1 h2 h3=>?_)
 ·refine Nat.max_le.2 ⟨by have:=hr.size;omega,?_⟩
  split
  ·exact Nat.zero_le _
  ·omega
 ·obtain ⟨v,hv,_⟩:=hr.cell i r j a h1 h2
  rw [hl.I _ _ v (by rw [newRows_I' hr.size (by have:=in_row hr.len h1 h2;omega)];simpa using hv)]
  rfl
 ·obtain ⟨u,hu',_,hrep⟩:=hr.cell i r j a h1 h2
  have hlt:=in_row hr.len h1 h2
  have e1:=hl.I _ _ u (by rw [newRows_I' hr.size (i:=0+i*szk kd+j) (by omega)];simpa using hu')
  rw [h3] at e1
  cases e1
  exact hrep.mono (hσ.trans hl)
theorem WF.newRows (h:WF P W bs σ st w) {vs:Array Value} {e:TypeId} {kd:Nat} {rows:List (List AV)} (hr:RowsIn P σ vs kd rows) :
  WF P W bs (σ.newRows w.heap.size vs e (rows.length*szk kd)) st (w.alloc (.cells vs e)):=by
 refine h.still (T:=w.heap.size) (Gh.le_newRows h _ _ _) (h.below.alloc (Nat.le_trans h.bsle h.size) _) (fun b _ hb=>heap_alloc_lt w _ hb) (fun p y hp=>unowned h (Nat.le_refl _) p y hp)
  (fun _ _ _ hv=>newRows_ne hv) (fun i v hv=>?_) (fun _ _ hy=>newRows_sh hy) (fun y hy=>?_) rfl rfl rfl (noK h (Nat.le_refl _))
 ·obtain ⟨hi,hv'⟩:=newRows_I hr.size (noI h (Nat.le_refl _) i) hv
  refine ⟨by rw [cell_new];exact hv',?_⟩
  have hp:=szk_pos kd
  have hq:i / szk kd<rows.length:=by rw [Nat.div_lt_iff_lt_mul hp];exact hi
  have hm:i%szk kd<szk kd:=Nat.mod_lt _ hp
  have hrl:=hr.len _ (List.getElem_mem hq)
  obtain ⟨u,hu,h1,_⟩:=hr.cell (i / szk kd) rows[i / szk kd] (i%szk kd) (rows[i / szk kd][i%szk kd]'(by omega)) (List.getElem?_eq_getElem hq) (List.getElem?_eq_getElem (by omega))
  have e1:i / szk kd*szk kd+i%szk kd=i:=by rw [Nat.mul_comm];exact Nat.div_add_mod i (szk kd)
  rw [e1,hv'] at hu
  cases hu;exact h1
 ·rw [newRows_shT] at hy
  cases hy
  exact shape_new w vs e
theorem homeA_spec {h kd:Nat} {wr:Bool} {rows:List (List AV)} {r:AV×St} {x0:AObj} (hx0:st.get h=some x0) (ha:homeA st h wr kd rows=some r) :
  ∃x e,st.get h=some x∧(x = .free e∨(∃k rs,x = .rows k e rs)∨∃n,x = .spare e n) ∧
   r=if wr then (.ms h (e+1) 0 rows.length rows.length,st.put h (.rows kd (e+1) rows)) else (.sl kd rows 0 rows.length (.spare h (e+1)),st.put h (.spare (e+1) rows.length)):=by
 unfold homeA at ha
 split at ha
 ·rename_i x hx
  obtain ⟨ep,hep,h2⟩:=Option.bind_eq_some_iff.1 ha
  cases x with
  |free e =>
   cases hep
   refine ⟨_,e,hx,.inl rfl,?_⟩
   cases wr<;>(simp at h2 ⊢;exact h2.symm)
  |rows k e rs =>
   cases hep
   refine ⟨_,e,hx,.inr (.inl ⟨_,_,rfl⟩),?_⟩
   cases wr<;>(simp at h2 ⊢;exact h2.symm)
  |spare e n =>
   cases hep
   refine ⟨_,e,hx,.inr (.inr ⟨_,rfl⟩),?_⟩
   cases wr<;>(simp at h2 ⊢;exact h2.symm)
  |_=>simp at hep
 ·rename_i hn;rw [hn] at hx0;cases hx0
theorem homeA_none {h kd:Nat} {wr:Bool} {rows:List (List AV)} {r:AV×St} (hx0:st.get h=none) (ha:homeA st h wr kd rows=some r) :
  wr=true∧r=(.ms st.length 1 0 rows.length rows.length,.rows kd 1 rows::st)∧homeA (.free 0::st) st.length true kd rows=some r:=by
 unfold homeA at ha
 rw [hx0] at ha
 simp only at ha
 split at ha
 ·rename_i hw
  cases ha
  refine ⟨hw,rfl,?_⟩
  unfold homeA
  have h1:St.get (.free 0::st) st.length=some (.free 0):=by rw [St.get_cons,if_pos rfl]
  have h2:St.put (.free 0::st) st.length (.rows kd 1 rows) = .rows kd 1 rows::st:=by unfold St.put;simp
  rw [h1]
  simp only [Option.bind_some,if_true,Nat.zero_add,h2]
 ·cases ha
theorem home_fresh (h:WF P W bs σ st w) {o e:Nat} {x:AObj} (hx:st.get o=some x) (hk:x = .free e∨(∃k rs,x = .rows k e rs)∨∃n,x = .spare e n) :
  (∀e',e<e'→σ.R o e'=none)∧(∀e' n,e<e'→σ.L o e' n=none):=by
 have hf:=h.fresh o x hx
 rcases hk with rfl | ⟨k,rs,rfl⟩ | ⟨n,rfl⟩
 ·exact ⟨hf.1,hf.2⟩
 ·exact ⟨hf.1,hf.2⟩
 ·exact ⟨hf.1,hf.2.1⟩
theorem sim_homeX {x0:AObj} {h kd:Nat} {wr:Bool} {rows:List (List AV)} {r:AV×St} {vs:Array Value} {e:TypeId} {c:Nat} (hw:WF P W bs σ st w) (hx0:st.get h=some x0) (ha:homeA st h wr kd rows=some r)
  (hr:RowsIn P σ vs kd rows) (hu:kd=0→ByteT P e) (hc:rows.length≤c) (hcs:c*szk kd≤vs.size) :
  ∃σ',σ.Le σ'∧WF P W bs σ' r.2 (w.alloc (.cells vs e))∧Rep P σ' (.slice (some ⟨w.heap.size,0,none⟩) rows.length c) r.1:=by
 obtain ⟨x,ep,hx,hk,rfl⟩:=homeA_spec hx0 ha
 obtain ⟨fR,fL⟩:=home_fresh hw hx hk
 have hlt:=St.get_lt hx
 have hxB:x.isB=false:=by rcases hk with rfl | ⟨k,rs,rfl⟩ | ⟨n,rfl⟩<;>rfl
 cases wr with
 |false =>
  simp only [Bool.false_eq_true,if_false]
  have l1:=Gh.le_newRows hw vs e (rows.length*szk kd)
  have hn:(σ.newRows w.heap.size vs e (rows.length*szk kd)).L h (ep+1) rows.length=none:=fL (ep+1) _ (by omega)
  have l2:=Gh.le_setL (σ.newRows w.heap.size vs e (rows.length*szk kd)) (x:=(w.heap.size,rows.length*szk kd)) hn
  have w1:=hw.newRows (e:=e) hr
  have hL:((σ.newRows w.heap.size vs e (rows.length*szk kd)).setL h (ep+1) rows.length (w.heap.size,rows.length*szk kd)).L h (ep+1) rows.length=some (w.heap.size,rows.length*szk kd):=by
   show (if _ then _ else _)=_
   rw [if_pos ⟨rfl,rfl,rfl⟩]
  refine ⟨_,l1.trans l2,?_,rep_new hr hu (fun i=>noI hw (Nat.le_refl _) i) l2 l1 (Nat.le_refl _) hc hcs (by simpa [TokOk] using hL)⟩
  refine w1.step (o:=h) (x:=.spare (ep+1) rows.length) (T:=w.heap.size) l2 w1.below (fun p hp=>St.get_put_ne hp) (St.get_put_same hlt) (by simp) (fun _ _ _=>rfl)
   (fun p y _ hp hown=>?_) (fun _ _ _ hv=>.inl hv) (fun i v hv=>w1.imm _ _ _ hv) (fun _ _ hy=>.inl hy) (fun y hy=>w1.shp _ _ hy) (fun _ _ _ hy=>.inl hy) (fun _ _ hy=>.inl hy)
   (fun o' e' n' y hy=>?_) ?_ ?_ (fun b hb=>?_) (noK hw (Nat.le_refl _)) (hBx:=fun _ hb=>(hw.noB hx hxB hb).elim)
  ·refine unowned hw (Nat.le_refl _) p y hp ?_
   cases y<;>exact hown
  ·change (if o'=h∧e'=ep+1∧n'=rows.length then some _ else _)=some y at hy
   split at hy
   ·rename_i hcc;exact .inr hcc.1
   ·exact .inl hy
  ·refine ⟨w.heap.size,rows.length*szk kd,hL,Nat.le_trans hw.bsle hw.size,fun i hi=>?_,vs,e,(0,0),heap_alloc_new w _,.inl rfl⟩
   change (σ.newRows w.heap.size vs e (rows.length*szk kd)).I w.heap.size i=none
   cases hv:(σ.newRows w.heap.size vs e (rows.length*szk kd)).I w.heap.size i with
   |none=>rfl
   |some v=>have:=newRows_I hr.size (noI hw (Nat.le_refl _) i) hv;omega
  ·refine ⟨fun e' he=>fR e' (by omega),fun e' k he=>?_,fun k hk'=>?_⟩
   ·change (if h=h∧e'=ep+1∧k=rows.length then some _ else σ.L h e' k)=none
    rw [if_neg (by omega)];exact fL e' k (by omega)
   ·change (if h=h∧ep+1=ep+1∧k=rows.length then some _ else σ.L h (ep+1) k)=none
    rw [if_neg (by omega)];exact fL _ k (by omega)
  ·obtain ⟨y,hy⟩:=hb
   rw [hL] at hy
   cases hy;rfl
 |true =>
  simp only [if_true]
  have l1:=Gh.le_setSh σ (b:=w.heap.size) (x:=(e,vs.size)) (fun y hy=>by rw [noSh hw (Nat.le_refl _)] at hy;simp at hy)
  have l2:=Gh.le_setR (σ.setSh w.heap.size (e,vs.size)) (o:=h) (ep:=ep+1) (x:=(w.heap.size,0,kd)) (fR (ep+1) (by omega))
  have hR:((σ.setSh w.heap.size (e,vs.size)).setR h (ep+1) (w.heap.size,0,kd)).R h (ep+1)=some (w.heap.size,0,kd):=by
   show (if _ then _ else _)=_
   rw [if_pos ⟨rfl,rfl⟩]
  have hS:((σ.setSh w.heap.size (e,vs.size)).setR h (ep+1) (w.heap.size,0,kd)).sh w.heap.size=some (e,vs.size):=by
   show (if _ then _ else _)=_
   rw [if_pos rfl]
  refine ⟨_,l1.trans l2,?_,?_⟩
  ·refine hw.step (o:=h) (x:=.rows kd (ep+1) rows) (T:=w.heap.size) (l1.trans l2) (hw.below.alloc (Nat.le_trans hw.bsle hw.size) _) (fun p hp=>St.get_put_ne hp) (St.get_put_same hlt) (by simp)
    (fun b _ hb=>heap_alloc_lt w _ hb) (fun p y _ hp=>unowned hw (Nat.le_refl _) p y hp) (fun _ _ _ hv=>.inl hv)
    (fun i v hv=>absurd (hw.imm _ _ _ hv).1 (fun hh=>by have:=lt_of_cell hh;omega)) (fun b' y hy=>?_) (fun y hy=>?_) (fun o' e' y hy=>?_) (fun _ _ hy=>.inl hy) (fun _ _ _ _ hy=>.inl hy) ?_ ?_ (fun b hb=>?_) (noK hw (Nat.le_refl _)) (hBx:=fun _ hb=>(hw.noB hx hxB hb).elim)
   ·change (if b'=w.heap.size then some _ else _)=some y at hy
    split at hy
    ·right;assumption
    ·left;exact hy
   ·rw [hS] at hy
    cases hy
    exact shape_new w vs e
   ·change (if o'=h∧e'=ep+1 then some _ else _)=some y at hy
    split at hy
    ·rename_i hcc;exact .inr hcc.1
    ·exact .inl hy
   ·refine ⟨w.heap.size,0,hR,Nat.le_trans hw.bsle hw.size,⟨fun i _=>noI hw (Nat.le_refl _) i,vs,e,(0,0),heap_alloc_new w _,.inl rfl⟩,⟨e,vs.size,hS,by have:=hr.size;omega,hu⟩,hr.len,fun i r j a h1 h2=>?_⟩
    obtain ⟨v,hv,hv1,hv2⟩:=hr.cell i r j a h1 h2
    exact ⟨v,by rw [cell_new,Nat.zero_add];exact hv,hv1,hv2.mono (l1.trans l2)⟩
   ·refine ⟨fun e' he=>?_,fun e' n he=>fL e' n (by omega)⟩
    change (if h=h∧e'=ep+1 then some _ else σ.R h e')=none
    rw [if_neg (by omega)];exact fR e' (by omega)
   ·obtain ⟨y,hy⟩:=hb
    rw [hR] at hy
    cases hy;rfl
  ·refine .ms w.heap.size 0 kd 0 h (ep+1) 0 rows.length c rows.length hR hc (Nat.le_refl _) (fun _=>by simp) ⟨e,vs.size,hS,?_,hu⟩
   split
   ·exact Nat.zero_le _
   ·omega
theorem sim_home {h kd:Nat} {wr:Bool} {rows:List (List AV)} {r:AV×St} {vs:Array Value} {e:TypeId} {c:Nat} (hw:WF P W bs σ st w) (ha:homeA st h wr kd rows=some r)
  (hr:RowsIn P σ vs kd rows) (hu:kd=0→ByteT P e) (hc:rows.length≤c) (hcs:c*szk kd≤vs.size) :
  ∃σ',σ.Le σ'∧WF P W bs σ' r.2 (w.alloc (.cells vs e))∧Rep P σ' (.slice (some ⟨w.heap.size,0,none⟩) rows.length c) r.1:=by
 cases hx:st.get h with
 |some x=>exact sim_homeX hw hx ha hr hu hc hcs
 |none =>
  obtain ⟨_,_,h3⟩:=homeA_none hx ha
  exact sim_homeX (x0:=.free 0) hw.pushFree (by rw [St.get_cons,if_pos rfl]) h3 hr hu hc hcs
theorem sim_place {home:Option (Nat×Bool)} {kd:Nat} {rows:List (List AV)} {tok:Tok} {r:AV×St} {vs:Array Value} {e:TypeId} {c:Nat} (hw:WF P W bs σ st w)
  (ha:(match home with | some (h,m)=>homeA st h m kd rows | none=>some (AV.sl kd rows 0 rows.length tok,st))=some r)
  (hr:RowsIn P σ vs kd rows) (hu:kd=0→ByteT P e) (hc:rows.length≤c) (hcs:c*szk kd≤vs.size) (htok:tok = .no∨tok = .exact∧c=rows.length) :
  ∃σ',σ.Le σ'∧WF P W bs σ' r.2 (w.alloc (.cells vs e))∧Rep P σ' (.slice (some ⟨w.heap.size,0,none⟩) rows.length c) r.1:=by
 cases home with
 |some hm=>exact sim_home hw ha hr hu hc hcs
 |none =>
  simp only [Option.some.injEq] at ha
  subst ha
  have l1:=Gh.le_newRows hw vs e (rows.length*szk kd)
  refine ⟨_,l1,hw.newRows hr,rep_new hr hu (fun i=>noI hw (Nat.le_refl _) i) (.refl _) l1 (Nat.le_refl _) hc hcs ?_⟩
  rcases htok with rfl | ⟨rfl,rfl⟩
  ·trivial
  ·simp [TokOk]
end
end Go.Abs
namespace Go.Abs
open Go Go.RowKit
section
variable {P:Program} {W:World} {bs:Nat} {σ:Gh} {st:St} {w:World}
theorem Rep.strip {v:Value} {a:AV} (h:Rep P σ v a):Rep P σ v a.strip:=by
 cases h with
 |slz a kd=>exact .slz a kd
 |sl b o o0 len c kd rows off tok hlen hrow hc ho hsh htok hI hR=>exact .sl b o o0 len c kd rows off .no hlen hrow hc ho hsh.weak trivial hI hR
 |bool b=>exact .bool b
 |int k n=>exact .int k n
 |str s=>exact .str s
 |nilp=>exact .nilp
 |nilm=>exact .nilm
 |nilf=>exact .nilf
 |nili=>exact .nili
 |nils=>exact .nils
 |agg cs as hs h1 hR=>exact .agg cs as hs h1 hR
 |tup cs as hs hR=>exact .tup cs as hs hR
 |ms b base kd oo o ep off len c cap hR hcap hlen ho hsh=>exact .ms b base kd oo o ep off len c cap hR hcap hlen ho hsh
 |ip b x row c hI hR=>exact .ip b x row c hI hR
 |ptr b base kd o ep i c hR=>exact .ptr b base kd o ep i c hR
 |bp b o c hB=>exact .bp b o c hB
 |fn f cs as hsp hs h=>exact .fn f cs as hsp hs h
 |yld b o hB=>exact .yld b o hB
 |iface t v a h=>exact .iface t v a h
 |mp b o hB=>exact .mp b o hB
 |it b o hB=>exact .it b o hB
 |dp b o0 rows off hlo hrow hsh hI hR=>exact .dp b o0 rows off hlo hrow hsh hI hR
theorem div_row {kd i:Nat}:i / szk kd*szk kd+i%szk kd=i:=by rw [Nat.mul_comm];exact Nat.div_add_mod i (szk kd)
theorem fill_rows {kd:Nat}:∀{ps:List (Nat×Value)} {as:List (Nat×AV)} {cs:Array Value} {rows rows':List (List AV)},RepPs P σ ps as→RowsIn P σ cs kd rows→cs.size=rows.length*szk kd→rowsPut (szk kd) rows as=some rows' →
  ∃cs',Instr.fill (fun i=>some (i*szk kd,szk kd)) cs ps=some cs'∧RowsIn P σ cs' kd rows'∧cs'.size=cs.size∧rows'.length=rows.length:=by
 intro ps
 induction ps with
 |nil=>intro as cs rows rows' hp hr hs h;cases hp;simp [rowsPut] at h;subst h;exact ⟨cs,rfl,hr,rfl,rfl⟩
 |cons p ps ih =>
  intro as cs rows rows' hp hr hs h
  cases hp with
  | @cons i v a _ as ha hs' =>
   simp only [rowsPut] at h
   split at h
   ·rename_i hcond
    obtain ⟨hi,hlen,htup⟩:=hcond
    have hc:=ha.cells htup
    have hcs:v.cells.size=szk kd:=by rw [hc.size,hlen]
    have hmul:i*szk kd+szk kd≤rows.length*szk kd:=by rw [←Nat.succ_mul];exact Nat.mul_le_mul_right _ hi
    obtain ⟨f1,f2⟩:=fold_set (i*szk kd) v.cells.toList 0 cs (by simp [hcs];omega)
    have e:v.cells.zipIdx.foldl (fun cs (x:Value×Nat)=>cs.setIfInBounds (i*szk kd+x.2) x.1) cs=(v.cells.toList.zipIdx 0).foldl (fun cs (p:Value×Nat)=>cs.setIfInBounds (i*szk kd+p.2) p.1) cs:=by
     rw [←Array.foldl_toList,Array.toList_zipIdx]
    generalize hcs':(v.cells.toList.zipIdx 0).foldl (fun cs (p:Value×Nat)=>cs.setIfInBounds (i*szk kd+p.2) p.1) cs=c2 at f1 f2 e
    have hr2:RowsIn P σ c2 kd (rows.set i (a.cells.map AV.strip)):=by
     refine ⟨by rw [f1,hs];simp,fun r hr'=>?_,fun k r j d hk hj=>?_⟩
     ·rcases List.mem_or_eq_of_mem_set hr' with hr' | rfl
      ·exact hr.len r hr'
      ·simp [hlen]
     ·by_cases hki:k=i
      ·subst hki
       rw [List.getElem?_set_self hi] at hk
       cases hk
       rw [List.getElem?_map] at hj
       obtain ⟨d',hd',rfl⟩:=Option.map_eq_some_iff.1 hj
       have hjl:j<v.cells.size:=by rw [hc.size];exact (List.getElem?_eq_some_iff.1 hd').1
       refine ⟨v.cells[j],?_,hc.one j _ (Array.getElem?_eq_getElem hjl),(hc.rep j _ d' (Array.getElem?_eq_getElem hjl) hd').strip⟩
       rw [f2,if_pos (by simp;omega)]
       have:k*szk kd+j - (k*szk kd+0)=j:=by omega
       rw [this]
       simp [Array.getElem?_eq_getElem hjl]
      ·rw [List.getElem?_set_ne (fun e=>hki e.symm)] at hk
       obtain ⟨u,hu,h1,h2⟩:=hr.cell k r j d hk hj
       have hjl:j<szk kd:=by rw [←hr.len r (List.mem_of_getElem? hk)];exact (List.getElem?_eq_some_iff.1 hj).1
       refine ⟨u,?_,h1,h2⟩
       rw [f2,if_neg ?_]
       ·exact hu
       ·simp only [Nat.add_zero,Array.length_toList,hcs]
        rcases Nat.lt_or_ge k i with hlt | hge
        ·have:k*szk kd+szk kd≤i*szk kd:=by rw [←Nat.succ_mul];exact Nat.mul_le_mul_right _ hlt
         omega
        ·have:i*szk kd+szk kd≤k*szk kd:=by rw [←Nat.succ_mul];exact Nat.mul_le_mul_right _ (by omega)
         omega
    obtain ⟨cs',g1,g2,g3,g4⟩:=ih hs' hr2 (by rw [f1,hs];simp) h
    refine ⟨cs',?_,g2,by rw [g3,f1],by rw [g4];simp⟩
    simp only [Instr.fill]
    rw [if_neg (by simp [hcs,hs];omega),e]
    exact g1
   ·simp at h
theorem zero_rows {kd len:Nat} {z:Array Value} {za:List AV} (hz:RepCells P σ z za) (hs:za.length=szk kd) :
  RowsIn P σ ((Array.range (len*szk kd)).map (z[·%z.size]!)) kd (List.replicate len za):=by
 have hzs:z.size=szk kd:=by rw [hz.size,hs]
 refine ⟨by simp,fun r hr=>by rw [List.eq_of_mem_replicate hr,hs],fun i r j a h1 h2=>?_⟩
 rw [List.getElem?_replicate] at h1
 split at h1
 ·rename_i hi
  cases h1
  have hj:j<szk kd:=by rw [←hs];exact (List.getElem?_eq_some_iff.1 h2).1
  have hjz:j<z.size:=by omega
  have hmul:i*szk kd+szk kd≤len*szk kd:=by rw [←Nat.succ_mul];exact Nat.mul_le_mul_right _ hi
  refine ⟨z[j],?_,hz.one j _ (Array.getElem?_eq_getElem hjz),hz.rep j _ a (Array.getElem?_eq_getElem hjz) h2⟩
  rw [Array.getElem?_map,Array.getElem?_range,if_pos (by omega)]
  have:(i*szk kd+j)%szk kd=j:=by rw [Nat.mul_comm,Nat.mul_add_mod,Nat.mod_eq_of_lt hj]
  simp only [Option.map_some,hzs,this,getElem!_pos z j hjz]
 ·simp at h1
theorem sim_literal {home:Option (Nat×Bool)} {t e:TypeId} {kd len:Nat} {z:AV} {ps:List (Nat×Value)} {as:List (Nat×AV)} {r:AV×St} (h:WF P W bs σ st w)
  (hd:P.underlying t=some (.slice e)) (hk:kdOf P e=some kd) (hz:zeroA P e=some z) (hp:RepPs P σ ps as) (hl:literalA st home kd len z as=some r) :
  ∃v w' σ',(Instr.buildSlice t len ps.toArray).run P w = .ok v w'∧σ.Le σ'∧WF P W bs σ' r.2 w'∧Rep P σ' v r.1:=by
 unfold literalA at hl
 obtain ⟨hsz,hu⟩:=kdOf_sz hk
 have hpos:=szk_pos kd
 split at hl
 ·rename_i hc
  obtain ⟨h1,h2,h3⟩:=hc
  obtain ⟨rows,hrows,h4⟩:=Option.bind_eq_some_iff.1 hl
  obtain ⟨zv,hz1,hz2⟩:=sim_zero (σ:=σ) hz w
  have hzc:=hz2.cells h2
  obtain ⟨cs',g1,g2,g3,g4⟩:=fill_rows hp (zero_rows (len:=len) hzc h1) (by simp) hrows
  have hlen:rows.length=len:=by rw [g4];simp
  have hcs:cs'.size=rows.length*szk kd:=by rw [g3,hlen];simp
  have run:(Instr.buildSlice t len ps.toArray).run P w = .ok (.slice (some ⟨w.heap.size,0,none⟩) len len) (w.alloc (.cells cs' e)):=by
   have hnot:¬(len*szk kd>2^24):=by omega
   simp only [Instr.buildSlice,Sem.run_bind,run_under' hd,run_sizeOf' hsz,Result.andThen_ok]
   rw [if_neg hnot]
   by_cases h0:len*szk kd=0
   ·have hl0:len=0:=by
     rcases Nat.mul_eq_zero.1 h0 with h | h
     ·exact h
     ·omega
    subst hl0
    have ec:(Array.range (0*szk kd)).map (zv.cells[·%zv.cells.size]!)=(Array.range (0*szk kd)).map ((#[]:Array Value)[·%(#[]:Array Value).size]!):=by simp
    rw [ec] at g1
    rw [if_pos h0]
    simp only [Sem.run_bind,Sem.run_pure,Result.andThen_ok]
    rw [g1]
    simp [newRow]
   ·rw [if_neg h0]
    simp only [Sem.run_bind,Sem.run_pure,hz1,Result.andThen_ok]
    rw [g1]
    simp [newRow]
  subst hlen
  obtain ⟨σ',l1,l2,l3⟩:=sim_place (home:=home) (tok:=.exact) (c:=rows.length) h (r:=r) (by cases home<;>simpa using h4) g2 hu (Nat.le_refl _) (by omega) (.inr ⟨rfl,rfl⟩)
  exact ⟨_,_,σ',run,l1,l2,l3⟩
 ·simp at hl
theorem load_rows {b o kd:Nat} {new:List (List AV)} (hl:∀r ∈ new,r.length=szk kd)
  (hc:∀(i:Nat) r (j:Nat) a,new[i]?=some r→r[j]?=some a→∃v,w.cell? ⟨b,o+(i*szk kd+j),none⟩=some v∧v.oneCell'=true∧Rep P σ v a) :
  ∃vs:Array Value,(loadCells ⟨b,o,none⟩ (new.length*szk kd)).run P w = .ok vs w∧vs.size=new.length*szk kd∧RowsIn P σ vs kd new:=by
 have hp:=szk_pos kd
 have key:∀k,k<new.length*szk kd→∃i r j a,new[i]?=some r∧r[j]?=some a∧k=i*szk kd+j:=fun k hk=>by
  have hq:k / szk kd<new.length:=by rw [Nat.div_lt_iff_lt_mul hp];exact hk
  have hm:k%szk kd<szk kd:=Nat.mod_lt _ hp
  have hrl:=hl _ (List.getElem_mem hq)
  exact ⟨k / szk kd,new[k / szk kd],k%szk kd,new[k / szk kd][k%szk kd]'(by omega),List.getElem?_eq_getElem hq,List.getElem?_eq_getElem (by omega),div_row.symm⟩
 have hf:∀k,k<new.length*szk kd→w.cell? ⟨b,o+k,none⟩=some ((w.cell? ⟨b,o+k,none⟩).getD .nilIface):=fun k hk=>by
  obtain ⟨i,r,j,a,h1,h2,rfl⟩:=key k hk
  obtain ⟨v,hv,_⟩:=hc i r j a h1 h2
  rw [hv];rfl
 have hrun:=run_loadCells (P:=P) (w:=w) ⟨b,o,none⟩ (new.length*szk kd) (fun k=>(w.cell? ⟨b,o+k,none⟩).getD .nilIface) (fun k hk=>by rw [addr_add];exact hf k hk)
 refine ⟨_,hrun,by simp,⟨by simp,hl,fun i r j a h1 h2=>?_⟩⟩
 obtain ⟨v,hv,hv1,hv2⟩:=hc i r j a h1 h2
 have hlt:=in_row hl h1 h2
 refine ⟨v,?_,hv1,hv2⟩
 rw [List.getElem?_toArray,List.getElem?_map,List.getElem?_range hlt]
 simp [hv]
theorem sim_rows {kd:Nat} {x:Value} {xa:AV} {new:List (List AV)} (h:WF P W bs σ st w) (hx:Rep P σ x xa) (hr:rowsOf st kd xa=some new) :
  (Builtin.lenOf x).run P w = .ok new.length w∧∀m,m≤new.length→∃vs:Array Value,(Builtin.firstCells (szk kd) m x).run P w = .ok vs w∧vs.size=m*szk kd∧RowsIn P σ vs kd (new.take m):=by
 unfold rowsOf at hr
 split at hr
 ·cases hr;cases hx
  refine ⟨rfl,fun m hm=>?_⟩
  obtain rfl:m=0:=by simpa using hm
  exact ⟨#[],rfl,by simp,⟨by simp,by simp,by simp⟩⟩
 ·rename_i kd' rows off len tok
  split at hr
  ·rename_i e;subst e
   cases hr
   cases hx with
   |slz a kd =>
    refine ⟨rfl,fun m hm=>?_⟩
    obtain rfl:m=0:=by simpa using hm
    exact ⟨#[],by simp [Builtin.firstCells,loadCells,loadCellsFrom],by simp,⟨by simp,by simp,by simp⟩⟩
   |sl b o o0 _ c _ _ _ _ hlen hrow hc ho hsh htok hI hR =>
    have hnl:((rows.drop off).take len).length=len:=by simp;omega
    refine ⟨by rw [hnl];rfl,fun m hm=>?_⟩
    rw [hnl] at hm
    have hml:(((rows.drop off).take len).take m).length=m:=by simp;omega
    have hl':∀r ∈ ((rows.drop off).take len).take m,r.length=szk kd':=fun r hr=>hrow r (List.mem_of_mem_drop (List.mem_of_mem_take (List.mem_of_mem_take hr)))
    obtain ⟨vs,g1,g2,g3⟩:=load_rows (P:=P) (σ:=σ) (w:=w) (b:=b) (o:=o) hl' (fun i r j a h1 h2=>by
     rw [List.getElem?_take] at h1
     split at h1
     ·rename_i him
      rw [List.getElem?_take] at h1
      split at h1
      ·rw [List.getElem?_drop] at h1
       obtain ⟨v,hv⟩:=Option.isSome_iff_exists.1 (hI _ r j a h1 h2)
       have:=h.imm _ _ _ hv
       refine ⟨v,?_,this.2,hR _ r j a v h1 h2 hv⟩
       rw [ho (by omega)]
       have e1:o0+off*szk kd'+(i*szk kd'+j)=o0+(off+i)*szk kd'+j:=by rw [Nat.add_mul];omega
       rw [e1];exact this.1
      ·simp at h1
     ·simp at h1)
    rw [hml] at g1 g2
    exact ⟨vs,g1,g2,g3⟩
  ·simp at hr
 ·rename_i o ep off len cap
  split at hr
  ·rename_i kd' ep' rs ho
   split at hr
   ·rename_i hcond
    obtain ⟨rfl,rfl,hle⟩:=hcond
    cases hr
    obtain ⟨b',base',q1,_,_,_,q5,q6⟩:=h.obj _ _ ho
    cases hx with
    |ms b base kd oo _ _ _ _ c _ hR hcap hlen hoo hsh =>
     rw [hR] at q1
     simp only [Option.some.injEq,Prod.mk.injEq] at q1
     obtain ⟨rfl,rfl,rfl⟩:=q1
     have hnl:((rs.drop off).take len).length=len:=by simp;omega
     refine ⟨by rw [hnl];rfl,fun m hm=>?_⟩
     rw [hnl] at hm
     have hml:(((rs.drop off).take len).take m).length=m:=by simp;omega
     have hl':∀r ∈ ((rs.drop off).take len).take m,r.length=szk kd:=fun r hr=>q5 r (List.mem_of_mem_drop (List.mem_of_mem_take (List.mem_of_mem_take hr)))
     obtain ⟨vs,g1,g2,g3⟩:=load_rows (P:=P) (σ:=σ) (w:=w) (b:=b) (o:=oo) hl' (fun i r j a h1 h2=>by
      rw [List.getElem?_take] at h1
      split at h1
      ·rename_i him
       rw [List.getElem?_take] at h1
       split at h1
       ·rw [List.getElem?_drop] at h1
        obtain ⟨v,hv,hv1,hv2⟩:=q6 _ r j a h1 h2
        refine ⟨v,?_,hv1,hv2⟩
        rw [hoo (by omega)]
        have e1:base+off*szk kd+(i*szk kd+j)=base+(off+i)*szk kd+j:=by rw [Nat.add_mul];omega
        rw [e1];exact hv
       ·simp at h1
      ·simp at h1)
     rw [hml] at g1 g2
     exact ⟨vs,g1,g2,g3⟩
   ·simp at hr
  ·simp at hr
 ·rename_i s
  split at hr
  ·rename_i e;subst e
   cases hr
   cases hx with
   |str s =>
    have hsz:s.data.toList.length=s.size:=rfl
    have hml:(s.data.toList.map fun b=>[AV.int IntKind.u8 (b.toNat:Int)]).length=s.size:=by rw [List.length_map,hsz]
    refine ⟨by rw [hml];rfl,fun m hm=>?_⟩
    rw [hml] at hm
    have hm':m≤s.data.size:=hm
    refine ⟨((s.extract 0 m).data.map fun b=>.int .u8 b.toNat),rfl,?_,⟨?_,fun r hr=>?_,fun i r j a h1 h2=>?_⟩⟩
    ·simp [szk];first | done | omega
    ·simp [szk];first | done | omega
    ·obtain ⟨b,_,rfl⟩:=List.mem_map.1 (List.mem_of_mem_take hr);rfl
    ·rw [List.getElem?_take] at h1
     split at h1
     ·rename_i him
      rw [List.getElem?_map] at h1
      obtain ⟨b,hb,rfl⟩:=Option.map_eq_some_iff.1 h1
      cases j with
      |succ j=>simp at h2
      |zero =>
       simp at h2;subst h2
       refine ⟨.int .u8 b.toNat,?_,rfl,.int _ _⟩
       have hb':s.data[i]?=some b:=by simpa using hb
       simp [szk,Array.getElem?_extract,him,hb',Nat.lt_min,show i<s.data.size by omega]
       exact Nat.lt_of_lt_of_le him hm'
     ·simp at h1
  ·simp at hr
 ·simp at hr
end
end Go.Abs
namespace Go.Abs
open Go Go.RowKit
section
variable {P:Program} {W:World} {bs:Nat} {σ:Gh} {st:St} {w:World}
theorem run_append_new {ts:Array TypeId} {ty t u e:TypeId} {d:TypeDesc} {i:TypeInfo} {zv:Value} {base:Option Addr} {sLen sCap n:Nat} {x:Value} {old new:Array Value}
  (h0:ts[0]?=some t) (h1:ts[1]?=some u) (hu:P.underlying u=some d) (hd:∀k,d≠.int k) (ht:P.underlying t=some (.slice e)) (hi:P.info? e=some i)
  (hz:∀w,(zeroValue e).run P w = .ok zv w) (hx:(Builtin.lenOf x).run P w = .ok n w) (hg:sCap<sLen+n) (h2:(sLen+n)*i.bytes≤roomA) (h3:sLen+n≤roomA)
  (hold:(Builtin.firstCells i.size sLen (.slice base sLen sCap)).run P w.drew = .ok old w.drew) (hnew:(Builtin.firstCells i.size n x).run P w.drew = .ok new w.drew) :
  (Builtin.append_ ts ty #[.slice base sLen sCap,x]).run P w =
   .ok (.slice (some ⟨w.heap.size,0,none⟩) (sLen+n) (grownCap w (sLen+n) sCap e)) (w.drew.alloc (.cells (old++new++Builtin.zeroCells zv.cells (grownCap w (sLen+n) sCap e - (sLen+n))) e)):=by
 have hn:¬(sLen+n≤sCap):=by omega
 unfold roomA at h2 h3
 have h63':¬(9223372036854775807<((sLen:Int)+(n:Int))):=by omega
 have hf:=growslice_fits hg (bytes:=i.bytes) (by omega)
 have h48':¬(281474976710656<Builtin.nextslicecap (sLen+n) sCap*i.bytes):=by omega
 have hm:(match d with | .int _=>true | _=>false)=false:=by
  cases d with
  |int k=>exact absurd rfl (hd k)
  |_=>rfl
 simp [Builtin.append_,h0,h1,run_underlying ht,run_underlying hu,sizeOf,typeInfo,hi,hz,hx,hn,h63',h48',Question.forced,hold,hnew,newRow,grownCap,hm]
theorem run_append_fit {ts:Array TypeId} {ty t u e:TypeId} {d:TypeDesc} {i:TypeInfo} {base:Option Addr} {sLen sCap n:Nat} {x:Value} {new:Array Value} {w':World}
  (h0:ts[0]?=some t) (h1:ts[1]?=some u) (hu:P.underlying u=some d) (hd:∀k,d≠.int k) (ht:P.underlying t=some (.slice e)) (hi:P.info? e=some i)
  (hx:(Builtin.lenOf x).run P w = .ok n w) (hg:sLen+n≤sCap) (hnew:(Builtin.firstCells i.size n x).run P w = .ok new w)
  (hst:(match base with | none=>Sem.pure () | some a=>storeCells (a.add (sLen*i.size)) new.toList).run P w = .ok () w') :
  (Builtin.append_ ts ty #[.slice base sLen sCap,x]).run P w = .ok (.slice base (sLen+n) sCap) w':=by
 have hm:(match d with | .int _=>true | _=>false)=false:=by
  cases d with
  |int k=>exact absurd rfl (hd k)
  |_=>rfl
 cases base with
 |none =>
  have hst':w'=w:=by
   have:(Result.ok () w:Result Unit) = .ok () w':=hst
   cases this;rfl
  subst hst'
  simp [Builtin.append_,h0,h1,run_underlying ht,run_underlying hu,sizeOf,typeInfo,hi,hx,hg,hnew,hm]
 |some a =>
  simp [Builtin.append_,h0,h1,run_underlying ht,run_underlying hu,sizeOf,typeInfo,hi,hx,hg,hnew,hm]
  simp at hst
  rw [hst];rfl
theorem zeroCells_size (z:Array Value) (n:Nat):(Builtin.zeroCells z n).size=n*z.size:=by simp [Builtin.zeroCells]
theorem RowsIn.append {kd:Nat} {old new rest:Array Value} {ro rn:List (List AV)} (h1:RowsIn P σ old kd ro) (e1:old.size=ro.length*szk kd) (h2:RowsIn P σ new kd rn) :
  RowsIn P σ (old++new++rest) kd (ro++rn):=by
 refine ⟨?_,fun r hr=>?_,fun i r j a hi hj=>?_⟩
 ·have:=h2.size
  simp only [List.length_append,Array.size_append,Nat.add_mul];omega
 ·rcases List.mem_append.1 hr with hr | hr
  ·exact h1.len r hr
  ·exact h2.len r hr
 ·rcases Nat.lt_or_ge i ro.length with hlt | hge
  ·rw [List.getElem?_append_left hlt] at hi
   obtain ⟨v,hv,h3⟩:=h1.cell i r j a hi hj
   have hlt2:=in_row h1.len hi hj
   refine ⟨v,?_,h3⟩
   rw [Array.append_assoc,Array.getElem?_append_left (by omega)]
   exact hv
  ·rw [List.getElem?_append_right hge] at hi
   obtain ⟨v,hv,h3⟩:=h2.cell _ r j a hi hj
   have hlt2:=(Array.getElem?_eq_some_iff.1 hv).1
   have e2:i*szk kd=ro.length*szk kd+(i - ro.length)*szk kd:=by rw [←Nat.add_mul];congr 1;omega
   refine ⟨v,?_,h3⟩
   rw [Array.append_assoc,Array.getElem?_append_right (by omega),Array.getElem?_append_left (by omega),←hv]
   congr 1;omega
theorem RowsIn.ones {kd:Nat} {vs:Array Value} {rows:List (List AV)} (h:RowsIn P σ vs kd rows) (e:vs.size=rows.length*szk kd):∀u ∈ vs.toList,u.oneCell'=true:=fun u hu=>by
 obtain ⟨k,hk,rfl⟩:=List.getElem_of_mem hu
 have hk':k<rows.length*szk kd:=by rw [←e];simpa using hk
 have hp:=szk_pos kd
 have hq:k / szk kd<rows.length:=by rw [Nat.div_lt_iff_lt_mul hp];exact hk'
 have hm:k%szk kd<szk kd:=Nat.mod_lt _ hp
 have hrl:=h.len _ (List.getElem_mem hq)
 obtain ⟨v,h1,h2,_⟩:=h.cell _ _ (k%szk kd) (rows[k / szk kd][k%szk kd]'(by omega)) (List.getElem?_eq_getElem hq) (List.getElem?_eq_getElem (by omega))
 rw [div_row,Array.getElem?_eq_getElem (by simpa using hk)] at h1
 simp only [Option.some.injEq] at h1
 simpa [h1] using h2
theorem sim_newSpare {t ep n kd:Nat} {rows:List (List AV)} {vs:Array Value} {e:TypeId} {c:Nat} (hw:WF P W bs σ st w) (hx:st.get t=some (.spare ep n)) (hnm:n<rows.length)
  (hr:RowsIn P σ vs kd rows) (hu:kd=0→ByteT P e) (hc:rows.length≤c) (hcs:c*szk kd≤vs.size) :
  ∃σ',σ.Le σ'∧WF P W bs σ' (st.put t (.spare ep rows.length)) (w.alloc (.cells vs e))∧Rep P σ' (.slice (some ⟨w.heap.size,0,none⟩) rows.length c) (.sl kd rows 0 rows.length (.spare t ep)):=by
 obtain ⟨fR,fL,fK⟩:=hw.fresh t _ hx
 have hlt:=St.get_lt hx
 have l1:=Gh.le_newRows hw vs e (rows.length*szk kd)
 have hn:(σ.newRows w.heap.size vs e (rows.length*szk kd)).L t ep rows.length=none:=fK _ hnm
 have l2:=Gh.le_setL (σ.newRows w.heap.size vs e (rows.length*szk kd)) (x:=(w.heap.size,rows.length*szk kd)) hn
 have w1:=hw.newRows (e:=e) hr
 have hL:((σ.newRows w.heap.size vs e (rows.length*szk kd)).setL t ep rows.length (w.heap.size,rows.length*szk kd)).L t ep rows.length=some (w.heap.size,rows.length*szk kd):=by
  show (if _ then _ else _)=_
  rw [if_pos ⟨rfl,rfl,rfl⟩]
 refine ⟨_,l1.trans l2,?_,rep_new hr hu (fun i=>noI hw (Nat.le_refl _) i) l2 l1 (Nat.le_refl _) hc hcs (by simpa [TokOk] using hL)⟩
 refine w1.step (o:=t) (x:=.spare ep rows.length) (T:=w.heap.size) l2 w1.below (fun p hp=>St.get_put_ne hp) (St.get_put_same hlt) (by simp) (fun _ _ _=>rfl)
  (fun p y _ hp hown=>?_) (fun _ _ _ hv=>.inl hv) (fun i v hv=>w1.imm _ _ _ hv) (fun _ _ hy=>.inl hy) (fun y hy=>w1.shp _ _ hy) (fun _ _ _ hy=>.inl hy) (fun _ _ hy=>.inl hy)
  (fun o' e' n' y hy=>?_) ?_ ?_ (fun b hb=>?_) (noK hw (Nat.le_refl _)) (hBx:=fun _ hb=>(hw.noB hx rfl hb).elim)
 ·refine unowned hw (Nat.le_refl _) p y hp ?_
  cases y<;>exact hown
 ·change (if o'=t∧e'=ep∧n'=rows.length then some _ else _)=some y at hy
  split at hy
  ·rename_i hcc;exact .inr hcc.1
  ·exact .inl hy
 ·refine ⟨w.heap.size,rows.length*szk kd,hL,Nat.le_trans hw.bsle hw.size,fun i hi=>?_,vs,e,(0,0),heap_alloc_new w _,.inl rfl⟩
  change (σ.newRows w.heap.size vs e (rows.length*szk kd)).I w.heap.size i=none
  cases hv:(σ.newRows w.heap.size vs e (rows.length*szk kd)).I w.heap.size i with
  |none=>rfl
  |some v=>have:=newRows_I hr.size (noI hw (Nat.le_refl _) i) hv;omega
 ·refine ⟨fun e' he=>fR e' he,fun e' k he=>?_,fun k hk'=>?_⟩
  ·change (if t=t∧e'=ep∧k=rows.length then some _ else σ.L t e' k)=none
   rw [if_neg (by omega)];exact fL e' k he
  ·change (if t=t∧ep=ep∧k=rows.length then some _ else σ.L t ep k)=none
   rw [if_neg (by omega)];exact fK k (by omega)
 ·obtain ⟨y,hy⟩:=hb
  rw [hL] at hy
  cases hy;rfl
theorem sim_fitSpare {t ep kd:Nat} {rows new:List (List AV)} {vs:Array Value} {b o len c:Nat} (hw:WF P W bs σ st w) (hx:st.get t=some (.spare ep rows.length))
  (hrep:Rep P σ (.slice (some ⟨b,o,none⟩) len c) (.sl kd rows 0 len (.spare t ep))) (hl:len=rows.length) (hpos:0<new.length) (hfit:len+new.length≤c)
  (hr:RowsIn P σ vs kd new) (hs:vs.size=new.length*szk kd) :
  (storeCells (⟨b,o+len*szk kd,none⟩) vs.toList).run P w = .ok () (w.setCells b (o+len*szk kd) vs.toList) ∧
  ∃σ',σ.Le σ'∧WF P W bs σ' (st.put t (.spare ep (rows.length+new.length))) (w.setCells b (o+len*szk kd) vs.toList)∧Rep P σ' (.slice (some ⟨b,o,none⟩) (len+new.length) c) (.sl kd (rows++new) 0 (len+new.length) (.spare t ep)):=by
 cases hrep with
 |sl _ _ o0 _ _ _ _ _ _ hlen hrow hc ho hsh htok hI hR =>
 subst hl
 have ho':o=o0:=by have:=ho (by omega);omega
 subst ho'
 obtain ⟨b',s,g1,hbs,hloose⟩:=hw.obj t _ hx
 have htok':σ.L t ep rows.length=some (b,o+rows.length*szk kd):=htok
 rw [htok'] at g1
 simp only [Option.some.injEq,Prod.mk.injEq] at g1
 obtain ⟨rfl,rfl⟩:=g1
 obtain ⟨fR,fL,fK⟩:=hw.fresh t _ hx
 obtain ⟨hIn,cells,ce,fz,h4,hfz0⟩:=hloose
 have hfz:∀j,o+rows.length*szk kd≤j→j<cells.size→w.frozen? ⟨b,j,none⟩=false:=fun j hj _=>frozen_free h4 hfz0 hj
 obtain ⟨se,sn,hs1,hs2,hs3⟩:=hsh.get (Nat.lt_of_lt_of_le (show 0<(if c=0 then 0 else o+c*szk kd) by
  have h1:=szk_pos kd
  have h2:0<c*szk kd:=Nat.mul_pos (by omega) h1
  rw [if_neg (by omega)];omega) (Nat.le_max_right _ _))
 have hshp:=hw.shp _ _ hs1
 simp only [World.shape?,h4,Option.some.injEq,Prod.mk.injEq] at hshp
 rw [if_neg (by omega)] at hs2
 have hs2':=(Nat.max_le.1 hs2).2
 have hmul:(rows.length+new.length)*szk kd≤c*szk kd:=Nat.mul_le_mul_right _ hfit
 rw [Nat.add_mul] at hmul
 have hle:o+rows.length*szk kd+vs.size≤cells.size:=by rw [hshp.2];omega
 have hone:=hr.ones hs
 have hrun:(storeCells (⟨b,o+rows.length*szk kd,none⟩) vs.toList).run P w = .ok () (w.setCells b (o+rows.length*szk kd) vs.toList):=by
  have:=run_storeCells_cells (P:=P) b (o+rows.length*szk kd) vs.toList 0 w (fun j hj=>by
   simp only [World.cell?,Nat.add_zero,h4]
   have:o+rows.length*szk kd+j<cells.size:=by simp at hj;omega
   simp [this]) (fun j hj=>hfz _ (by omega) (by simp at hj;omega)) hone
  simpa using this
 refine ⟨hrun,?_⟩
 obtain ⟨⟨c',q1,q2,q3⟩,q4,q5⟩:=setCells_heap b vs.toList (o+rows.length*szk kd) w cells h4 (by simpa using hle)
 have l1:=Gh.le_addI σ (b:=b) (s:=o+rows.length*szk kd) (vs:=vs.toList) (fun i hi _=>hIn i hi)
 have l2:=Gh.le_setL (σ.addI b (o+rows.length*szk kd) vs.toList) (t:=t) (ep:=ep) (n:=rows.length+new.length) (x:=(b,o+(rows.length+new.length)*szk kd)) (fK _ (by omega))
 have hL:((σ.addI b (o+rows.length*szk kd) vs.toList).setL t ep (rows.length+new.length) (b,o+(rows.length+new.length)*szk kd)).L t ep (rows.length+new.length)=some (b,o+(rows.length+new.length)*szk kd):=by
  show (if _ then _ else _)=_
  rw [if_pos ⟨rfl,rfl,rfl⟩]
 have hIv:∀b' i,((σ.addI b (o+rows.length*szk kd) vs.toList).setL t ep (rows.length+new.length) (b,o+(rows.length+new.length)*szk kd)).I b' i =
   if b'=b∧o+rows.length*szk kd≤i∧i<o+rows.length*szk kd+vs.size then vs[i - (o+rows.length*szk kd)]? else σ.I b' i:=fun b' i=>by
  show (if b'=b∧o+rows.length*szk kd≤i∧i<o+rows.length*szk kd+vs.toList.length then vs.toList[i - (o+rows.length*szk kd)]? else σ.I b' i)=_
  simp
 refine ⟨_,l1.trans l2,?_,?_⟩
 ·refine hw.step (o:=t) (x:=.spare ep (rows.length+new.length)) (T:=b) (l1.trans l2) (below_setCells b _ _ _ hw.below hbs) (fun p hp=>St.get_put_ne hp) (St.get_put_same (St.get_lt hx)) (by simp)
   (fun b' hb' _=>q4 b' hb') (fun p y hp hy hown=>hp (hw.sep p t y _ b hy hx hown ⟨_,htok'⟩)) (fun b' i v hv=>?_) (fun i v hv=>?_) (fun _ _ hy=>.inl hy) (fun y hy=>?_)
   (fun _ _ _ hy=>.inl hy) (fun _ _ hy=>.inl hy) (fun o' e' n' y hy=>?_) ?_ ?_ (fun b' hb'=>?_) (ownK hw hx ⟨_,htok'⟩) (hBx:=fun _ hb=>(hw.noB hx rfl hb).elim)
  ·rw [hIv] at hv
   split at hv
   ·rename_i hcc;exact .inr hcc.1
   ·exact .inl hv
  ·rw [hIv] at hv
   simp only [World.cell?,q1,Option.isSome_none,Bool.false_eq_true,if_false]
   rw [q3]
   split at hv
   ·rename_i hcc
    rw [if_pos (by simp;omega)]
    exact ⟨by simpa using hv,hone v (by simpa using List.mem_of_getElem? (l:=vs.toList) (by simpa using hv))⟩
   ·rename_i hcc
    have hk:=hw.imm _ _ _ hv
    have hkb:i<o+rows.length*szk kd:=by
     rcases Nat.lt_or_ge i (o+rows.length*szk kd) with hlt | hge
     ·exact hlt
     ·rw [hIn i hge] at hv;simp at hv
    rw [if_neg (by omega)]
    simpa only [World.cell?,h4,Option.isSome_none,Bool.false_eq_true,if_false] using hk
  ·have:=hw.shp _ _ hy
   simp only [World.shape?,h4,q1] at this ⊢
   rw [q2];exact this
  ·change (if o'=t∧e'=ep∧n'=rows.length+new.length then some _ else _)=some y at hy
   split at hy
   ·rename_i hcc;exact .inr hcc.1
   ·exact .inl hy
  ·refine ⟨b,o+(rows.length+new.length)*szk kd,hL,hbs,fun i hi=>?_,c',ce,fz,q1,hfz0.imp_right fun hk=>?_⟩
   ·rw [Nat.add_mul] at hi
    rw [hIv,if_neg (by omega)]
    exact hIn i (by omega)
   ·rw [Nat.add_mul];omega
  ·refine ⟨fun e' he=>fR e' he,fun e' k he=>?_,fun k hk'=>?_⟩
   ·change (if t=t∧e'=ep∧k=rows.length+new.length then some _ else σ.L t e' k)=none
    rw [if_neg (by omega)];exact fL e' k he
   ·change (if t=t∧ep=ep∧k=rows.length+new.length then some _ else σ.L t ep k)=none
    rw [if_neg (by omega)];exact fK k (by omega)
  ·obtain ⟨y,hy⟩:=hb'
   rw [hL] at hy
   cases hy;rfl
 ·have hlt:∀(i:Nat) r (j:Nat) a,rows[i]?=some r→r[j]?=some a→i*szk kd+j<rows.length*szk kd:=fun i r j a h1 h2=>in_row hrow h1 h2
  refine .sl b o o (rows.length+new.length) c kd (rows++new) 0 (.spare t ep) (by simp) (fun r hr'=>?_) (by simp;omega) (fun _=>by simp) (.inr ⟨se,sn,hs1,?_,fun _=>hs3⟩) (by simpa [TokOk] using hL) (fun i r j a h1 h2=>?_) (fun i r j a v h1 h2 h3=>?_)
  ·rcases List.mem_append.1 hr' with h | h
   ·exact hrow r h
   ·exact hr.len r h
  ·rw [if_neg (by omega)]
   refine Nat.max_le.2 ⟨?_,hs2'⟩
   rw [List.length_append,Nat.add_mul];omega
  ·rw [hIv]
   rcases Nat.lt_or_ge i rows.length with hil | hig
   ·rw [List.getElem?_append_left hil] at h1
    have:=hlt i r j a h1 h2
    rw [if_neg (by omega)]
    exact hI i r j a h1 h2
   ·rw [List.getElem?_append_right hig] at h1
    obtain ⟨u,hu,_⟩:=hr.cell _ r j a h1 h2
    have:=in_row hr.len h1 h2
    have e2:i*szk kd=rows.length*szk kd+(i - rows.length)*szk kd:=by rw [←Nat.add_mul];congr 1;omega
    rw [if_pos ⟨rfl,by omega,by omega⟩]
    have e3:o+i*szk kd+j - (o+rows.length*szk kd)=(i - rows.length)*szk kd+j:=by omega
    rw [e3,hu];rfl
  ·rw [hIv] at h3
   rcases Nat.lt_or_ge i rows.length with hil | hig
   ·rw [List.getElem?_append_left hil] at h1
    have:=hlt i r j a h1 h2
    rw [if_neg (by omega)] at h3
    exact (hR i r j a v h1 h2 h3).mono (l1.trans l2)
   ·rw [List.getElem?_append_right hig] at h1
    obtain ⟨u,hu,_,hrep⟩:=hr.cell _ r j a h1 h2
    have:=in_row hr.len h1 h2
    have e2:i*szk kd=rows.length*szk kd+(i - rows.length)*szk kd:=by rw [←Nat.add_mul];congr 1;omega
    rw [if_pos ⟨rfl,by omega,by omega⟩] at h3
    have e3:o+i*szk kd+j - (o+rows.length*szk kd)=(i - rows.length)*szk kd+j:=by omega
    rw [e3,hu] at h3
    cases h3
    exact hrep.mono (l1.trans l2)
end
end Go.Abs
namespace Go.Abs
open Go Go.RowKit
section
variable {P:Program} {W:World} {bs:Nat} {σ:Gh} {st:St} {w:World}
theorem WF.rowsOf (h:WF P W bs σ st w) {o kd ep:Nat} {rs:List (List AV)} (ho:st.get o=some (.rows kd ep rs)) :
  ∃b base cells e fz,σ.R o ep=some (b,base,kd)∧bs≤b∧w.heap[b]?=some (.cells cells e fz)∧(∀i,base≤i→σ.I b i=none)∧(fz.1=fz.2∨fz.2≤base) ∧
   base+rs.length*szk kd≤cells.size∧σ.sh b=some (e,cells.size)∧(kd=0→ByteT P e):=by
 obtain ⟨b,base,g1,hbs,⟨hI,cells,ce,fz,h4,hfz⟩,⟨se,sn,hs1,hs2,hs3⟩,hrl,hcell⟩:=h.obj _ _ ho
 have hshp:=h.shp _ _ hs1
 simp only [World.shape?,h4,Option.some.injEq,Prod.mk.injEq] at hshp
 obtain ⟨rfl,rfl⟩:=hshp
 exact ⟨b,base,cells,ce,fz,g1,hbs,h4,hI,hfz,hs2,hs1,hs3⟩
theorem WF.writeRows (h:WF P W bs σ st w) {o kd ep:Nat} {rs:List (List AV)} (ho:st.get o=some (.rows kd ep rs)) {b base:Nat} (hR:σ.R o ep=some (b,base,kd)) {x:Nat} {vs:List Value} (hx:base≤x)
  {cells:Array Value} {e:TypeId} {fz:Nat×Nat} (hb:w.heap[b]?=some (.cells cells e fz)) (hle:x+vs.length≤cells.size) {ep' base':Nat} {rs':List (List AV)} (hbase:base≤base') {σ':Gh}
  (hσ:(ep'=ep∧base'=base∧σ'=σ)∨(ep'=ep+1∧σ'=σ.setR o (ep+1) (b,base',kd))) (hlen:∀r ∈ rs',r.length=szk kd) (hfit:base'+rs'.length*szk kd≤cells.size)
  (hcell:∀(i:Nat) r (j:Nat) a,rs'[i]?=some r→r[j]?=some a→∃v,(w.setCells b x vs).cell? ⟨b,base'+i*szk kd+j,none⟩=some v∧v.oneCell'=true∧Rep P σ v a) :
  σ.Le σ'∧WF P W bs σ' (st.put o (.rows kd ep' rs')) (w.setCells b x vs)∧σ'.R o ep'=some (b,base',kd):=by
 obtain ⟨b2,base2,cells2,e2,fz2,g1,hbs,g3,hI,hfz0,hs2,hs1,hs3⟩:=h.rowsOf ho
 rw [hR] at g1
 simp only [Option.some.injEq,Prod.mk.injEq,and_true] at g1
 obtain ⟨rfl,rfl⟩:=g1
 rw [hb] at g3
 simp only [Option.some.injEq,Obj.cells.injEq] at g3
 obtain ⟨rfl,rfl,rfl⟩:=g3
 obtain ⟨fR,fL⟩:=h.fresh o _ ho
 have hl:σ.Le σ':=by
  rcases hσ with ⟨_,_,rfl⟩ | ⟨_,rfl⟩
  ·exact .refl _
  ·exact Gh.le_setR σ (fR _ (by omega))
 have hR':σ'.R o ep'=some (b,base',kd):=by
  rcases hσ with ⟨rfl,rfl,rfl⟩ | ⟨rfl,rfl⟩
  ·exact hR
  ·show (if _ then _ else _)=_
   rw [if_pos ⟨rfl,rfl⟩]
 have eI:σ'.I=σ.I:=by rcases hσ with ⟨rfl,rfl,rfl⟩ | ⟨rfl,rfl⟩<;>rfl
 have eS:σ'.sh=σ.sh:=by rcases hσ with ⟨rfl,rfl,rfl⟩ | ⟨rfl,rfl⟩<;>rfl
 have eB:σ'.B=σ.B:=by rcases hσ with ⟨rfl,rfl,rfl⟩ | ⟨rfl,rfl⟩<;>rfl
 have eL:σ'.L=σ.L:=by rcases hσ with ⟨rfl,rfl,rfl⟩ | ⟨rfl,rfl⟩<;>rfl
 have eK:σ'.K=σ.K:=by rcases hσ with ⟨rfl,rfl,rfl⟩ | ⟨rfl,rfl⟩<;>rfl
 obtain ⟨⟨c',q1,q2,q3⟩,q4,q5⟩:=setCells_heap b vs x w cells hb hle
 refine ⟨hl,?_,hR'⟩
 refine h.step (o:=o) (x:=.rows kd ep' rs') (T:=b) hl (below_setCells b _ _ _ h.below hbs) (fun p hp=>St.get_put_ne hp) (St.get_put_same (St.get_lt ho)) (by simp)
  (fun b' hb' _=>q4 b' hb') (fun p y hp hy hown=>hp (h.sep p o y (.rows kd ep rs) b hy ho hown ⟨_,hR⟩)) (fun _ _ _ hv=>.inl (by rw [eI] at hv;exact hv)) (fun k u hu=>?_)
  (fun _ _ hy=>.inl (by rw [eS] at hy;exact hy)) (fun y hy=>?_) (fun o' e' y hy=>?_) (fun _ _ hy=>.inl (by rw [eB] at hy;exact hy)) (fun _ _ _ _ hy=>.inl (by rw [eL] at hy;exact hy)) ?_ ?_ (fun b' hb'=>?_) (ownK h ho ⟨_,hR⟩) eK (hBx:=fun _ hb=>(h.noB ho rfl (by rw [eB] at hb;exact hb)).elim)
 ·rw [eI] at hu
  have hk:=h.imm _ _ _ hu
  have hkb:k<base:=by
   rcases Nat.lt_or_ge k base with hlt | hge
   ·exact hlt
   ·rw [hI k hge] at hu;simp at hu
  simp only [World.cell?,hb,q1,Option.isSome_none,Bool.false_eq_true,if_false] at hk ⊢
  rw [q3 k,if_neg (by omega)]
  exact hk
 ·rw [eS] at hy
  have:=h.shp _ _ hy
  simp only [World.shape?,hb,q1] at this ⊢
  rw [q2];exact this
 ·rcases hσ with ⟨rfl,rfl,rfl⟩ | ⟨rfl,rfl⟩
  ·exact .inl hy
  ·change (if o'=o∧e'=ep+1 then some _ else _)=some y at hy
   split at hy
   ·rename_i hcc;exact .inr hcc.1
   ·exact .inl hy
 ·refine ⟨b,base',hR',hbs,⟨fun i hi=>by rw [eI];exact hI i (by omega),c',e,fz,q1,hfz0.imp_right fun hk=>Nat.le_trans hk hbase⟩,⟨e,cells.size,by rw [eS];exact hs1,hfit,hs3⟩,hlen,fun i r j a h1 h2=>?_⟩
  ·obtain ⟨v,h3,h4,h5⟩:=hcell i r j a h1 h2
   exact ⟨v,h3,h4,h5.mono hl⟩
 ·rcases hσ with ⟨rfl,rfl,rfl⟩ | ⟨rfl,rfl⟩
  ·exact ⟨fR,fL⟩
  ·refine ⟨fun e' he=>?_,fun e' n he=>fL e' n (by omega)⟩
   change (if o=o∧e'=ep+1 then some _ else σ.R o e')=none
   rw [if_neg (by omega)];exact fR e' (by omega)
 ·obtain ⟨y,hy⟩:=hb'
  rw [hR'] at hy
  cases hy;rfl
theorem run_storeIn {b x:Nat} {vs:List Value} {cells:Array Value} {e:TypeId} {fz:Nat×Nat} (hb:w.heap[b]?=some (.cells cells e fz)) (hle:x+vs.length≤cells.size)
  (hf:∀i,x≤i→i<cells.size→w.frozen? ⟨b,i,none⟩=false) (h1:∀u ∈ vs,u.oneCell'=true):(storeCells ⟨b,x,none⟩ vs).run P w = .ok () (w.setCells b x vs):=by
 have:=run_storeCells_cells (P:=P) b x vs 0 w (fun j hj=>by
  simp only [World.cell?,Nat.add_zero,hb]
  have:x+j<cells.size:=by omega
  simp [this]) (fun j hj=>hf _ (by omega) (by omega)) h1
 simpa using this
theorem cells_written (h:WF P W bs σ st w) {o kd ep:Nat} {rs:List (List AV)} (ho:st.get o=some (.rows kd ep rs)) {b base:Nat} (hR:σ.R o ep=some (b,base,kd)) {p:Nat} {new:List (List AV)} {vs:Array Value}
  (hr:RowsIn P σ vs kd new) (hs:vs.size=new.length*szk kd) {cells:Array Value} {e:TypeId} {fz:Nat×Nat} (hb:w.heap[b]?=some (.cells cells e fz)) (hle:base+p*szk kd+vs.size≤cells.size)
  {off:Nat} {rs':List (List AV)} (hrs:∀(i:Nat) r,rs'[i]?=some r→(p≤off+i∧off+i<p+new.length∧new[off+i - p]?=some r)∨((off+i<p∨p+new.length≤off+i)∧rs[off+i]?=some r)) :
  ∀(i:Nat) r (j:Nat) a,rs'[i]?=some r→r[j]?=some a→∃v,(w.setCells b (base+p*szk kd) vs.toList).cell? ⟨b,base+off*szk kd+i*szk kd+j,none⟩=some v∧v.oneCell'=true∧Rep P σ v a:=by
 intro i r j a h1 h2
 obtain ⟨b',base',g1,_,_,_,hrl,hcell⟩:=h.obj _ _ ho
 rw [hR] at g1
 simp only [Option.some.injEq,Prod.mk.injEq,and_true] at g1
 obtain ⟨rfl,rfl⟩:=g1
 obtain ⟨⟨c',q1,q2,q3⟩,q4,q5⟩:=setCells_heap b vs.toList (base+p*szk kd) w cells hb (by simpa using hle)
 simp only [World.cell?,q1,Option.isSome_none,Bool.false_eq_true,if_false]
 have e1:base+off*szk kd+i*szk kd+j=base+(off+i)*szk kd+j:=by rw [Nat.add_mul];omega
 rw [e1,q3]
 rcases hrs i r h1 with ⟨k1,k2,k3⟩ | ⟨k1,k2⟩
 ·obtain ⟨v,hv,h3⟩:=hr.cell _ r j a k3 h2
  have hlt:=in_row hr.len k3 h2
  have e2:(off+i)*szk kd=p*szk kd+(off+i - p)*szk kd:=by rw [←Nat.add_mul];congr 1;omega
  refine ⟨v,?_,h3⟩
  rw [if_pos ⟨by omega,by simp;omega⟩]
  have e3:base+(off+i)*szk kd+j - (base+p*szk kd)=(off+i - p)*szk kd+j:=by omega
  rw [e3]
  simpa using hv
 ·obtain ⟨v,hv,h3⟩:=hcell _ r j a k2 h2
  have hjr:j<szk kd:=by rw [←hrl r (List.mem_of_getElem? k2)];exact (List.getElem?_eq_some_iff.1 h2).1
  refine ⟨v,?_,h3⟩
  simp only [World.cell?,hb,Option.isSome_none,Bool.false_eq_true,if_false] at hv
  rw [if_neg ?_]
  ·exact hv
  ·simp only [Array.length_toList,hs]
   rcases k1 with k1 | k1
   ·have:(off+i)*szk kd+szk kd≤p*szk kd:=by rw [←Nat.succ_mul];exact Nat.mul_le_mul_right _ k1
    omega
   ·have:(p+new.length)*szk kd≤(off+i)*szk kd:=Nat.mul_le_mul_right _ k1
    rw [Nat.add_mul] at this
    omega
theorem List.splice_get {α:Type} {rs new:List α} {p i:Nat} {r:α} (hp:p≤rs.length) (h:(rs.take p++new++rs.drop (p+new.length))[i]?=some r) :
  (p≤i∧i<p+new.length∧new[i - p]?=some r)∨((i<p∨p+new.length≤i)∧rs[i]?=some r):=by
 have ht:(rs.take p).length=p:=by simp;omega
 rcases Nat.lt_or_ge i p with h1 | h1
 ·right
  rw [List.append_assoc,List.getElem?_append_left (by omega),List.getElem?_take,if_pos h1] at h
  exact ⟨.inl h1,h⟩
 ·rw [List.append_assoc,List.getElem?_append_right (by omega),ht] at h
  rcases Nat.lt_or_ge (i - p) new.length with h2 | h2
  ·left
   rw [List.getElem?_append_left h2] at h
   exact ⟨h1,by omega,h⟩
  ·right
   rw [List.getElem?_append_right h2,List.getElem?_drop] at h
   refine ⟨.inr (by omega),?_⟩
   rw [←h];congr 1;omega
theorem sim_null {e:TypeId} {kd:Nat} (h:nullOk P e kd=true):∃v:Value,(∀w,(zeroValue e).run P w = .ok v w)∧v.cells.size=szk kd:=by
 unfold nullOk at h
 split at h
 ·rename_i z hz
  simp only [Bool.and_eq_true,beq_iff_eq,Bool.not_eq_true'] at h
  unfold zeroA at hz
  obtain ⟨i,hi,h2⟩:=Option.bind_eq_some_iff.1 hz
  obtain ⟨v,hv,h3⟩:=Option.bind_eq_some_iff.1 h2
  have hr:=ofVal_rep (P:=P) (σ:=⟨fun _ _=>none,fun _=>none,fun _ _=>none,fun _=>none,fun _ _ _=>none,0,fun _=>none⟩) 4 v z h3
  exact ⟨v,fun w=>by simp [zeroValue,typeInfo,hi,hv],by rw [(hr.cells h.2).size,h.1]⟩
 ·simp at h
theorem info_size {e:TypeId} {i:TypeInfo} {kd:Nat} (hi:P.info? e=some i) (hk:kdOf P e=some kd):i.size=szk kd∧(kd=0→ByteT P e):=by
 obtain ⟨h1,h2⟩:=kdOf_sz hk
 refine ⟨?_,h2⟩
 simp only [szOf,hi,Option.map_some,Option.some.injEq] at h1
 exact h1
section append
variable {ts:Array TypeId} {ty t u e:TypeId} {d:TypeDesc} {i:TypeInfo} {kd:Nat} {x:Value} {xa:AV} {new:List (List AV)}
theorem sim_grow {base:Option Addr} {sLen sCap:Nat} {old:Array Value} {ro:List (List AV)} (h:WF P W bs σ st w) (h0:ts[0]?=some t) (h1:ts[1]?=some u) (hu:P.underlying u=some d) (hd:∀k,d≠.int k) (ht:P.underlying t=some (.slice e))
  (hi:P.info? e=some i) (hk:kdOf P e=some kd) (hz:nullOk P e kd=true) (hx:Rep P σ x xa) (hr:Go.Abs.rowsOf st kd xa=some new) (hl:sLen=ro.length) (hg:sCap<sLen+new.length)
  (h2:(sLen+new.length)*i.bytes≤roomA) (h3:sLen+new.length≤roomA)
  (hold:(Builtin.firstCells (szk kd) sLen (.slice base sLen sCap)).run P w.drew = .ok old w.drew) (hro:RowsIn P σ old kd ro) (hos:old.size=ro.length*szk kd) :
  ∃c vs,(Builtin.append_ ts ty #[.slice base sLen sCap,x]).run P w = .ok (.slice (some ⟨w.drew.heap.size,0,none⟩) (ro++new).length c) (w.drew.alloc (.cells vs e)) ∧
   RowsIn P σ vs kd (ro++new)∧(ro++new).length≤c∧c*szk kd≤vs.size:=by
 subst hl
 obtain ⟨zv,hz1,hz2⟩:=sim_null hz
 obtain ⟨hsz,_⟩:=info_size hi hk
 obtain ⟨hlen,_⟩:=sim_rows h hx hr
 obtain ⟨vs,v1,v2,v3⟩:=(sim_rows h.drew hx hr).2 new.length (Nat.le_refl _)
 rw [List.take_of_length_le (Nat.le_refl _)] at v3
 refine ⟨_,_,by
  rw [List.length_append]
  exact run_append_new (base:=base) h0 h1 hu hd ht hi hz1 hlen hg h2 h3 (by rw [hsz];exact hold) (by rw [hsz];exact v1),hro.append hos v3,?_,?_⟩
 ·rw [List.length_append]
  exact grownCap_ge w _ _ _
 ·have hge:=grownCap_ge w (ro.length+new.length) sCap e
  simp only [Array.size_append,hos,v2,zeroCells_size,hz2]
  rw [←Nat.add_mul,←Nat.add_mul]
  exact Nat.mul_le_mul_right _ (by omega)
theorem sim_fit {b o len c:Nat} (h:WF P W bs σ st w) (h0:ts[0]?=some t) (h1:ts[1]?=some u) (hu:P.underlying u=some d) (hd:∀k,d≠.int k) (ht:P.underlying t=some (.slice e))
  (hi:P.info? e=some i) (hk:kdOf P e=some kd) (hx:Rep P σ x xa) (hr:Go.Abs.rowsOf st kd xa=some new) (hg:len+new.length≤c) :
  ∃vs:Array Value,RowsIn P σ vs kd new∧vs.size=new.length*szk kd∧∀w',(storeCells ⟨b,o+len*szk kd,none⟩ vs.toList).run P w = .ok () w' →
   (Builtin.append_ ts ty #[.slice (some ⟨b,o,none⟩) len c,x]).run P w = .ok (.slice (some ⟨b,o,none⟩) (len+new.length) c) w':=by
 obtain ⟨hsz,_⟩:=info_size hi hk
 obtain ⟨hlen,hrows⟩:=sim_rows h hx hr
 obtain ⟨vs,v1,v2,v3⟩:=hrows new.length (Nat.le_refl _)
 rw [List.take_of_length_le (Nat.le_refl _)] at v3
 refine ⟨vs,v3,v2,fun w' hw=>?_⟩
 exact run_append_fit h0 h1 hu hd ht hi hlen hg (by rw [hsz];exact v1) (by simp only [addr_add,hsz];exact hw)
theorem sim_append {home:Option (Nat×Bool)} {sv:Value} {s:AV} {r:AV×St} (h:WF P W bs σ st w) (h0:ts[0]?=some t) (h1:ts[1]?=some u) (hu:P.underlying u=some d) (hd:∀k,d≠.int k)
  (hs:Rep P σ sv s) (hx:Rep P σ x xa) (ha:appendA P st home t s xa=some r) :
  ∃v w' σ',(Builtin.append_ ts ty #[sv,x]).run P w = .ok v w'∧σ.Le σ'∧WF P W bs σ' r.2 w'∧Rep P σ' v r.1:=by
 unfold appendA at ha
 split at ha
 ·rename_i e ht
  obtain ⟨i,hi,ha2⟩:=Option.bind_eq_some_iff.1 ha
  obtain ⟨kd,hk,ha3⟩:=Option.bind_eq_some_iff.1 ha2
  obtain ⟨new,hnew,ha4⟩:=Option.bind_eq_some_iff.1 ha3
  clear ha ha2 ha3
  obtain ⟨hsz,hu8⟩:=info_size hi hk
  split at ha4
  ·rename_i hz
   split at ha4
   ·cases hs
    split at ha4
    ·rename_i hn0
     cases ha4
     obtain ⟨hlen,hrows⟩:=sim_rows h hx hnew
     obtain ⟨vs,v1,v2,v3⟩:=hrows 0 (Nat.zero_le _)
     have:=run_append_fit (P:=P) (w:=w) (w':=w) (ty:=ty) (base:=none) (sLen:=0) (sCap:=0) (n:=0) h0 h1 hu hd ht hi (by rw [←hn0];exact hlen) (Nat.le_refl _) (by rw [hsz];exact v1) rfl
     exact ⟨_,w,σ,this,.refl _,h,.nils⟩
    ·rename_i hn0
     split at ha4
     ·rename_i hc
      obtain ⟨c,vs,a1,a2,a3,a4⟩:=sim_grow (ty:=ty) (base:=none) (sLen:=0) (sCap:=0) (old:=#[]) (ro:=[]) h h0 h1 hu hd ht hi hk hz hx hnew rfl (by omega) (by simpa using hc.1) (by simpa using hc.2) rfl ⟨by simp,by simp,by simp⟩ (by simp)
      obtain ⟨σ',b1,b2,b3⟩:=sim_place (home:=home) (tok:=.no) h.drew ha4 a2 hu8 a3 a4 (.inl rfl)
      exact ⟨_,_,σ',a1,b1,b2,b3⟩
     ·simp at ha4
   ·rename_i sz rows off len tok
    split at ha4
    ·rename_i hc
     obtain ⟨rfl,hlr,hroom1,hroom2⟩:=hc
     have hs':=hs
     have hself:Go.Abs.rowsOf st sz (.sl sz rows off len tok)=some ((rows.drop off).take len):=by simp [Go.Abs.rowsOf]
     have hdrop:(rows.drop off).take len=rows.drop off:=List.take_of_length_le (by simp;omega)
     rw [hdrop] at hself
     have hdl:(rows.drop off).length=len:=by simp;omega
     obtain ⟨_,hold⟩:=sim_rows h.drew hs hself
     obtain ⟨old,o1,o2,o3⟩:=hold len (by omega)
     rw [List.take_of_length_le (by omega)] at o3
     cases hs with
     |slz a kd=>simp at ha4
     |sl b o o0 _ c _ _ _ _ hlen hrow hcap ho hsh htok hI hR =>
     have same:new.length=0→∃w' σ',(Builtin.append_ ts ty #[.slice (some ⟨b,o,none⟩) len c,x]).run P w = .ok (.slice (some ⟨b,o,none⟩) len c) w'∧σ.Le σ'∧WF P W bs σ' st w'∧Rep P σ' (.slice (some ⟨b,o,none⟩) len c) (.sl sz rows off len tok):=fun hn0=>by
      obtain ⟨vs,v1,v2,v3⟩:=sim_fit (ty:=ty) (b:=b) (o:=o) (len:=len) (c:=c) h h0 h1 hu hd ht hi hk hx hnew (by omega)
      have hvs:vs=#[]:=Array.eq_empty_of_size_eq_zero (by rw [v2,hn0];simp)
      subst hvs
      have:=v3 w rfl
      rw [hn0] at this
      exact ⟨w,σ,this,.refl _,h,hs'⟩
     have grown:c<len+new.length→∃c' vs,(Builtin.append_ ts ty #[.slice (some ⟨b,o,none⟩) len c,x]).run P w = .ok (.slice (some ⟨w.drew.heap.size,0,none⟩) (rows.drop off++new).length c') (w.drew.alloc (.cells vs e)) ∧
       RowsIn P σ vs sz (rows.drop off++new)∧(rows.drop off++new).length≤c'∧c'*szk sz≤vs.size:=fun hg =>
      sim_grow (ty:=ty) (base:=some ⟨b,o,none⟩) (sLen:=len) (sCap:=c) (old:=old) (ro:=rows.drop off) h h0 h1 hu hd ht hi hk hz hx hnew hdl.symm hg hroom1 hroom2 o1 o3 (by rw [o2,hdl])
     split at ha4
     ·
      split at ha4
      ·rename_i hn0
       cases ha4
       obtain ⟨w',σ',q⟩:=same hn0
       exact ⟨_,w',σ',q⟩
      ·rename_i hn0
       have hcl:rows.length=off+c:=htok
       obtain ⟨c',vs,a1,a2,a3,a4⟩:=grown (by omega)
       obtain ⟨σ',b1,b2,b3⟩:=sim_place (home:=home) (tok:=.no) (r:=r) h.drew (by cases home<;>simpa [hdl] using ha4) a2 hu8 a3 a4 (.inl rfl)
       exact ⟨_,_,σ',a1,b1,b2,b3⟩
     ·rename_i t' ep
      split at ha4
      ·rename_i hoff;subst hoff
       split at ha4
       ·rename_i ep' n hget
        split at ha4
        ·rename_i hcc
         obtain ⟨rfl,rfl⟩:=hcc
         split at ha4
         ·rename_i hn0
          cases ha4
          obtain ⟨w',σ',q⟩:=same hn0
          exact ⟨_,w',σ',q⟩
         ·rename_i hn0
          cases ha4
          have hlr':len=rows.length:=by omega
          rcases Nat.lt_or_ge c (len+new.length) with hg | hg
          ·obtain ⟨c',vs,a1,a2,a3,a4⟩:=grown hg
           rw [List.drop_zero] at a1 a2 a3
           obtain ⟨σ',b1,b2,b3⟩:=sim_newSpare (t:=t') (ep:=ep) (n:=rows.length) (e:=e) h.drew hget (by simp;omega) a2 hu8 a3 a4
           rw [List.length_append,←hlr'] at b2 b3
           rw [List.length_append,←hlr'] at a1
           exact ⟨_,_,σ',a1,b1,by rw [←hlr'];exact b2,b3⟩
          ·obtain ⟨vs,v1,v2,v3⟩:=sim_fit (ty:=ty) (b:=b) (o:=o) (len:=len) (c:=c) h h0 h1 hu hd ht hi hk hx hnew hg
           obtain ⟨f1,σ',f2,f3,f4⟩:=sim_fitSpare h hget hs' hlr' (by omega) hg v1 v2
           exact ⟨_,_,σ',v3 _ f1,f2,f3,f4⟩
        ·simp at ha4
       ·simp at ha4
      ·simp at ha4
     ·simp at ha4
    ·simp at ha4
   ·rename_i o ep off len cap
    split at ha4
    ·rename_i sz ep' rs ho
     split at ha4
     ·rename_i hc
      obtain ⟨rfl,rfl,hroom1,hroom2,hin,hlc⟩:=hc
      have hself:Go.Abs.rowsOf st sz (.ms o ep off len cap)=some ((rs.drop off).take len):=by simp [Go.Abs.rowsOf,ho];omega
      have hdl:((rs.drop off).take len).length=len:=by simp;omega
      obtain ⟨_,hold⟩:=sim_rows h.drew hs hself
      obtain ⟨old,o1,o2,o3⟩:=hold len (by omega)
      rw [List.take_of_length_le (by omega)] at o3
      obtain ⟨b,base,cells,ce,fz,g1,hbs,g3,hI,hfz0,hfit,hsh0,hs3⟩:=h.rowsOf ho
      have hfz:∀j,base≤j→j<cells.size→w.frozen? ⟨b,j,none⟩=false:=fun j hj _=>frozen_free g3 hfz0 hj
      obtain ⟨_,_,r1,_,_,_,hrl,_⟩:=h.obj _ _ ho
      cases hs with
      |ms b' base' kd' oo _ _ _ _ c _ hR hcap hlen hoo hsh =>
      rw [hR] at g1
      simp only [Option.some.injEq,Prod.mk.injEq] at g1
      obtain ⟨rfl,rfl,rfl⟩:=g1
      have inplace:∀(hg:len+new.length≤c) (hcp:0<c),∃vs:Array Value,RowsIn P σ vs kd' new∧vs.size=new.length*szk kd'∧base'+(off+len)*szk kd'+vs.size≤cells.size∧oo=base'+off*szk kd' ∧
        (Builtin.append_ ts ty #[.slice (some ⟨b',oo,none⟩) len c,x]).run P w = .ok (.slice (some ⟨b',oo,none⟩) (len+new.length) c) (w.setCells b' (base'+(off+len)*szk kd') vs.toList):=fun hg hcp=>by
       obtain ⟨vs,v1,v2,v3⟩:=sim_fit (ty:=ty) (b:=b') (o:=oo) (len:=len) (c:=c) h h0 h1 hu hd ht hi hk hx hnew hg
       have hoo':=hoo hcp
       obtain ⟨se,sn,s1,s2,_⟩:=hsh
       rw [hsh0] at s1
       cases s1
       rw [if_neg (by omega)] at s2
       have hmul:(len+new.length)*szk kd'≤c*szk kd':=Nat.mul_le_mul_right _ hg
       rw [Nat.add_mul] at hmul
       have e1:oo+len*szk kd'=base'+(off+len)*szk kd':=by rw [hoo',Nat.add_mul];omega
       have hle:base'+(off+len)*szk kd'+vs.size≤cells.size:=by omega
       refine ⟨vs,v1,v2,hle,hoo',v3 _ ?_⟩
       rw [e1]
       exact run_storeIn g3 (by simpa using hle) (fun k hk1 hk2=>hfz k (by have:=Nat.zero_le ((off+len)*szk kd');omega) hk2) (v1.ones v2)
      split at ha4
      ·rename_i hin2
       cases ha4
       rcases Nat.eq_zero_or_pos c with hc0 | hcp
       ·
        have hn0:new.length=0:=by omega
        obtain ⟨vs,v1,v2,v3⟩:=sim_fit (ty:=ty) (b:=b') (o:=oo) (len:=len) (c:=c) h h0 h1 hu hd ht hi hk hx hnew (by omega)
        have hvs:vs=#[]:=Array.eq_empty_of_size_eq_zero (by rw [v2,hn0];simp)
        have hnil:new=[]:=List.length_eq_zero_iff.1 hn0
        subst hvs hnil
        have:=v3 w rfl
        obtain ⟨b1,b2,b3⟩:=h.writeRows (x:=base') (vs:=[]) (rs':=rs.take (off+len)++[]++rs.drop (off+len+0)) (ep':=ep) (base':=base') (σ':=σ) ho hR (Nat.le_refl _) g3 (by simp;omega) (Nat.le_refl _) (.inl ⟨rfl,rfl,rfl⟩)
         (fun r hr=>by simp at hr;exact hrl r hr) (by simpa using hfit) (fun i r j a q1 q2=>by
          obtain ⟨b9,base9,p1,_,_,_,_,p6⟩:=h.obj _ _ ho
          rw [hR] at p1
          simp only [Option.some.injEq,Prod.mk.injEq,and_true] at p1
          obtain ⟨rfl,rfl⟩:=p1
          exact p6 i r j a (by simpa using q1) q2)
        refine ⟨_,_,σ,this,.refl _,b2,?_⟩
        exact .ms b' base' kd' oo o ep off _ c cap hR hcap (by simpa using hlc) hoo hsh
       ·obtain ⟨vs,v1,v2,v4,hoo',v3⟩:=inplace (by omega) hcp
        have hsp:rs.take (off+len)++new++rs.drop (off+len+new.length)=rs.take (off+len)++new++rs.drop (off+len+new.length):=rfl
        have hlr:(rs.take (off+len)++new++rs.drop (off+len+new.length)).length=rs.length:=by simp;omega
        obtain ⟨b1,b2,b3⟩:=h.writeRows (x:=base'+(off+len)*szk kd') (vs:=vs.toList) (rs':=rs.take (off+len)++new++rs.drop (off+len+new.length)) (ep':=ep) (base':=base') (σ':=σ) ho hR (Nat.le_add_right _ _) g3 (by simpa using v4) (Nat.le_refl _) (.inl ⟨rfl,rfl,rfl⟩)
         (fun r hr=>by
          rcases List.mem_append.1 hr with hr | hr
          ·rcases List.mem_append.1 hr with hr | hr
           ·exact hrl r (List.mem_of_mem_take hr)
           ·exact v1.len r hr
          ·exact hrl r (List.mem_of_mem_drop hr)) (by rw [hlr];exact hfit)
         (by
          have:=cells_written h ho hR (p:=off+len) (off:=0) (rs':=rs.take (off+len)++new++rs.drop (off+len+new.length)) v1 v2 g3 v4 (fun i r hi=>by
           rw [Nat.zero_add];exact List.splice_get (by omega) hi)
          simpa using this)
        exact ⟨_,_,σ,v3,.refl _,b2,.ms b' base' kd' oo o ep off _ c cap hR hcap hin2 hoo hsh⟩
      ·rename_i hout
       cases ha4
       rcases Nat.lt_or_ge c (len+new.length) with hg | hg
       ·obtain ⟨c',vs,a1,a2,a3,a4⟩:=sim_grow (ty:=ty) (base:=some ⟨b',oo,none⟩) (sLen:=len) (sCap:=c) (old:=old) (ro:=(rs.drop off).take len) h h0 h1 hu hd ht hi hk hz hx hnew hdl.symm hg hroom1 hroom2 o1 o3 (by rw [o2,hdl])
        have hh:homeA st o true kd' ((rs.drop off).take len++new)=some (.ms o (ep+1) 0 (len+new.length) (len+new.length),st.put o (.rows kd' (ep+1) ((rs.drop off).take len++new))):=by
         simp only [homeA,ho,Option.bind_some,if_true,List.length_append,hdl]
        obtain ⟨σ',b1,b2,b3⟩:=sim_home (e:=e) h.drew hh a2 hu8 a3 a4
        exact ⟨_,_,σ',a1,b1,b2,b3⟩
       ·obtain ⟨vs,v1,v2,v4,hoo',v3⟩:=inplace hg (by omega)
        have hcw:=cells_written h ho hR (p:=off+len) (off:=off) (rs':=(rs.drop off).take len++new) v1 v2 g3 v4 (fun i r hi=>by
         rcases Nat.lt_or_ge i len with hil | hig
         ·right
          rw [List.getElem?_append_left (by omega),List.getElem?_take,if_pos hil,List.getElem?_drop] at hi
          exact ⟨.inl (by omega),hi⟩
         ·left
          rw [List.getElem?_append_right (by omega),hdl] at hi
          have hlt:=(List.getElem?_eq_some_iff.1 hi).1
          refine ⟨by omega,by omega,?_⟩
          rw [←hi];congr 1;omega)
        have hsum:(off+len)*szk kd'=off*szk kd'+len*szk kd':=Nat.add_mul _ _ _
        obtain ⟨b1,b2,b3⟩:=h.writeRows (x:=base'+(off+len)*szk kd') (vs:=vs.toList) (rs':=(rs.drop off).take len++new) (ep':=ep+1) (base':=base'+off*szk kd') ho hR (Nat.le_add_right _ _) g3 (by simpa using v4) (Nat.le_add_right _ _) (.inr ⟨rfl,rfl⟩)
         (fun r hr=>by
          rcases List.mem_append.1 hr with hr | hr
          ·exact hrl r (List.mem_of_mem_drop (List.mem_of_mem_take hr))
          ·exact v1.len r hr) (by rw [List.length_append,hdl,Nat.add_mul];omega) hcw
        refine ⟨_,_,_,v3,b1,b2,?_⟩
        exact .ms b' (base'+off*szk kd') kd' oo o (ep+1) 0 _ c _ b3 hg (Nat.le_refl _) (fun _=>by simp [hoo']) (hsh.mono b1)
     ·simp at ha4
    ·simp at ha4
   ·simp at ha4
  ·simp at ha4
 ·simp at ha
end append
end
end Go.Abs
namespace Go.Abs
open Go Go.RowKit
section
variable {P:Program} {W:World} {bs:Nat} {σ:Gh} {st:St} {w:World}
theorem take_min {α:Type} (l:List α) (n:Nat):l.take (min l.length n)=l.take n:=by
 rcases Nat.le_total l.length n with h | h
 ·rw [Nat.min_eq_left h,List.take_length,List.take_of_length_le h]
 ·rw [Nat.min_eq_right h]
theorem sim_copy {ts:Array TypeId} {ty t:TypeId} {dv sv:Value} {d s:AV} {r:AV×St} (h:WF P W bs σ st w) (h0:ts[0]?=some t) (hd:Rep P σ dv d) (hs:Rep P σ sv s) (hc:copyA P st t d s=some r) :
  ∃v w',(Builtin.copy_ ts ty #[dv,sv]).run P w = .ok v w'∧WF P W bs σ r.2 w'∧Rep P σ v r.1:=by
 unfold copyA at hc
 split at hc
 ·rename_i e ht
  obtain ⟨kd,hk,h2⟩:=Option.bind_eq_some_iff.1 hc
  obtain ⟨new,hnew,h3⟩:=Option.bind_eq_some_iff.1 h2
  clear hc h2
  obtain ⟨hsz,hu8⟩:=kdOf_sz hk
  obtain ⟨hlen,hrows⟩:=sim_rows h hs hnew
  split at h3
  ·cases h3
   cases hd
   obtain ⟨vs,v1,v2,v3⟩:=hrows 0 (Nat.zero_le _)
   refine ⟨.int .i64 0,w,?_,h,.int _ _⟩
   simp [Builtin.copy_,h0,run_underlying ht,hlen,run_sizeOf' hsz,v1,goInt]
  ·rename_i o ep off len cap
   split at h3
   ·rename_i kd' ep' rs ho
    split at h3
    ·rename_i hcond
     obtain ⟨rfl,rfl,hle⟩:=hcond
     cases h3
     obtain ⟨vs,v1,v2,v3⟩:=hrows (min new.length len) (Nat.min_le_left _ _)
     rw [take_min] at v3
     obtain ⟨b,base,cells,ce,fz,g1,hbs,g3,hI,hfz0,hfit,hsh0,hs3⟩:=h.rowsOf ho
     obtain ⟨_,_,_,_,_,_,hrl,_⟩:=h.obj _ _ ho
     cases hd with
     |ms b' base' kd0 oo _ _ _ _ c _ hR hcap hlen' hoo hsh =>
     rw [hR] at g1
     simp only [Option.some.injEq,Prod.mk.injEq] at g1
     obtain ⟨rfl,rfl,rfl⟩:=g1
     have hnl:(new.take len).length=min new.length len:=by rw [List.length_take];exact Nat.min_comm _ _
     have hmul:(off+min new.length len)*szk kd0≤rs.length*szk kd0:=Nat.mul_le_mul_right _ (by omega)
     rw [Nat.add_mul] at hmul
     have hle2:base'+off*szk kd0+vs.size≤cells.size:=by rw [v2];omega
     rcases Nat.eq_zero_or_pos c with hc0 | hcp
     ·
      have hl0:len=0:=by omega
      subst hl0
      have hvs:vs=#[]:=Array.eq_empty_of_size_eq_zero (by rw [v2];simp)
      subst hvs
      have hrs:rs.take off++new.take 0++rs.drop (off+min new.length 0)=rs:=by simp
      have hsame:St.put st o (.rows kd0 ep rs)=st:=by
       unfold St.put
       rw [if_pos (St.get_lt ho)]
       have hg:=ho
       unfold St.get at hg
       rw [if_pos (St.get_lt ho)] at hg
       obtain ⟨hlt,hge⟩:=List.getElem?_eq_some_iff.1 hg
       rw [←hge,List.set_getElem_self]
      refine ⟨.int .i64 0,w,?_,?_,?_⟩
      ·simp [Builtin.copy_,h0,run_underlying ht,hlen,run_sizeOf' hsz,goInt]
       simp at v1
       rw [v1]
       simp [storeCells]
      ·show WF P W bs σ (st.put o (.rows kd0 ep (rs.take off++new.take 0++rs.drop (off+min new.length 0)))) w
       rw [hrs,hsame];exact h
      ·show Rep P σ _ (.int .i64 ((min new.length 0:Nat):Int))
       simp
       exact .int _ _
     ·have hoo':=hoo hcp
      have hlr:(rs.take off++new.take len++rs.drop (off+min new.length len)).length=rs.length:=by simp;omega
      obtain ⟨b1,b2,b3⟩:=h.writeRows (x:=base'+off*szk kd0) (vs:=vs.toList) (rs':=rs.take off++new.take len++rs.drop (off+min new.length len)) (ep':=ep) (base':=base') (σ':=σ) ho hR (Nat.le_add_right _ _) g3 (by simpa using hle2) (Nat.le_refl _) (.inl ⟨rfl,rfl,rfl⟩)
       (fun r hr=>by
        rcases List.mem_append.1 hr with hr | hr
        ·rcases List.mem_append.1 hr with hr | hr
         ·exact hrl r (List.mem_of_mem_take hr)
         ·exact v3.len r hr
        ·exact hrl r (List.mem_of_mem_drop hr)) (by rw [hlr];exact hfit)
       (by
        have:=cells_written h ho hR (p:=off) (off:=0) (rs':=rs.take off++new.take len++rs.drop (off+min new.length len)) v3 (by rw [v2,hnl]) g3 hle2 (fun i r hi=>by
         rw [Nat.zero_add]
         rw [←hnl] at hi
         exact List.splice_get (by omega) hi)
        simpa using this)
      refine ⟨.int .i64 (min new.length len:Nat),_,?_,b2,.int _ _⟩
      have hst:=run_storeIn (P:=P) g3 (x:=base'+off*szk kd0) (vs:=vs.toList) (by simpa using hle2) (fun k hk1 hk2=>frozen_free g3 hfz0 (by omega)) (v3.ones (by rw [v2,hnl]))
      have hmin:Nat.min new.length len=min new.length len:=rfl
      simp [Builtin.copy_,h0,run_underlying ht,hlen,run_sizeOf' hsz,goInt,hmin,v1,hoo',hst]
    ·simp at h3
   ·simp at h3
  ·simp at h3
 ·simp at hc
theorem sim_range {t:TypeId} {x:Value} {xa:AV} {r:AV×St} (h:WF P W bs σ st w) (hx:Rep P σ x xa) (hr:rangeA P st t xa=some r) :
  ∃v w' σ',(Instr.range t x).run P w = .ok v w'∧σ.Le σ'∧WF P W bs σ' r.2 w'∧Rep P σ' v r.1:=by
 unfold rangeA at hr
 split at hr
 ·rename_i s ht
  cases hr
  cases hx with
  |str s =>
  have hl:=σ.le_setB (b:=w.heap.size) (h.idB st.length (Nat.le_refl _))
  have hB:(σ.setB st.length w.heap.size).B st.length=some w.heap.size:=by
   show (if _ then _ else _)=_
   rw [if_pos rfl]
  have hrun:(Instr.range t (.string s)).run P w = .ok (.pointer (some ⟨w.heap.size,0,none⟩)) (w.alloc (.stringIter s 0)):=by simp [Instr.range,run_underlying ht]
  refine ⟨_,_,_,hrun,hl,?_,.it _ _ hB⟩
  refine h.step (o:=st.length) (x:=.iter s.data.toList 0) (T:=w.heap.size) hl (h.below.alloc (Nat.le_trans h.bsle h.size) _) (fun p hp=>by rw [St.get_cons,if_neg hp]) (by rw [St.get_cons,if_pos rfl]) (by simp)
   (fun b _ hb=>heap_alloc_lt w _ hb) (fun p y _ hp=>unowned h (Nat.le_refl _) p y hp) (fun _ _ _ hv=>.inl hv)
   (fun i v hv=>absurd (h.imm _ _ _ hv).1 (fun hh=>by have:=lt_of_cell hh;omega)) (fun _ _ hy=>.inl hy) (fun y hy=>absurd (h.shp _ _ hy) (fun hh=>by have:=lt_of_shape hh;omega))
   (fun _ _ _ hy=>.inl hy) (fun o' y hy=>?_) (fun _ _ _ _ hy=>.inl hy) ?_ trivial (fun b hb=>?_) (noK h (Nat.le_refl _))
  ·change (if o'=st.length then some w.heap.size else σ.B o')=some y at hy
   split at hy
   ·right;assumption
   ·left;exact hy
  ·exact ⟨w.heap.size,s,hB,Nat.le_trans h.bsle h.size,heap_alloc_new w _,rfl⟩
  ·rw [show (σ.setB st.length w.heap.size).B st.length=some b from hb] at hB
   exact Option.some.inj hB
 ·simp at hr
theorem heap_set_at (w:World) (b:Nat) (o:Obj) (h:b<w.heap.size):({w with heap:=w.heap.setIfInBounds b o}:World).heap[b]?=some o:=by
 simp [h]
theorem heap_set_ne (w:World) (b b':Nat) (o:Obj) (h:b'≠b):({w with heap:=w.heap.setIfInBounds b o}:World).heap[b']?=w.heap[b']?:=by
 simp [Array.getElem?_setIfInBounds_ne (fun e=>h e.symm)]
theorem WF.setObj (h:WF P W bs σ st w) {o b:Nat} {x x':AObj} {ob:Obj} (hx:st.get o=some x) (hown:owns σ o x b) (hbs:bs≤b) (hb:b<w.heap.size) (hno:∀cs e fz,w.heap[b]?≠some (.cells cs e fz))
  (hok:ObjOk P bs σ {w with heap:=w.heap.setIfInBounds b ob} o x') (hfr:Fresh σ o x') (hown':∀b',owns σ o x' b'→b'=b) (hbel:Below bs W {w with heap:=w.heap.setIfInBounds b ob}) (hxB:x'.isB=true:=by rfl) :
  WF P W bs σ (st.put o x') {w with heap:=w.heap.setIfInBounds b ob}:=by
 refine h.step (o:=o) (x:=x') (T:=b) (.refl σ) hbel (fun p hp=>St.get_put_ne hp) (St.get_put_same (St.get_lt hx)) (by simp) (fun b' hb' _=>heap_set_ne w b b' ob hb')
  (fun p y hp hy ho=>hp (h.sep p o y x b hy hx ho hown)) (fun _ _ _ hv=>.inl hv) (fun i v hv=>?_) (fun _ _ hy=>.inl hy) (fun y hy=>?_) (fun _ _ _ hy=>.inl hy) (fun _ _ hy=>.inl hy) (fun _ _ _ _ hy=>.inl hy) hok hfr hown' (ownK h hx hown) (hBx:=fun _ _=>hxB)
 ·have:=(h.imm _ _ _ hv).1
  unfold World.cell? at this
  split at this
  ·rename_i cs e fz heq;exact absurd heq (hno _ _ _)
  ·simp at this
 ·have:=h.shp _ _ hy
  unfold World.shape? at this
  split at this
  ·rename_i cs e fz heq;exact absurd heq (hno _ _ _)
  ·simp at this
theorem sim_next {ty:TypeId} {x:Value} {xa:AV} {isStr:Bool} {r:AV×St} (h:WF P W bs σ st w) (hx:Rep P σ x xa) (hr:nextA st isStr xa=some r) :
  ∃v w',(Instr.next x isStr ty).run P w = .ok v w'∧WF P W bs σ r.2 w'∧Rep P σ v r.1:=by
 unfold nextA at hr
 split at hr
 ·rename_i o
  split at hr
  ·rename_i s pos ho
   cases hx with
   |it b _ hB =>
   obtain ⟨b',s',h1,hbs,h3,rfl⟩:=h.obj _ _ ho
   rw [hB] at h1;cases h1
   have hsz:s'.data.toList.length=s'.size:=rfl
   have hs':(⟨s'.data.toList.toArray⟩:ByteArray)=s':=rfl
   split at hr
   ·rename_i hlt
    rw [hs'] at hr
    cases hr
    have hlt':pos<s'.size:=hlt
    refine ⟨.tuple #[.bool true,.int .i64 pos,.int .i32 (Utf8.decode s' pos).1],{w with heap:=w.heap.setIfInBounds b (.stringIter s' (pos+(Utf8.decode s' pos).2))},?_,?_,?_⟩
    ·simp only [Instr.next,getObj,setObj,Sem.run_bind,Sem.run,h3,Result.andThen,hlt',if_true]
     simp [goInt,Sem.run]
    ·refine h.setObj ho hB hbs (lt_of_heap h3) (fun cs e fz hh=>by rw [h3] at hh;simp at hh) ⟨b,s',hB,hbs,heap_set_at w b _ (lt_of_heap h3),rfl⟩ trivial (fun b' hb'=>?_) ?_
     ·rw [show σ.B o=some b' from hb'] at hB;exact Option.some.inj hB
     ·exact ⟨h.below.os,h.below.tape,h.below.output,by simpa using h.below.size,fun k hk=>by rw [heap_set_ne w b k _ (by omega)];exact h.below.block k hk⟩
    ·refine .tup _ _ rfl (fun j v a h1 h2=>?_)
     match j,h1,h2 with
     | 0,h1,h2=>simp at h1 h2;subst h1 h2;exact .bool _
     | 1,h1,h2=>simp at h1 h2;subst h1 h2;exact .int _ _
     | 2,h1,h2=>simp at h1 h2;subst h1 h2;exact .int _ _
     |j+3,h1,h2=>simp at h1
   ·rename_i hlt
    cases hr
    have hlt':¬pos<s'.size:=hlt
    refine ⟨.tuple #[.bool false],w,by simp [Instr.next,getObj,Sem.run,h3,hlt'],h,.tup _ _ rfl (fun j v a h1 h2=>?_)⟩
    match j,h1,h2 with
    | 0,h1,h2=>simp at h1 h2;subst h1 h2;exact .bool _
    |j+1,h1,h2=>simp at h1
  ·simp at hr
 ·simp at hr
end
end Go.Abs
namespace Go.Abs
open Go Go.RowKit
section
variable {P:Program} {W:World} {bs:Nat} {σ:Gh} {st:St} {w:World}
theorem bytesOf_spec:∀{rows:List (List AV)} {vs:List Value} {bs:List UInt8},vs.length=rows.length →
  (∀(i:Nat) r a,rows[i]?=some r→r[0]?=some a→∃v,vs[i]?=some v∧Rep P σ v a)→bytesOfRows rows=some bs →
  ∃ns:List Int,vs=ns.map (Value.int .u8)∧bs=ns.map fun n=>UInt8.ofNat n.toNat
 |[],vs,bs,hl,_,h=>by
  simp [bytesOfRows] at h
  subst h
  have:vs=[]:=List.length_eq_zero_iff.1 (by simpa using hl)
  exact ⟨[],by simp [this],rfl⟩
 |r::rows,vs,bs,hl,hr,h=>by
  unfold bytesOfRows at h
  split at h
  ·rename_i heq;simp at heq
  ·rename_i n rest heq
   cases heq
   obtain ⟨bs',hb,rfl⟩:=Option.map_eq_some_iff.1 h
   obtain ⟨v,hv,hrep⟩:=hr 0 _ (.int .u8 n) rfl rfl
   cases vs with
   |nil=>simp at hv
   |cons u vs =>
    simp at hv;subst hv
    cases hrep
    obtain ⟨ns,rfl,rfl⟩:=bytesOf_spec (vs:=vs) (by simpa using hl) (fun i r a h1 h2=>by
     obtain ⟨v,hv,h3⟩:=hr (i+1) r a (by simpa using h1) h2
     exact ⟨v,by simpa using hv,h3⟩) hb
    exact ⟨n::ns,rfl,rfl⟩
  ·simp at h
theorem fold_push:∀(ns:List Int) (s:ByteArray),(ns.foldl (fun r n=>r.push (UInt8.ofNat n.toNat)) s).data.toList=s.data.toList++ns.map fun n=>UInt8.ofNat n.toNat
 |[],s=>by simp
 |n::ns,s=>by
  simp only [List.foldl_cons,List.map_cons]
  rw [fold_push ns]
  simp [ByteArray.push]
theorem RowsIn.bytes {vs:Array Value} {rows:List (List AV)} {l:List UInt8} (h:RowsIn P σ vs 0 rows) (hs:vs.size=rows.length*szk 0) (hb:bytesOfRows rows=some l) :
  ∃ns:List Int,vs=(ns.map (Value.int .u8)).toArray∧l=ns.map fun n=>UInt8.ofNat n.toNat:=by
 obtain ⟨ns,h1,h2⟩:=bytesOf_spec (P:=P) (σ:=σ) (vs:=vs.toList) (by simp [hs,szk]) (fun i r a h1 h2=>by
  obtain ⟨v,hv,_,h3⟩:=h.cell i r 0 a h1 h2
  exact ⟨v,by simpa [szk] using hv,h3⟩) hb
 exact ⟨ns,by rw [←h1],h2⟩
theorem sim_bytesToString {xv:Value} {x:AV} {rows:List (List AV)} {l:List UInt8} (h:WF P W bs σ st w) (hx:Rep P σ xv x) (hr:Go.Abs.rowsOf st 0 x=some rows) (hns:∀s,x≠.str s) (hb:bytesOfRows rows=some l) :
  ∃v,(Conv.bytesToString xv).run P w = .ok v w∧Rep P σ v (.str l):=by
 obtain ⟨hlen,hrows⟩:=sim_rows h hx hr
 obtain ⟨vs,v1,v2,v3⟩:=hrows rows.length (Nat.le_refl _)
 rw [List.take_of_length_le (Nat.le_refl _)] at v3
 obtain ⟨ns,rfl,rfl⟩:=v3.bytes v2 hb
 have fin:∀(s:ByteArray) (l:List UInt8),s.data.toList=l→Rep P σ (.string s) (.str l):=fun s l e=>by subst e;exact .str s
 have key:∀(b:Addr) (len c:Nat),xv = .slice (some b) len c→∃v,(Conv.bytesToString xv).run P w = .ok v w∧Rep P σ v (.str (ns.map fun n=>UInt8.ofNat n.toNat)):=fun b len c e=>by
  subst e
  have hl:len=rows.length:=by
   have:(Builtin.lenOf (.slice (some b) len c)).run P w = .ok len w:=rfl
   rw [this] at hlen
   simpa using hlen
  subst hl
  have v1':(loadCells b rows.length).run P w = .ok (ns.map (Value.int .u8)).toArray w:=by simpa [Builtin.firstCells,szk] using v1
  exact ⟨_,run_bytesToString w b rows.length c ns v1',fin _ _ (by rw [fold_push];simp)⟩
 cases hx with
 |nils =>
  have hl0:rows.length=0:=by
   have:(Builtin.lenOf (.slice none 0 0)).run P w = .ok 0 w:=rfl
   rw [this] at hlen
   simp at hlen
   exact hlen.symm▸rfl
  refine ⟨.string .empty,rfl,fin _ _ ?_⟩
  rw [hl0] at v2
  have:ns=[]:=by
   have:ns.length=0:=by simpa using v2
   exact List.length_eq_zero_iff.1 this
  subst this;rfl
 |slz a kd=>exact key _ _ _ rfl
 |sl b o o0 len c kd rows' off tok=>exact key _ _ _ rfl
 |ms b base kd oo o ep off len c cap=>exact key _ _ _ rfl
 |str s=>exact absurd rfl (hns _)
 |_=>simp [Go.Abs.rowsOf] at hr
theorem freeze_heap {b o n:Nat} {cells:Array Value} {e:TypeId} {fz:Nat×Nat} (hn:0<n) (h:w.heap[b]?=some (.cells cells e fz)) :
  (w.freeze ⟨b,o,none⟩ n).heap[b]?=some (.cells cells e (if fz.1==fz.2 then (o,o+n) else (min fz.1 o,max fz.2 (o+n)))):=by
 unfold World.freeze
 rw [if_neg (by omega)]
 simp only [Array.getElem?_modify,if_true,h,Option.map_some]
theorem freeze_ne {b o n b':Nat} (h:b'≠b):(w.freeze ⟨b,o,none⟩ n).heap[b']?=w.heap[b']?:=by
 unfold World.freeze
 split
 ·rfl
 ·simp only [Array.getElem?_modify]
  rw [if_neg (fun e=>h e.symm)]
theorem freeze_cell {b o n b' i:Nat}:(w.freeze ⟨b,o,none⟩ n).cell? ⟨b',i,none⟩=w.cell? ⟨b',i,none⟩:=by
 rcases Nat.eq_zero_or_pos n with rfl | hn
 ·rfl
 by_cases hb:b'=b
 ·subst hb
  cases hh:w.heap[b']? with
  |none =>
   have:(w.freeze ⟨b',o,none⟩ n).heap[b']?=none:=by
    unfold World.freeze;rw [if_neg (by omega)];simp [Array.getElem?_modify,hh]
   simp [World.cell?,hh,this]
  |some ob =>
   cases ob with
   |cells cs e fz=>simp [World.cell?,hh,freeze_heap hn hh]
   |_ =>
    have:(w.freeze ⟨b',o,none⟩ n).heap[b']?=w.heap[b']?:=by
     unfold World.freeze;rw [if_neg (by omega)];simp [Array.getElem?_modify,hh]
    simp [World.cell?,this]
 ·exact cell_of_heap (freeze_ne hb) i
theorem freeze_shape {b o n b':Nat}:(w.freeze ⟨b,o,none⟩ n).shape? b'=w.shape? b':=by
 rcases Nat.eq_zero_or_pos n with rfl | hn
 ·rfl
 by_cases hb:b'=b
 ·subst hb
  cases hh:w.heap[b']? with
  |none =>
   have:(w.freeze ⟨b',o,none⟩ n).heap[b']?=none:=by
    unfold World.freeze;rw [if_neg (by omega)];simp [Array.getElem?_modify,hh]
   simp [World.shape?,hh,this]
  |some ob =>
   cases ob with
   |cells cs e fz=>simp [World.shape?,hh,freeze_heap hn hh]
   |_ =>
    have:(w.freeze ⟨b',o,none⟩ n).heap[b']?=w.heap[b']?:=by
     unfold World.freeze;rw [if_neg (by omega)];simp [Array.getElem?_modify,hh]
    simp [World.shape?,this]
 ·exact shape_of_heap (freeze_ne hb)
theorem Below.freezeAt {b o n:Nat} (h:Below bs W w) (hb:bs≤b):Below bs W (w.freeze ⟨b,o,none⟩ n):=by
 refine ⟨?_,?_,?_,?_,fun k hk=>by rw [freeze_ne (by omega)];exact h.block k hk⟩
 ·unfold World.freeze;split<;>exact h.os
 ·unfold World.freeze;split<;>exact h.tape
 ·unfold World.freeze;split<;>exact h.output
 ·unfold World.freeze;split
  ·exact h.size
  ·simpa using h.size
theorem Loose.freeze {b o n b' s:Nat} (hn:0<n) (hI:∀j,j<n→(σ.I b (o+j)).isSome=true) (h:Loose σ w b' s):Loose σ (w.freeze ⟨b,o,none⟩ n) b' s:=by
 obtain ⟨h1,cells,e,fz,h2,h3⟩:=h
 refine ⟨h1,?_⟩
 by_cases hb:b'=b
 ·subst hb
  have hs:o+n≤s:=by
   rcases Nat.lt_or_ge (o+(n - 1)) s with hlt | hge
   ·omega
   ·have:=hI (n - 1) (by omega)
    rw [h1 _ hge] at this;simp at this
  refine ⟨cells,e,_,freeze_heap hn h2,?_⟩
  right
  split
  ·exact hs
  ·rename_i hne
   rcases h3 with h3 | h3
   ·simp [h3] at hne
   ·exact Nat.max_le.2 ⟨h3,hs⟩
 ·exact ⟨cells,e,fz,by rw [freeze_ne hb];exact h2,h3⟩
theorem WF.freeze (h:WF P W bs σ st w) {b o n:Nat} (hb:bs≤b) (hn:0<n) (hI:∀j,j<n→(σ.I b (o+j)).isSome=true):WF P W bs σ st (w.freeze ⟨b,o,none⟩ n):=by
 have hI0:=hI 0 hn
 obtain ⟨v0,hv0⟩:=Option.isSome_iff_exists.1 hI0
 have hcell:=(h.imm _ _ _ hv0).1
 refine ⟨Below.freezeAt h.below hb,h.bsle,fun b' i v hv=>by rw [freeze_cell];exact h.imm _ _ _ hv,fun b' y hy=>by rw [freeze_shape];exact h.shp _ _ hy,fun p y hp=>?_,h.fresh,h.sep,h.idR,h.idB,h.idL,h.lo,fun b' ob hk=>?kept,h.isB⟩
 case kept =>
  obtain ⟨k1,k2,k3,k4⟩:=h.kept b' ob hk
  have hne:b'≠b:=fun e=>by subst e;rw [k3] at hv0;cases hv0
  exact ⟨by rw [freeze_ne hne];exact k1,k2,k3,k4⟩
 have ho:=h.obj p y hp
 have other:∀{b':Nat} {ob:Obj},w.heap[b']?=some ob→(∀cs e fz,ob≠.cells cs e fz)→(w.freeze ⟨b,o,none⟩ n).heap[b']?=some ob:=fun {b' ob} hh hne=>by
  by_cases e:b'=b
  ·subst e
   unfold World.cell? at hcell
   rw [show w.heap[(⟨b',o+0,none⟩:Addr).block]?=some ob from hh] at hcell
   cases ob with
   |cells cs e fz=>exact absurd rfl (hne _ _ _)
   |_=>simp at hcell
  ·rw [freeze_ne e];exact hh
 cases y with
 |free ep=>trivial
 |box ty row =>
  obtain ⟨b',vs,h1,h2,h3,h4,h5⟩:=ho
  have hne:b'≠b:=fun e=>by subst e;rw [h3] at hI0;simp at hI0
  exact ⟨b',vs,h1,h2,h3,by rw [freeze_ne hne];exact h4,h5⟩
 |rows kd ep rs =>
  obtain ⟨b',base,h1,h2,h3,h4,h5,h6⟩:=ho
  refine ⟨b',base,h1,h2,h3.freeze hn hI,h4,h5,fun i r j a q1 q2=>?_⟩
  rw [freeze_cell];exact h6 i r j a q1 q2
 |spare ep k =>
  obtain ⟨b',s,h1,h2,h3⟩:=ho
  exact ⟨b',s,h1,h2,h3.freeze hn hI⟩
 |iter s pos =>
  obtain ⟨b',s',h1,h2,h3,h4⟩:=ho
  exact ⟨b',s',h1,h2,other h3 (fun _ _ _=>by simp),h4⟩
 |amap es =>
  obtain ⟨b',ents,clock,h1,h2,h3,h4⟩:=ho
  exact ⟨b',ents,clock,h1,h2,other h3 (fun _ _ _=>by simp),h4⟩
 |loop =>
  obtain ⟨b',r,h1,h2,h3,h4⟩:=ho
  exact ⟨b',r,h1,h2,other h3 (fun _ _ _=>by simp),h4⟩
 |coll =>
  obtain ⟨b',ob',h1,h2,h3,h4⟩:=ho
  exact ⟨b',ob',h1,h2,other h3 h4.1,h4⟩
end
end Go.Abs
namespace Go.Abs
open Go Go.RowKit
section
variable {P:Program} {W:World} {bs:Nat} {σ:Gh} {st:St} {w:World}
theorem run_viewAt {b:Nat} {y:TypeId×Nat} (h:w.shape? b=some y):(viewAt b).run P w = .ok none w:=by
 simp [viewAt,h]
theorem run_seenAt {a:Addr} {y:TypeId×Nat} (h:w.shape? a.block=some y):(Conv.seenAt a).run P w = .ok a w:=by
 simp [Conv.seenAt,run_viewAt h]
theorem run_cellsIn {b:Nat} {y:TypeId×Nat} (h:w.shape? b=some y):(cellsIn b).run P w = .ok (some y.2) w:=by
 simp [cellsIn,h]
theorem RowsIn.ofBytes (s:ByteArray) (rest:Array Value):RowsIn P σ ((s.data.map fun b=>Value.int .u8 b.toNat)++rest) 0 (s.data.toList.map fun b=>[AV.int .u8 b.toNat]):=by
 refine ⟨by simp [szk],fun r hr=>?_,fun i r j a h1 h2=>?_⟩
 ·obtain ⟨b,_,rfl⟩:=List.mem_map.1 hr;rfl
 ·rw [List.getElem?_map] at h1
  obtain ⟨b,hb,rfl⟩:=Option.map_eq_some_iff.1 h1
  cases j with
  |succ j=>simp at h2
  |zero =>
   simp at h2;subst h2
   refine ⟨.int .u8 b.toNat,?_,rfl,.int _ _⟩
   have hb':s.data[i]?=some b:=by simpa using hb
   have hi:i<s.data.size:=(Array.getElem?_eq_some_iff.1 hb').1
   simp only [szk,if_true,Nat.mul_one,Nat.add_zero]
   rw [Array.getElem?_append_left (by simpa using hi),Array.getElem?_map,hb']
   rfl
theorem WF.freezeOwnless (h:WF P W bs σ st w) {b o n:Nat} (hb:bs≤b) (hno:∀p y,st.get p=some y→¬owns σ p y b) (hk:σ.K b=none):WF P W bs σ st (w.freeze ⟨b,o,none⟩ n) :=
 h.still (T:=b) (.refl σ) (Below.freezeAt h.below hb) (fun b' hb' _=>freeze_ne hb') hno (fun _ _ _ hv=>.inl hv) (fun i v hv=>by rw [freeze_cell];exact h.imm _ _ _ hv) (fun _ _ hy=>.inl hy)
  (fun y hy=>by rw [freeze_shape];exact h.shp _ _ hy) rfl rfl rfl hk
theorem sim_stringToBytes {e:TypeId} (s:ByteArray) (h:WF P W bs σ st w) (hu:ByteT P e) :
  ∃v w' σ',(Conv.stringToBytes e s).run P w = .ok v w'∧σ.Le σ'∧WF P W bs σ' st w'∧Rep P σ' v (.sl 0 (s.data.toList.map fun b=>[AV.int .u8 b.toNat]) 0 s.data.toList.length .no):=by
 have hsz:s.data.toList.length=s.size:=rfl
 have hge:s.size≤grownCap w s.size 0 e:=by simp [grownCap,Question.cut]
 generalize hvs:(s.data.map fun b=>Value.int .u8 b.toNat)++Array.replicate (grownCap w s.size 0 e - s.size) (Value.int .u8 0)=vs
 have hvl:vs.size=grownCap w s.size 0 e:=by
  rw [←hvs];simp
  have:s.data.size=s.size:=rfl
  omega
 have hr:RowsIn P σ vs 0 (s.data.toList.map fun b=>[AV.int .u8 b.toNat]):=by rw [←hvs];exact .ofBytes s _
 have hl:(s.data.toList.map fun b=>[AV.int .u8 b.toNat]).length=s.size:=by rw [List.length_map,hsz]
 have h1:=Gh.le_newRows h.drew vs e ((s.data.toList.map fun b=>[AV.int .u8 b.toNat]).length*szk 0)
 have h2:=h.drew.newRows (e:=e) hr
 have h3:Rep P _ (.slice (some ⟨w.drew.heap.size,0,none⟩) s.size (grownCap w s.size 0 e)) (.sl 0 (s.data.toList.map fun b=>[AV.int .u8 b.toNat]) 0 s.size .no) :=
  rep_new (kd:=0) hr (fun _=>hu) (fun i=>noI h.drew (Nat.le_refl _) i) (.refl _) h1 (by rw [hl];exact Nat.le_refl _) (by rw [hl];exact hge) (by simp [szk,hvl]) trivial
 have hno:∀p y,st.get p=some y→¬owns (σ.newRows w.drew.heap.size vs e ((s.data.toList.map fun b=>[AV.int .u8 b.toNat]).length*szk 0)) p y w.heap.size:=fun p y hp ho=>by
  refine unowned h (Nat.le_refl _) p y hp ?_
  cases y<;>exact ho
 have hbs:bs≤w.heap.size:=Nat.le_trans h.bsle h.size
 refine ⟨_,(w.drew.alloc (.cells vs e)).freeze ⟨w.heap.size,vs.size,none⟩ 1,_,?_,h1,h2.freezeOwnless (b:=w.heap.size) hbs hno (noK h (Nat.le_refl _)),h3⟩
 have hshape:=shape_new w.drew vs e
 rw [show w.drew.heap.size=w.heap.size from rfl] at hshape
 have hch:(choose (.appendCap s.size 0 e)).run P w = .ok (grownCap w s.size 0 e) w.drew:=by simp [Question.forced,grownCap]
 have hnr:(newRow e vs).run P w.drew = .ok ⟨w.heap.size,0,none⟩ (w.drew.alloc (.cells vs e)):=by simp [newRow];rfl
 have hms:(markStringish ⟨w.heap.size,0,none⟩).run P (w.drew.alloc (.cells vs e)) = .ok () ((w.drew.alloc (.cells vs e)).freeze ⟨w.heap.size,vs.size,none⟩ 1):=by
  simp only [markStringish,Sem.run_bind,run_shape,hshape,Result.andThen_ok,run_freeze]
 simp only [Conv.stringToBytes,Sem.run_bind,hch,Result.andThen_ok,hvs,hnr,hms,Sem.run_pure]
 rfl
end
end Go.Abs
namespace Go.Abs
open Go Go.RowKit
section
variable {P:Program} {W:World} {bs:Nat} {σ:Gh} {st:St} {w:World}
theorem sim_conv {home:Option (Nat×Bool)} {src dst:TypeId} {x:Value} {xa:AV} {r:AV×St} (h:WF P W bs σ st w) (hx:Rep P σ x xa) (hc:convA P st home src dst xa=some r) :
  ∃v w' σ',(convert src dst x).run P w = .ok v w'∧σ.Le σ'∧WF P W bs σ' r.2 w'∧Rep P σ' v r.1:=by
 unfold convA at hc
 split at hc
 ·
  rename_i t hs hd
  split at hc
  ·cases hc;cases hx
   exact ⟨_,w,σ,by simp [convert,Conv.unsafePointer,run_underlying hs,run_underlying hd],.refl _,h,.nilp⟩
  ·rename_i o c
   split at hc
   ·rename_i ty row ho
    split at hc
    ·rename_i hlt
     obtain ⟨n,hn,h2⟩:=Option.bind_eq_some_iff.1 hc
     split at h2
     ·simp at h2
     ·rename_i hn0
      cases h2
      have hx':=hx
      cases hx with
      |bp b _ _ hB =>
      obtain ⟨b',vs,h1,hbs,hI,h4,h5,_⟩:=h.obj _ _ ho
      rw [hB] at h1;cases h1
      have hsh:w.shape? b=some (ty,vs.size):=by simp [World.shape?,h4]
      refine ⟨_,w,σ,?_,.refl _,h,hx'⟩
      have hge:¬vs.size≤c:=by omega
      simp [convert,Conv.unsafePointer,run_underlying hs,run_underlying hd,run_seenAt (a:=⟨b,c,none⟩) hsh,run_cellsIn hsh,run_sizeOf' hn,hn0,hge]
    ·simp at hc
   ·simp at hc
  ·simp at hc
 ·
  rename_i u hs hd
  split at hc
  ·cases hc;cases hx
   exact ⟨_,w,σ,by simp [convert,Conv.unsafePointer,run_underlying hs,run_underlying hd],.refl _,h,.nilp⟩
  ·rename_i o c
   split at hc
   ·rename_i ty row ho
    split at hc
    ·rename_i hcond
     obtain ⟨hu,hlies⟩:=hcond
     obtain ⟨n,hn⟩:=Option.isSome_iff_exists.1 hu
     cases hc
     have hx':=hx
     cases hx with
     |bp b _ _ hB =>
     obtain ⟨b',vs,h1,hbs,hI,h4,h5,_⟩:=h.obj _ _ ho
     rw [hB] at h1;cases h1
     have hsh:w.shape? b=some (ty,vs.size):=by simp [World.shape?,h4]
     have hva:(variablesAt ⟨b,c,none⟩ u 1).run P w = .ok true w:=by
      simp [variablesAt,hsh,h5,hlies]
     refine ⟨_,w,σ,?_,.refl _,h,hx'⟩
     simp [convert,Conv.unsafePointer,run_underlying hs,run_underlying hd,run_seenAt (a:=⟨b,c,none⟩) hsh,run_sizeOf' hn,hva]
    ·simp at hc
   ·simp at hc
  ·simp at hc
 ·rename_i ks kd hs hd
  split at hc
  ·cases hc;cases hx
   exact ⟨_,w,σ,by simp [convert,Conv.intToInt,run_underlying hs,run_underlying hd],.refl _,h,.int _ _⟩
  ·simp at hc
 ·rename_i hs hd
  split at hc
  ·cases hc
   have hx':=hx
   cases hx
   exact ⟨_,w,σ,by simp [convert,run_underlying hs,run_underlying hd],.refl _,h,hx'⟩
  ·simp at hc
 ·rename_i e hs hd
  split at hc
  ·rename_i s he
   split at hc
   ·split at hc
    ·simp at hc
    ·cases hc
     cases hx with
     |str s =>
     rename_i hc1 _
     obtain ⟨v,w',σ',h1,h2,h3,h4⟩:=sim_stringToBytes s h ⟨he,hc1⟩
     exact ⟨v,w',σ',by simp [convert,run_underlying hs,run_underlying hd,run_underlying he,h1],h2,h3,h4⟩
   ·simp at hc
  ·simp at hc
 ·rename_i e hs hd
  split at hc
  ·rename_i he
   split at hc
   ·simp at hc
   ·rename_i hns
    obtain ⟨rows,hr,h2⟩:=Option.bind_eq_some_iff.1 hc
    obtain ⟨l,hl,rfl⟩:=Option.map_eq_some_iff.1 h2
    obtain ⟨v,hv1,hv2⟩:=sim_bytesToString h hx hr (fun s e=>by subst e;exact hns s rfl) hl
    refine ⟨v,w,σ,?_,.refl _,h,hv2⟩
    cases hx with
    |str s=>exact absurd rfl (hns s.data.toList)
    |nils=>simp [convert,run_underlying hs,run_underlying hd,run_underlying he,hv1]
    |slz a kd=>simp [convert,run_underlying hs,run_underlying hd,run_underlying he,hv1]
    |sl b o o0 len c kd rows' off tok=>simp [convert,run_underlying hs,run_underlying hd,run_underlying he,hv1]
    |ms b base kd oo o ep off len c cap=>simp [convert,run_underlying hs,run_underlying hd,run_underlying he,hv1]
    |_=>simp [Go.Abs.rowsOf] at hr
  ·simp at hc
 ·simp at hc
theorem sim_pushRows {kd:Nat} {rows:List (List AV)} {vs:Array Value} {e:TypeId} (hw:WF P W bs σ st w) (hr:RowsIn P σ vs kd rows) (hu:kd=0→ByteT P e) :
  ∃σ',σ.Le σ'∧WF P W bs σ' (.rows kd 0 rows::st) (w.alloc (.cells vs e))∧σ'.R st.length 0=some (w.heap.size,0,kd)∧σ'.sh w.heap.size=some (e,vs.size):=by
 have l1:=Gh.le_setSh σ (b:=w.heap.size) (x:=(e,vs.size)) (fun y hy=>by rw [noSh hw (Nat.le_refl _)] at hy;simp at hy)
 have l2:=Gh.le_setR (σ.setSh w.heap.size (e,vs.size)) (o:=st.length) (ep:=0) (x:=(w.heap.size,0,kd)) (hw.idR _ _ (Nat.le_refl _))
 have hR:((σ.setSh w.heap.size (e,vs.size)).setR st.length 0 (w.heap.size,0,kd)).R st.length 0=some (w.heap.size,0,kd):=by
  show (if _ then _ else _)=_
  rw [if_pos ⟨rfl,rfl⟩]
 have hS:((σ.setSh w.heap.size (e,vs.size)).setR st.length 0 (w.heap.size,0,kd)).sh w.heap.size=some (e,vs.size):=by
  show (if _ then _ else _)=_
  rw [if_pos rfl]
 refine ⟨_,l1.trans l2,?_,hR,hS⟩
 refine hw.step (o:=st.length) (x:=.rows kd 0 rows) (T:=w.heap.size) (l1.trans l2) (hw.below.alloc (Nat.le_trans hw.bsle hw.size) _) (fun p hp=>by rw [St.get_cons,if_neg hp]) (by rw [St.get_cons,if_pos rfl]) (by simp)
  (fun b _ hb=>heap_alloc_lt w _ hb) (fun p y _ hp=>unowned hw (Nat.le_refl _) p y hp) (fun _ _ _ hv=>.inl hv)
  (fun i v hv=>absurd (hw.imm _ _ _ hv).1 (fun hh=>by have:=lt_of_cell hh;omega)) (fun b' y hy=>?_) (fun y hy=>?_) (fun o' e' y hy=>?_) (fun _ _ hy=>.inl hy) (fun _ _ _ _ hy=>.inl hy) ?_ ?_ (fun b hb=>?_) (noK hw (Nat.le_refl _)) (hBx:=fun _ hb=>(hw.noBnew hb).elim)
 ·change (if b'=w.heap.size then some _ else _)=some y at hy
  split at hy
  ·right;assumption
  ·left;exact hy
 ·rw [hS] at hy
  cases hy
  exact shape_new w vs e
 ·change (if o'=st.length∧e'=0 then some _ else _)=some y at hy
  split at hy
  ·rename_i hcc;exact .inr hcc.1
  ·exact .inl hy
 ·refine ⟨w.heap.size,0,hR,Nat.le_trans hw.bsle hw.size,⟨fun i _=>noI hw (Nat.le_refl _) i,vs,e,(0,0),heap_alloc_new w _,.inl rfl⟩,⟨e,vs.size,hS,by have:=hr.size;omega,hu⟩,hr.len,fun i r j a h1 h2=>?_⟩
  obtain ⟨v,hv,hv1,hv2⟩:=hr.cell i r j a h1 h2
  exact ⟨v,by rw [cell_new,Nat.zero_add];exact hv,hv1,hv2.mono (l1.trans l2)⟩
 ·refine ⟨fun e' he=>?_,fun e' n he=>hw.idL _ e' n (Nat.le_refl _)⟩
  change (if st.length=st.length∧e'=0 then some _ else σ.R st.length e')=none
  rw [if_neg (by omega)];exact hw.idR _ e' (Nat.le_refl _)
 ·obtain ⟨y,hy⟩:=hb
  rw [hR] at hy
  cases hy;rfl
theorem _root_.Go.Abs.Rep.ms_shape {v:Value} {o ep off len cap:Nat} (h:Rep P σ v (.ms o ep off len cap)) {b oo l c:Nat} (hv:v = .slice (some ⟨b,oo,none⟩) l c) :
  ∃base kd,σ.R o ep=some (b,base,kd)∧cap≤c∧(0<c→oo=base+off*szk kd)∧Shaped P σ b kd (if c=0 then 0 else oo+c*szk kd):=by
 cases h with
 |ms b base kd oo o ep off len c cap hR hcap hlen ho hsh =>
  cases hv
  exact ⟨base,kd,hR,hcap,ho,hsh⟩
theorem sim_makeSlice {home:Option (Nat×Bool)} {t:TypeId} {lv cv:Value} {l c:AV} {r:AV×St} (h:WF P W bs σ st w) (hl:Rep P σ lv l) (hc:Rep P σ cv c) (hm:makeSliceA P st home t l c=some r) :
  ∃v w' σ',(Instr.makeSlice t lv cv).run P w = .ok v w'∧σ.Le σ'∧WF P W bs σ' r.2 w'∧Rep P σ' v r.1:=by
 unfold makeSliceA at hm
 split at hm
 ·rename_i e l c ht
  cases hl;cases hc
  obtain ⟨i,hi,h2⟩:=Option.bind_eq_some_iff.1 hm
  obtain ⟨kd,hk,h3⟩:=Option.bind_eq_some_iff.1 h2
  obtain ⟨z,hz,h4⟩:=Option.bind_eq_some_iff.1 h3
  clear hm h2 h3
  split at h4
  ·rename_i hcond
   obtain ⟨q1,q2,q3,q4,q5,q6⟩:=hcond
   unfold roomA at q3 q4
   obtain ⟨hsz,hu⟩:=kdOf_sz hk
   have hisz:=(info_size hi hk).1
   have hzw:∃zv,i.zero=some zv∧Rep P σ zv z:=by
    unfold zeroA at hz
    obtain ⟨i',hi',h2⟩:=Option.bind_eq_some_iff.1 hz
    rw [hi] at hi'
    cases hi'
    obtain ⟨v,hv,h3⟩:=Option.bind_eq_some_iff.1 h2
    exact ⟨v,hv,ofVal_rep 4 v z h3⟩
   obtain ⟨zv,hz1,hz2⟩:=hzw
   have hzc:=hz2.cells q6
   have hr0:=zero_rows (P:=P) (σ:=σ) (len:=c.toNat) hzc q5
   have hcn:(c.toNat:Int)=c:=Int.toNat_of_nonneg (by omega)
   have hbytes:(i.bytes:Int)*c≤281474976710656:=by
    have:((i.bytes:Int)*c)=((c.toNat*i.bytes:Nat):Int):=by rw [←hcn,Nat.mul_comm];simp
    rw [this];omega
   have hrun:=run_make (P:=P) w t e i zv ht hi hz1 .i64 .i64 l c q1 q2 hbytes (by omega)
   rw [hisz] at hrun
   generalize hvs:madeCells zv.cells (c.toNat*szk kd)=vs at hrun
   have hvl:vs.size=c.toNat*szk kd:=by rw [←hvs,size_madeCells]
   have hr:RowsIn P σ vs kd (List.replicate c.toNat z.cells):=by rw [←hvs];exact hr0
   split at h4
   ·rename_i hh
    obtain ⟨r',hr',h5⟩:=Option.bind_eq_some_iff.1 h4
    clear h4
    obtain ⟨σ',b1,b2,b3⟩:=sim_home (e:=e) (c:=c.toNat) h hr' hr hu (by simp) (by omega)
    split at h5
    ·rename_i o ep off x cap heq
     cases h5
     rw [heq] at b3
     refine ⟨_,_,σ',hrun,b1,b2,?_⟩
     have hlc:l.toNat≤c.toNat:=by omega
     have hcapeq:cap=c.toNat:=by
      cases hx:st.get _ with
      |some y =>
       obtain ⟨x0,e0,_,_,he⟩:=homeA_spec hx hr'
       rw [he] at heq
       simp at heq
       omega
      |none =>
       obtain ⟨_,he,_⟩:=homeA_none hx hr'
       rw [he] at heq
       simp at heq
       omega
     subst hcapeq
     obtain ⟨base,kd',p1,p2,p4,p5⟩:=b3.ms_shape rfl
     exact .ms _ base kd' _ _ _ _ _ _ _ p1 p2 hlc p4 p5
    ·simp at h5
   ·rename_i hh
    split at h4
    ·rename_i hl0
     subst hl0
     obtain ⟨σ',b1,b2,b3⟩:=sim_home (e:=e) (c:=c.toNat) (rows:=[]) (kd:=kd) (vs:=vs) h h4 ⟨by simp,by simp,by simp⟩ hu (by simp) (by omega)
     exact ⟨_,_,σ',hrun,b1,b2,b3⟩
    ·simp at h4
   ·cases h4
    obtain ⟨σ',b1,b2,b3,b4⟩:=sim_pushRows (e:=e) h hr hu
    refine ⟨_,_,σ',hrun,b1,b2,?_⟩
    refine .ms w.heap.size 0 kd 0 st.length 0 0 l.toNat c.toNat c.toNat b3 (Nat.le_refl _) (by omega) (fun _=>by simp) ⟨e,vs.size,b4,?_,hu⟩
    split
    ·exact Nat.zero_le _
    ·omega
  ·simp at h4
 ·simp at hm
theorem sim_freeze {v:Value} {a:AV} {r:AV×St} (h:WF P W bs σ st w) (hv:Rep P σ v a) (hf:freezeA st a=some r):∃σ',σ.Le σ'∧WF P W bs σ' r.2 w∧Rep P σ' v r.1:=by
 unfold freezeA at hf
 split at hf
 ·rename_i o ep off len cap
  split at hf
  ·rename_i kd ep' rs ho
   split at hf
   ·rename_i hcond
    obtain ⟨rfl,hle⟩:=hcond
    cases hf
    obtain ⟨b,base,cells,ce,fz,g1,hbs,g3,hI,hfz0,hfit,hsh0,hs3⟩:=h.rowsOf ho
    obtain ⟨b9,base9,p1,_,_,_,hrl,hcell⟩:=h.obj _ _ ho
    rw [g1] at p1
    simp only [Option.some.injEq,Prod.mk.injEq,and_true] at p1
    obtain ⟨rfl,rfl⟩:=p1
    cases hv with
    |ms b' base' kd' oo _ _ _ _ c _ hR hcap hlen hoo hsh =>
    rw [hR] at g1
    simp only [Option.some.injEq,Prod.mk.injEq] at g1
    obtain ⟨rfl,rfl,rfl⟩:=g1
    have hmul:(off+len)*szk kd'≤rs.length*szk kd':=Nat.mul_le_mul_right _ hle
    have hcs:∀(k:Nat),((cells.toList.drop base').take ((off+len)*szk kd'))[k]?=if k<(off+len)*szk kd' then cells[base'+k]? else none:=fun k=>by
     rw [List.getElem?_take]
     split
     ·rw [List.getElem?_drop];simp
     ·rfl
    have hcl:((cells.toList.drop base').take ((off+len)*szk kd')).length=(off+len)*szk kd':=by simp;omega
    have l1:=Gh.le_addI σ (b:=b') (s:=base') (vs:=(cells.toList.drop base').take ((off+len)*szk kd')) (fun i hi _=>hI i hi)
    have hIv:∀b i,(σ.addI b' base' ((cells.toList.drop base').take ((off+len)*szk kd'))).I b i=if b=b'∧base'≤i∧i<base'+(off+len)*szk kd' then cells[i]? else σ.I b i:=fun b i=>by
     show (if b=b'∧base'≤i∧i<base'+((cells.toList.drop base').take ((off+len)*szk kd')).length then ((cells.toList.drop base').take ((off+len)*szk kd'))[i - base']? else σ.I b i)=_
     rw [hcl]
     split
     ·rename_i hc
      rw [hcs,if_pos (by omega)]
      congr 1;omega
     ·rfl
    have hcell':∀(i:Nat) r (j:Nat) a,rs[i]?=some r→r[j]?=some a→∃v,cells[base'+i*szk kd'+j]?=some v∧v.oneCell'=true∧Rep P σ v a:=fun i r j a h1 h2=>by
     obtain ⟨v,q1,q2⟩:=hcell i r j a h1 h2
     simp only [World.cell?,g3,Option.isSome_none,Bool.false_eq_true,if_false] at q1
     exact ⟨v,q1,q2⟩
    refine ⟨_,l1,?_,?_⟩
    ·refine h.step (o:=o) (x:=.free ep) (T:=b') l1 h.below (fun p hp=>St.get_put_ne hp) (St.get_put_same (St.get_lt ho)) (by simp) (fun _ _ _=>rfl)
      (fun p y hp hy hown=>hp (h.sep p o y (.rows kd' ep rs) b' hy ho hown ⟨_,hR⟩)) (fun b i v hv=>?_) (fun i v hv=>?_) (fun _ _ hy=>.inl hy) (fun y hy=>h.shp _ _ hy) (fun _ _ _ hy=>.inl hy) (fun _ _ hy=>.inl hy) (fun _ _ _ _ hy=>.inl hy)
      trivial (by have hf:=h.fresh o _ ho;exact ⟨hf.1,hf.2⟩) (fun b hb=>hb.elim) (ownK h ho ⟨_,hR⟩) (hBx:=fun _ hb=>(h.noB ho rfl hb).elim)
     ·rw [hIv] at hv
      split at hv
      ·rename_i hc;exact .inr hc.1
      ·exact .inl hv
     ·rw [hIv] at hv
      split at hv
      ·rename_i hc
       refine ⟨by simp only [World.cell?,g3,Option.isSome_none,Bool.false_eq_true,if_false];exact hv,?_⟩
       have hp:=szk_pos kd'
       have hk:i - base'<rs.length*szk kd':=by omega
       have hq:(i - base') / szk kd'<rs.length:=by rw [Nat.div_lt_iff_lt_mul hp];exact hk
       have hm:(i - base')%szk kd'<szk kd':=Nat.mod_lt _ hp
       have hrl':=hrl _ (List.getElem_mem hq)
       obtain ⟨u,hu,h1,_⟩:=hcell' _ _ ((i - base')%szk kd') (rs[(i - base') / szk kd'][(i - base')%szk kd']'(by omega)) (List.getElem?_eq_getElem hq) (List.getElem?_eq_getElem (by omega))
       have e1:base'+(i - base') / szk kd'*szk kd'+(i - base')%szk kd'=i:=by rw [Nat.add_assoc,div_row];omega
       rw [e1,hv] at hu
       cases hu;exact h1
      ·exact h.imm _ _ _ hv
    ·have hin:∀(i:Nat) r (j:Nat) a,(rs.take (off+len))[i]?=some r→r[j]?=some a→rs[i]?=some r∧i*szk kd'+j<(off+len)*szk kd':=fun i r j a h1 h2=>by
      rw [List.getElem?_take] at h1
      split at h1
      ·rename_i hil
       have hj:j<szk kd':=by rw [←hrl r (List.mem_of_getElem? h1)];exact (List.getElem?_eq_some_iff.1 h2).1
       have:i*szk kd'+szk kd'≤(off+len)*szk kd':=by rw [←Nat.succ_mul];exact Nat.mul_le_mul_right _ hil
       exact ⟨h1,by omega⟩
      ·simp at h1
     have htl:(rs.take (off+len)).length=off+len:=by simp;omega
     refine .sl b' oo base' len c kd' (rs.take (off+len)) off .no (by omega) (fun r hr=>hrl r (List.mem_of_mem_take hr)) (by omega) hoo (.inr ⟨ce,cells.size,hsh0,?_,fun _=>hs3⟩) trivial (fun i r j a h1 h2=>?_) (fun i r j a v h1 h2 h3=>?_)
     ·rw [htl]
      obtain ⟨se,sn,q1,q2,_⟩:=hsh
      rw [hsh0] at q1
      cases q1
      exact Nat.max_le.2 ⟨by omega,q2⟩
     ·obtain ⟨k1,k2⟩:=hin i r j a h1 h2
      obtain ⟨u,hu,_⟩:=hcell' i r j a k1 h2
      rw [hIv,if_pos ⟨rfl,by omega,by omega⟩,hu];rfl
     ·obtain ⟨k1,k2⟩:=hin i r j a h1 h2
      obtain ⟨u,hu,_,hrep⟩:=hcell' i r j a k1 h2
      rw [hIv,if_pos ⟨rfl,by omega,by omega⟩,hu] at h3
      cases h3
      exact hrep.mono l1
   ·simp at hf
  ·simp at hf
 ·cases hf
  exact ⟨σ,.refl _,h,hv⟩
end
end Go.Abs
