/- The interpreter by value, its soundness, and plain lemmas on it: part 3 of 3; no condition. -/
import Derived.Test.YtahpohhadcflfaaZB
import Derived.SizedLaws
import Derived.JoinedOf
import Derived.ChangeBears
import Derived.Carry
import Derived.JoinedCond
import Derived.Deep.CondSized
import Derived.OpenShut
/- The interpreter by value, with what comes behind as a function: definitions alone. What is closed (types, hints) is asked first; what hangs on values stands in small functions of its own. -/
namespace Go.Abs
open Go

abbrev CallF0 := FuncId → List AV → St → Option (AOut × St)
abbrev AgainF0 := Task → Fr → St → Option (AX × Fr × St)

section leafs
def boolV : AV → Option Bool
  | .bool b => some b
  | _ => none
/-- A value of one cell. -/
def cell1 : AV → Option AV
  | .agg cs => match cs with | [c] => some c | _ => none
  | .tup _ => none
  | v => some v
def cellsV (n : Nat) (v : AV) : Option (List AV) := if v.cells.length = n ∧ v.isTup = false then some v.cells else none
def aggV : AV → Option (List AV)
  | .agg cs => some cs
  | _ => none
def pickV (t : Bool) : AV → AV → AV
  | .bool x, .bool y => .bool (if t then x else y)
  | x, y => if t then x else y
def ptrAdd (off : Nat) : AV → Option AV
  | .ip row c => some (.ip row (c + off))
  | .bp o c => some (.bp o (c + off))
  | .ptr o ep i c => some (.ptr o ep i (c + off))
  | _ => none
def readA (st : St) (p : AV) (n : Nat) (ag : Bool) : Option AV :=
  match p with
  | .ip row c => readRow row c n ag
  | .bp o c => match st.get o with | some (.box _ row) => readRow row c n ag | _ => none
  | .ptr o ep i c =>
    match st.get o with
    | some (.rows _ ep' rs) => if ep = ep' then (rs[i]?).bind fun row => readRow row c n ag else none
    | _ => none
  | _ => none
def writeA (st : St) (p : AV) (cs : List AV) : Option St :=
  match p with
  | .bp o c => match st.get o with | some (.box ty row) => (setAt row c cs).map fun row' => st.put o (.box ty row') | _ => none
  | .ptr o ep i c =>
    match st.get o with
    | some (.rows sz ep' rs) => if ep = ep' then (rs[i]?).bind fun row => (setAt row c cs).map fun row' => st.put o (.rows sz ep' (rs.set i row')) else none
    | _ => none
  | _ => none
def idxSl (st : St) (kd : Nat) (x : AV) (j : Nat) : Option AV :=
  match x with
  | .sl sz rows off len _ => if sz = kd ∧ j < len then (rows[off + j]?).map fun row => .ip row 0 else none
  | .ms o ep off len _ => (msKd st o ep).bind fun k => if k = kd ∧ j < len then some (.ptr o ep (off + j) 0) else none
  | _ => none
def appendL (st : St) (home : Option (Nat × Bool)) (bytes kd : Nat) (s x : AV) : Option (AV × St) :=
    (rowsOf st kd x).bind fun new =>
    match s with
    | .nils =>
      if new.length = 0 then some (.nils, st)
      else if new.length * bytes ≤ roomA ∧ new.length ≤ roomA then
        match home with
        | some (h, m) => homeA st h m kd new
        | none => some (.sl kd new 0 new.length .no, st)
      else none
    | .sl sz rows off len tok =>
      if sz = kd ∧ off + len = rows.length ∧ (len + new.length) * bytes ≤ roomA ∧ len + new.length ≤ roomA then
        match tok with
        | .exact =>
          if new.length = 0 then some (s, st)
          else match home with
            | some (h, m) => homeA st h m kd (rows.drop off ++ new)
            | none => some (.sl kd (rows.drop off ++ new) 0 (len + new.length) .no, st)
        | .spare t ep =>
          if off = 0 then
            match st.get t with
            | some (.spare ep' n) =>
              if ep = ep' ∧ n = rows.length then
                if new.length = 0 then some (s, st)
                else some (.sl kd (rows ++ new) 0 (len + new.length) (.spare t ep), st.put t (.spare ep (n + new.length)))
              else none
            | _ => none
          else none
        | .no => none
      else none
    | .ms o ep off len cap =>
      match st.get o with
      | some (.rows sz ep' rs) =>
        if sz = kd ∧ ep = ep' ∧ (len + new.length) * bytes ≤ roomA ∧ len + new.length ≤ roomA ∧ off + cap ≤ rs.length ∧ len ≤ cap then
          if len + new.length ≤ cap then some (.ms o ep off (len + new.length) cap, st.put o (.rows sz ep (rs.take (off + len) ++ new ++ rs.drop (off + len + new.length))))
          else some (.ms o (ep + 1) 0 (len + new.length) (len + new.length), st.put o (.rows sz (ep + 1) ((rs.drop off).take len ++ new)))
        else none
      | _ => none
    | _ => none
def sliceSl (st : St) (kd : Nat) (x : AV) (lo hi mx : Option AV) : Option AV :=
  match x with
  | .nils => (optA hi 0).bind fun h => (optA lo 0).bind fun l => (optA mx 0).bind fun m => if h = 0 ∧ l = 0 ∧ m = 0 ∧ (mx.isSome → hi.isSome) then some .nils else none
  | .sl sz rows off len tok =>
    (optA hi len).bind fun h => (optA lo 0).bind fun l =>
    if sz = kd ∧ l ≤ h then
      match mx with
      | none => if off + h ≤ rows.length then some (.sl sz rows (off + l) (h - l) tok) else none
      | some mv => (natA mv).bind fun m => if hi.isSome ∧ h ≤ m ∧ off + m ≤ rows.length then some (.sl sz (rows.take (off + m)) (off + l) (h - l) (if rows.length = 0 then .no else .exact)) else none
    else none
  | .ms o ep off len cap =>
    (msKd st o ep).bind fun k =>
    (optA hi len).bind fun h => (optA lo 0).bind fun l =>
    if k = kd ∧ l ≤ h then
      match mx with
      | none => if h ≤ cap then some (.ms o ep (off + l) (h - l) (cap - l)) else none
      | some mv => (natA mv).bind fun m => if hi.isSome ∧ h ≤ m ∧ m ≤ cap then some (.ms o ep (off + l) (h - l) (m - l)) else none
    else none
  | _ => none
def sliceStr (x : AV) (lo hi : Option AV) : Option AV :=
  match x with
  | .str s => (optA hi s.length).bind fun h => (optA lo 0).bind fun l => if l ≤ h ∧ h ≤ s.length then some (.str ((s.take h).drop l)) else none
  | _ => none
def strAt (x : AV) (j : Nat) : Option AV :=
  match x with
  | .str s => (s[j]?).map fun b => .int .u8 b.toNat
  | _ => none
def lenSl : AV → Option AV
  | .nils => some (.int .i64 0)
  | .sl _ _ _ len _ => some (.int .i64 len)
  | .ms _ _ _ len _ => some (.int .i64 len)
  | _ => none
def lenStr : AV → Option AV
  | .str s => some (.int .i64 s.length)
  | _ => none
def lenMap (st : St) : AV → Option AV
  | .nilm => some (.int .i64 0)
  | .mp o => match st.get o with | some (.amap es) => some (.int .i64 es.length) | _ => none
  | _ => none
def strOf (st : St) (x : AV) : Option AV :=
  match x with
  | .str _ => none
  | _ => (rowsOf st 0 x).bind fun rs => (bytesOfRows rs).map .str
def bytesV (x : AV) : Option AV :=
  match x with
  | .str s => some (.sl 0 (s.map fun b => [.int .u8 b.toNat]) 0 s.length .no)
  | _ => none
def makeSl (st : St) (home : Option (Nat × Bool)) (bytes kd : Nat) (z : List AV) (l c : AV) : Option (AV × St) :=
  match l, c with
  | .int .i64 l, .int .i64 c =>
    if 0 ≤ l ∧ l ≤ c ∧ c.toNat * bytes ≤ roomA ∧ c.toNat ≤ roomA then
      match home with
      | some (h, true) => (homeA st h true kd (List.replicate c.toNat z)).bind fun r => match r.1 with | .ms o ep off _ cap => some (.ms o ep off l.toNat cap, r.2) | _ => none
      | some (h, false) => if l = 0 then homeA st h false kd [] else none
      | none => some (.ms st.length 0 0 l.toNat c.toNat, .rows kd 0 (List.replicate c.toNat z) :: st)
    else none
  | _, _ => none
def copySl (st : St) (sz : Nat) (d s : AV) : Option (AV × St) :=
    (rowsOf st sz s).bind fun new =>
    match d with
    | .nils => some (.int .i64 0, st)
    | .ms o ep off len _ =>
      match st.get o with
      | some (.rows sz' ep' rs) =>
        if sz' = sz ∧ ep = ep' ∧ off + len ≤ rs.length then
          some (.int .i64 (min new.length len : Nat), st.put o (.rows sz ep (rs.take off ++ new.take len ++ rs.drop (off + min new.length len))))
        else none
      | _ => none
    | _ => none
/-- What a type assertion says: to a type that is no interface's. -/
def assertV (z x : AV) (t : TypeId) (ok : Bool) : Option AV :=
  match x with
  | .iface t' v => if t' = t then some (if ok then .tup [v, .bool true] else v) else if ok then some (.tup [z, .bool false]) else none
  | .nili => if ok then some (.tup [z, .bool false]) else none
  | _ => none
def panicV : AV → Option AV
  | .iface t w => some (.iface t w)
  | _ => none
def fnV : AV → Option (FuncId × List AV)
  | .fn g cap => some (g, cap)
  | _ => none
/-- An interface value's function: what a call of a function value comes to. -/
def callB {R : Type} (x : Option (AOut × St)) (kv kp : AV → St → Option R) : Option R := x.bind fun r => match r.1 with | .ret v => kv v r.2 | .pan v => kp v r.2
def headB {R : Type} (x : Option (AX × Fr × St)) (k : AX → Fr → St → Option R) : Option R := x.bind fun r => k r.1 r.2.1 r.2.2
/-- Behind a loop's round that began with n objects: what was made in it goes. -/
def roundV (n : Nat) (fr : Fr) (st : St) : Option (Fr × St) :=
  if st.length == n then some (fr, st)
  else if St.closed n (st.trunc n) && fr.defers.all fun d => AV.closeds n d.2 then some ({ fr with env := fr.env.filter fun p => AV.closed n p.2 }, st.trunc n) else none
/-- The home beside a variable. -/
def homeV (cidx : TypeId → Nat → Nat) (wr : Bool) (st : St) (v : AV) : Option (Nat × Bool) :=
  match v with | .bp o c => (match st.get o with | some (.box ty _) => some (o + 1 + cidx ty c, wr) | _ => none) | _ => none
def condB {R : Type} (v : AV) (x y : AV → Option R) : Option R := match v with | .bool t => if t then x (.bool true) else y (.bool false) | _ => none
def guardB {R : Type} (v : AV) (want : Bool) (yes no : AV → Option R) : Option R :=
  match v with
  | .bool b => if want then (if b then yes (.bool true) else no (.bool false)) else (if b then no (.bool true) else yes (.bool false))
  | .tup [] => no (.tup [])
  | _ => none
/-- A slot's value written down once more. -/
def reput : Env → Nat → AV → Env
  | [], _, _ => []
  | (s, u) :: r, t, v => if s = t then (s, v) :: r else (s, u) :: reput r t v
def withCells {R : Type} (n : Nat) (v : AV) (k : List AV → Option R) : Option R := if n = 1 then (cell1 v).bind fun c => k [c] else (cellsV n v).bind k
/-- A pair handed on. -/
def bind2 {R : Type} (x : Option (AV × St)) (k : AV → St → Option R) : Option R := x.bind fun r => k r.1 r.2
def intV (k : IntKind) : AV → Option Int
  | .int k' n => if k' = k then some n else none
  | _ => none
def strV : AV → Option (List UInt8)
  | .str s => some s
  | _ => none
end leafs

section types
variable (P : Program)
/-- A part of a struct: is it an aggregate, its cells, its place. -/
def fieldPart (t : TypeId) (f : Nat) : Option (Bool × Nat × Nat) :=
  match P.underlying t with
  | some (.struct fields) => (fields[f]?).bind fun fd => (aggT P fd.type).bind fun ag => (szOf P fd.type).map fun n => (ag, n, fd.offset)
  | _ => none
def fieldOff (t : TypeId) (f : Nat) : Option Nat :=
  match P.underlying t with
  | some (.struct fields) => (fields[f]?).bind fun fd => (szOf P fd.type).bind fun n => if n = 0 then none else some fd.offset
  | _ => none
inductive IxT where
  | sl (kd : Nat)
  | arr (len n : Nat) (ag : Bool)
  | str
/-- What is indexed: a slice, an array, a text. -/
def ixT (t : TypeId) : Option IxT :=
  match P.underlying t with
  | some (.slice e) => (kdOf P e).map .sl
  | some (.array len e) => (aggT P e).bind fun ag => (szOf P e).map fun n => .arr len n ag
  | some .string => some .str
  | _ => none
/-- A slice type's elements: bytes, kind, null element. -/
def elemT (t : TypeId) : Option (Nat × Nat × Option AV) :=
  match P.underlying t with
  | some (.slice e) => (P.info? e).bind fun i => (kdOf P e).map fun kd => (i.bytes, kd, zeroA P e)
  | _ => none
def okNull (kd : Nat) : Option AV → Bool
  | some z => z.cells.length == szk kd && !z.isTup
  | none => false
/-- Where the parts of what is built lie: place and cells. -/
def placesT (t : TypeId) : Option (List (Nat × Nat)) :=
  match P.underlying t with
  | some (.struct fields) => fields.toList.mapM fun f => (szOf P f.type).map fun s => (f.offset, s)
  | some (.array n e) => (szOf P e).map fun s => (List.range n).map fun i => (i * s, s)
  | _ => none
inductive ConvT where
  | same
  | int (k : IntKind)
  | str
  | bytes
  | ofBytes
def convT (s d : TypeId) : Option ConvT :=
  match P.underlying s, P.underlying d with
  | some (.int _), some (.int k) => some (.int k)
  | some .string, some .string => some .str
  | some .string, some (.slice e) => (match P.underlying e with | some (.int .u8) => if P.cellsOf e = 1 then some .bytes else none | _ => none)
  | some (.slice e), some .string => (match P.underlying e with | some (.int .u8) => some .ofBytes | _ => none)
  | _, _ => none
def convV (st : St) : ConvT → AV → Option AV
  | .int k, .int _ n => some (.int k (k.wrap n))
  | .str, .str s => some (.str s)
  | .bytes, v => bytesV v
  | .ofBytes, v => strOf st v
  | _, _ => none
inductive LenT where
  | str | sl | map
  | arr (n : Nat)
def lenT (t : TypeId) : Option LenT :=
  match P.underlying t with
  | some .string => some .str
  | some (.array n _) => some (.arr n)
  | some (.slice _) => some .sl
  | some (.map _ _) => some .map
  | _ => none
def lenV (st : St) : LenT → AV → Option AV
  | .str, v => lenStr v
  | .sl, v => lenSl v
  | .map, v => lenMap st v
  | .arr n, _ => some (.int .i64 n)
inductive KT where
  | bool | str | other
  | int (k : IntKind)
def kindT (t : TypeId) : KT :=
  match P.underlying t with
  | some .bool => .bool
  | some .string => .str
  | some (.int k) => .int k
  | _ => .other
/-- May a value be put into an interface as one of this type; its null. -/
def plainT (t : TypeId) : Bool := match P.underlying t with | some (.interface _) => false | some _ => true | none => false
end types

section run
variable {R : Type} (P : Program) (H : Hints) (callF : CallF0) (again : AgainF0) (f : FuncId) (base : Nat)

def fillK (places : List (Nat × Nat)) : List (Nat × AV) → List AV → (List AV → Option R) → Option R
  | [], cells, k => k cells
  | (i, v) :: rest, cells, k => (places[i]?).bind fun p => withCells p.2 v fun cs => (setAt cells p.1 cs).bind fun c => fillK places rest c k
def rowsK (sz : Nat) : List (Nat × AV) → List (List AV) → (List (List AV) → Option R) → Option R
  | [], rows, k => k rows
  | (i, v) :: rest, rows, k => if i < rows.length then withCells sz v fun cs => rowsK sz rest (rows.set i (cs.map AV.strip)) k else none

def homeK (H : Hints) (f : FuncId) (ev : Operand → Option AV) (st : St) (base : Nat) (dst : Option Tmp) : Option (Nat × Bool) :=
  (dst.bind (H.home f)).bind fun h =>
  match h.1 with
  | none => some (base + h.2.1, h.2.2)
  | some s => (ev (.tmp s)).bind (homeV H.cidx h.2.2 st)
theorem homeK_eq (H : Hints) (f : FuncId) (ev : Operand → Option AV) (st : St) (base : Nat) (dst : Option Tmp) : homeK H f ev st base dst = homeOf H f ev st base dst := rfl
section op
variable (ev : Operand → Option AV) (st : St) (dst : Option Tmp) (kv : AV → St → Option R) (ks : St → Option R) (kd : FuncId → List AV → St → Option R) (kp : AV → St → Option R)
def optK (x : Option Operand) (k : Option AV → Option R) : Option R := match x with | none => k none | some x => (ev x).bind fun v => k (some v)
def callBK (c : Call) : Option R :=
  match c.callee with
  | .builtin b => (evs ev c.args.toList).bind fun args =>
    match b, args with
    | .append, [s, x] => (c.argTypes[0]?).bind fun t =>
      match (c.argTypes[1]?).bind P.underlying with
      | some (.int _) => none
      | none => none
      | _ => (elemT P t).bind fun e => if okNull e.2.1 e.2.2 then bind2 (appendL st (homeK H f ev st base dst) e.1 e.2.1 s x) kv else none
    | .len, [x] => (c.argTypes[0]?).bind fun t => (lenT P t).bind fun q => (lenV st q x).bind fun v => kv v st
    | .copy, [d, s] => (c.argTypes[0]?).bind fun t => (elemT P t).bind fun e => bind2 (copySl st e.2.1 d s) kv
    | .max, x :: r => (maxA x r).bind fun v => kv v st
    | .min, x :: r => (minA x r).bind fun v => kv v st
    | .unsafeSliceData, [x] => (sliceDataA st x).bind fun v => kv v st
    | .unsafeString, [p, .int .i64 n] => (unsafeStringA P (c.argTypes[0]?) p n).bind fun v => kv v st
    | _, _ => none
  | .value (.func g) => (H.ext g).bind fun F => (evs ev c.args.toList).bind fun args => (F args).bind fun v => kv v st
  | _ => none
def opK (op : Op) : Option R :=
  match op with
  | .move x | .assign x => (ev x).bind fun v => kv v st
  | .pick c a b => (ev c).bind fun vc => (boolV vc).bind fun t => (ev a).bind fun va => (ev b).bind fun vb => kv (pickV t va vb) st
  | .alloc t => (zeroA P t).bind fun z => if z.isTup then none else kv (.bp st.length 0) (homesA (compOf H f dst) (.box t z.cells :: st))
  | .box t x => (ev x).bind fun v => (szOf P t).bind fun n => withCells n v fun cs => kv (.bp st.length 0) (homesA (compOf H f dst) (.box t cs :: st))
  | .build t ps => (zeroA P t).bind fun z => if z.isTup then none else (placesT P t).bind fun pl => (evps ev ps.toList).bind fun ps => fillK pl ps z.cells fun cs => kv (.agg cs) st
  | .buildSlice t len ps => (elemT P t).bind fun e => e.2.2.bind fun z => (evps ev ps.toList).bind fun ps =>
    if z.cells.length = szk e.2.1 ∧ z.isTup = false ∧ len * szk e.2.1 ≤ 16777216 then
      rowsK (szk e.2.1) ps (List.replicate len z.cells) fun rows =>
      match homeK H f ev st base dst with
      | some (h, m) => bind2 (homeA st h m e.2.1 rows) kv
      | none => kv (.sl e.2.1 rows 0 len .exact) st
    else none
  | .load t a => (ev a).bind fun p => (aggT P t).bind fun ag => (szOf P t).bind fun n => (readA st p n ag).bind fun v => kv v st
  | .store t a x => (ev a).bind fun p => (ev x).bind fun v => (szOf P t).bind fun n => withCells n v fun cs => (writeA st p cs).bind ks
  | .nilCheck x => (ev x).bind fun v => (nilCheckA v).bind fun v => kv v st
  | .binOp op t x y _ => (ev x).bind fun a => (ev y).bind fun b => (binA P op t (isConst x || isConst y) a b).bind fun v => kv v st
  | .unOp op _ x => (ev x).bind fun a => (unA op a).bind fun v => kv v st
  | .convert s d x => (ev x).bind fun a => match convT P s d with
    | some q => (match q with | .bytes => if (homeOf H f ev st base dst).isSome then none else (convV st q a).bind fun v => kv v st | q => (convV st q a).bind fun v => kv v st)
    | none => bind2 (convA P st (homeK H f ev st base dst) s d a) kv
  | .makeInterface t x => if plainT P t then (ev x).bind fun v => kv (.iface t v) st else none
  | .makeFunc fn first cap => (funcA ev fn first cap).bind fun v => kv v st
  | .makeMap _ r => match r with | none => kv (.mp st.length) (.amap [] :: st) | some _ => none
  | .makeSlice t l c => (elemT P t).bind fun e => e.2.2.bind fun z => if z.cells.length = szk e.2.1 ∧ z.isTup = false then
      (ev l).bind fun l => (ev c).bind fun c => bind2 (makeSl st (homeK H f ev st base dst) e.1 e.2.1 z.cells l c) kv else none
  | .slice t x lo hi mx => (ev x).bind fun x => (ixT P t).bind fun q => match q with
    | .str => match mx with | none => optK ev lo fun lo => optK ev hi fun hi => (sliceStr x lo hi).bind fun v => kv v st | some _ => none
    | .sl n => optK ev lo fun lo => optK ev hi fun hi => optK ev mx fun mx => (sliceSl st n x lo hi mx).bind fun v => kv v st
    | _ => none
  | .fieldAddr t x i => (ev x).bind fun x => (fieldOff P t i).bind fun off => (ptrAdd off x).bind fun v => kv v st
  | .field t x i => (ev x).bind fun x => (fieldPart P t i).bind fun q => (aggV x).bind fun cs => (readRow cs q.2.2 q.2.1 q.1).bind fun v => kv v st
  | .indexAddr t x i => (ev x).bind fun x => (ev i).bind fun i => (natA i).bind fun j => (ixT P t).bind fun q => match q with
    | .sl n => (idxSl st n x j).bind fun v => kv v st
    | .arr len n _ => if j < len then (ptrAdd (j * n) x).bind fun v => kv v st else none
    | .str => none
  | .index t x i => (ev x).bind fun x => (ev i).bind fun i => (natA i).bind fun j => (ixT P t).bind fun q => match q with
    | .str => (strAt x j).bind fun v => kv v st
    | .arr len n ag => if j < len then (aggV x).bind fun cs => (readRow cs (j * n) n ag).bind fun v => kv v st else none
    | .sl _ => none
  | .lookup t x k ok => (ev x).bind fun x => (ev k).bind fun k => (lookupA P st t x k ok).bind fun v => kv v st
  | .mapUpdate t m k x => (ev m).bind fun m => (ev k).bind fun k => (ev x).bind fun x => (mapUpdateA P st t m k x).bind ks
  | .range t x => (ev x).bind fun x => bind2 (rangeA P st t x) kv
  | .next x isStr => (ev x).bind fun x => bind2 (nextA st isStr x) kv
  | .typeAssert x _ t ok => if plainT P t then (ev x).bind fun x => match zeroA P t with
      | some z => (assertV z x t ok).bind fun v => kv v st
      | none => if ok then none else (assertV .nili x t false).bind fun v => kv v st
    else none
  | .extract t i => (ev t).bind fun v => (extractA i v).bind fun v => kv v st
  | .call c => callBK P H f base ev st dst kv c
  | .defer c =>
    match c.callee with
    | .value x => (ev x).bind fun fv => (fnV fv).bind fun q => (evs ev c.args.toList).bind fun args => kd q.1 (args ++ q.2) st
    | _ => none
  | .panic x => (ev x).bind fun v => (panicV v).bind fun v => kp v st
  | _ => none
def stepK (o : Oper) : Option R :=
  match o.op with
  | .call c =>
    match c.callee with
    | .value x =>
      match x with
      | .func g => if (H.ext g).isSome then callBK P H f base ev st dst kv c else (evs ev c.args.toList).bind fun args => callB (callF g args st) kv kp
      | x => (ev x).bind fun fv => (fnV fv).bind fun q => if (H.ext q.1).isSome then none else (evs ev c.args.toList).bind fun args => callB (callF q.1 (args ++ q.2) st) kv kp
    | _ => callBK P H f base ev st dst kv c
  | op => opK P H f base ev st dst kv ks kd kp op
end op

/-- A value of a type, written as one of its kind. -/
def typK (t : TypeId) (v : AV) (k : AV → Option R) : Option R :=
  match kindT P t with
  | .bool => (boolV v).bind fun b => k (.bool b)
  | .int kd => (intV kd v).bind fun n => k (.int kd n)
  | .str => (strV v).bind fun s => k (.str s)
  | .other => k v
def guardK (ops : Array Oper) (loc : Env) (fr : Fr) (o : Oper) (yes no : Env → Fr → Option R) : Option R :=
  match o.guard with
  | none => yes loc fr
  | some (j, want) => ((ops[j]?).bind (·.dst)).bind fun d =>
    match Env.get loc d with
    | some v => guardB v want (fun v => yes (reput loc d v) fr) (fun v => no (reput loc d v) fr)
    | none => (Env.get fr.env d).bind fun v => guardB v want (fun v => yes loc { fr with env := reput fr.env d v }) (fun v => no loc { fr with env := reput fr.env d v })
def putK (dst : Option Tmp) (v : AV) (loc : Env) (fr : Fr) (k : Env → Fr → Option R) : Option R :=
  match dst with
  | none => k loc fr
  | some d => if (H.keep f).contains d then k loc { fr with env := Env.set fr.env d v } else k ((d, v) :: loc) fr
/-- What an operation's value does to the frame. -/
def landK (dst : Option Tmp) (v : AV) (st : St) (loc : Env) (fr : Fr) (k : Env → Fr → St → Option R) : Option R :=
  match dst with
  | none => k loc fr st
  | some d => if H.frz f d then bind2 (freezeA st v) fun v st => putK H f dst v loc fr fun loc fr => k loc fr st else putK H f dst v loc fr fun loc fr => k loc fr st
def opsK (ops : Array Oper) : List Oper → Env → Fr → St → (AX → Fr → St → Option R) → Option R
  | [], _, fr, st, k => k .normal fr st
  | o :: rest, loc, fr, st, k =>
    guardK ops loc fr o
      (fun loc fr => stepK P H callF f base (evO H loc fr.env) st o.dst
        (fun v st => typK P o.type v fun v => landK H f o.dst v st loc fr fun loc fr st => opsK ops rest loc fr st k)
        (fun st => putK H f o.dst undefA loc fr fun loc fr => opsK ops rest loc fr st k)
        (fun g as st => putK H f o.dst undefA loc fr fun loc fr => opsK ops rest loc { fr with defers := (g, as) :: fr.defers } st k)
        (fun v st => k (.panic v) fr st) o)
      (fun loc fr => putK H f o.dst undefA loc fr fun loc fr => opsK ops rest loc fr st k)
def opsDK (ops : Array Oper) : List Oper → Env → Fr → St → List St → Nat → (AX → Env → Fr → St → List St → Nat → Option R) → Option R
  | [], loc, fr, st, tr, n, k => k .normal loc fr st tr n
  | o :: rest, loc, fr, st, tr, n, k =>
    guardK ops loc fr o
      (fun loc fr => stepK P H callF f base (evO H loc fr.env) st o.dst
        (fun v st => typK P o.type v fun v => landK H f o.dst v st loc fr fun loc fr st => opsDK ops rest loc fr st (if isE o.op then st :: tr else tr) (n + 1) k)
        (fun st => putK H f o.dst undefA loc fr fun loc fr => opsDK ops rest loc fr st (if isE o.op then st :: tr else tr) (n + 1) k)
        (fun g as st => putK H f o.dst undefA loc fr fun loc fr => opsDK ops rest loc { fr with defers := (g, as) :: fr.defers } st (if isE o.op then st :: tr else tr) (n + 1) k)
        (fun v st => k (.panic v) loc fr st tr n) o)
      (fun loc fr => putK H f o.dst undefA loc fr fun loc fr => opsDK ops rest loc fr st (if isE o.op then st :: tr else tr) (n + 1) k)
/-- A look made again: where it must be one that does not go to the objects, that alone is asked. -/
def againK (P : Program) (H : Hints) (f : FuncId) (base : Nat) (ops : Array Oper) (loc env : Env) (tr : List St) (k : Nat) (x : Nat × Nat × Nat) : Bool :=
  if k ≤ x.1 then true else
  match ops[x.1]? with
  | none => false
  | some o =>
    match wantA ops loc env o with
    | some false => true
    | none => false
    | some true =>
      match o.op with
      | .slice .. => stillOp (evO H loc env) o.op && o.dst.isSome
      | .indexAddr .. => stillOp (evO H loc env) o.op && o.dst.isSome
      | .call .. => stillOp (evO H loc env) o.op && o.dst.isSome
      | _ => again1 P H f base ops loc env tr k x
def offEnv (ops : Array Oper) (env : Env) : Env := env.filter fun p => !(ops.toList.any fun o => o.dst == some p.1)
def regionK (id : Nat) (ops : Array Oper) (draw : Bool) (fr : Fr) (st : St) (k : AX → Fr → St → Option R) : Option R :=
  if draw then
    if (H.recheck f id).isEmpty then
      opsK P H callF f base ops ops.toList [] fr st fun ax fr' st' => match ax with
        | .panic v => if H.pok f id then k (.panic v) { fr' with env := offEnv ops fr.env } st' else none
        | ax => k ax fr' st'
    else
      opsDK P H callF f base ops ops.toList [] fr st [st] 0 fun ax loc fr' st' tr n =>
        if (H.recheck f id).all (againK P H f base ops loc fr'.env tr n) then
          match ax with
          | .panic v => if H.pok f id then k (.panic v) { fr' with env := offEnv ops fr.env } st' else none
          | ax => k ax fr' st'
        else none
  else opsK P H callF f base ops ops.toList [] fr st k

def execK : Code → Fr → St → (AX → Fr → St → Option R) → Option R
  | .skip, fr, st, k => k .normal fr st
  | .label _, fr, st, k => k .normal fr st
  | .region id ops draw, fr, st, k => regionK P H callF f base id ops draw fr st k
  | .seq a b, fr, st, k => execK a fr st fun ax fr st => match ax with | .normal => execK b (liveF H f b fr) st k | ax => k ax fr st
  | .cond c a b, fr, st, k => (evO H [] fr.env c).bind fun v => match c with
    | .tmp t => condB v (fun v => execK a { fr with env := reput fr.env t v } st k) (fun v => execK b { fr with env := reput fr.env t v } st k)
    | _ => condB v (fun _ => execK a fr st k) (fun _ => execK b fr st k)
  | .block id body, fr, st, k => execK body fr st fun ax fr st => match ax with | .exit i => if i = id then k .normal fr st else k (.exit i) fr st | ax => k ax fr st
  | .loop body, fr, st, k => headB (again (.round body) fr st) k
  | .scope body, fr, st, k => execK body fr st fun ax fr st => match ax with
    | .goto l => match findLabel body l with | some rest => headB (again (.resume body rest) fr st) k | none => k (.goto l) fr st
    | ax => k ax fr st
  | .exit id, fr, st, k => k (.exit id) fr st
  | .goto l, fr, st, k => k (.goto l) fr st
  | .ret, fr, st, k => k .ret fr st
  | .rangeFunc .., _, _, _ => none
  | .refuse _, _, _, _ => none
/-- Behind a loop's round that began with n objects. -/
def loopK (body : Code) (n : Nat) (k : AX → Fr → St → Option R) : AX → Fr → St → Option R := fun ax fr st => match ax with
  | .normal => if H.loopKeep f then headB (again (.round body) (liveF H f body fr) st) k else (roundV n (liveF H f body fr) st).bind fun e => headB (again (.round body) e.1 e.2) k
  | ax => k ax fr st
/-- Behind a scope's code. -/
def scopeK (body : Code) (k : AX → Fr → St → Option R) : AX → Fr → St → Option R := fun ax fr st => match ax with
  | .goto l => match findLabel body l with | some rest => headB (again (.resume body rest) fr st) k | none => k (.goto l) fr st
  | ax => k ax fr st
end run

/-- A result is handed out. -/
def outL (ko : Bool) (n : Nat) (r : AOut) (st : St) : Option (AOut × St) :=
  if ko || st.length == n then some (r, st) else
  match r with
  | .ret v => let v' := AV.stripR n v; if AV.closed n v' && St.closed n (st.trunc n) then some (.ret v', st.trunc n) else none
  | .pan v => if AV.closed n v && St.closed n (st.trunc n) then some (.pan v, st.trunc n) else none

section call
variable (P : Program) (H : Hints) (callF : CallF0) (again : FuncId → Nat → AgainF0)
def outV1 (vs : List AV) : AV := match vs with | [v] => v | vs => .tup vs
/-- At a function's end. -/
def endK (g : FuncId) (fn : Func) (base : Nat) : AX → Fr → St → Option (AOut × St) := fun ax fr st =>
  match ax with
  | .normal | .ret =>
    (match fr.defers with
    | [] => (resultsA P fr.env st fn.results.toList).bind fun vs => outL (H.keepObj g) base (.ret (outV1 vs)) st
    | ds => (leaveA P (callDA P H callF again) fn fr.env ds .ret st).bind fun o => outL (H.keepObj g) base o.1 o.2)
  | .panic v =>
    (match fr.defers with
    | [] => outL (H.keepObj g) base (.pan v) st
    | ds => (leaveA P (callDA P H callF again) fn fr.env ds (.pan v) st).bind fun o => outL (H.keepObj g) base o.1 o.2)
  | _ => none
def callK (g : FuncId) (args : List AV) (st : St) : Option (AOut × St) :=
  match H.prim g with
  | some _ => none
  | none =>
    (P.funcs[g]?).bind fun fn => fn.body.bind fun c =>
    if args.length ≤ fn.params.size + fn.nfree then execK P H callF (again g st.length) g st.length c ⟨entry args, []⟩ (homesA (H.homes g) st) (endK P H callF again g fn st.length)
    else none
end call
end Go.Abs

/- The interpreter by value with what comes behind as a function: it says no more than the interpreter. Operations. -/
namespace Go.Abs
open Go
set_option linter.unusedVariables false
set_option linter.unusedSimpArgs false

section
variable {R : Type} {P : Program} {H : Hints} {callF : CallF0} {again : AgainF0} {f : FuncId} {base : Nat}
variable {ev : Operand → Option AV} {st : St} {dst : Option Tmp} {kv : AV → St → Option R} {ks : St → Option R} {kd : FuncId → List AV → St → Option R} {kp : AV → St → Option R} {r : R}

/-- What a result is handed on to. -/
def resK (kv : AV → St → Option R) (ks : St → Option R) (kd : FuncId → List AV → St → Option R) (kp : AV → St → Option R) (q : Res × St) : Option R :=
  match q.1 with
  | .val v => kv v q.2
  | .skip => ks q.2
  | .defer g as => kd g as q.2
  | .pan v => kp v q.2

theorem pickV_eq (t : Bool) (a b : AV) : pickV t a b = if t then a else b := by
  unfold pickV
  split
  · cases t <;> rfl
  · rfl
theorem boolV_some {v : AV} {t : Bool} (h : boolV v = some t) : v = .bool t := by
  unfold boolV at h; split at h <;> simp at h; subst h; rfl
theorem cell1_some {v c : AV} (h : cell1 v = some c) : v.cells = [c] ∧ v.isTup = false := by
  unfold cell1 at h
  split at h
  · split at h <;> simp at h
    subst h; exact ⟨rfl, rfl⟩
  · simp at h
  · simp only [Option.some.injEq] at h
    subst h
    cases v <;> simp_all [AV.cells, AV.isTup]
theorem withCells_some {n : Nat} {v : AV} {k : List AV → Option R} (h : withCells n v k = some r) : v.cells.length = n ∧ v.isTup = false ∧ k v.cells = some r := by
  unfold withCells at h
  split at h
  · obtain ⟨c, hc, h2⟩ := Option.bind_eq_some_iff.1 h
    obtain ⟨h3, h4⟩ := cell1_some hc
    rw [h3]; subst n; exact ⟨rfl, h4, h2⟩
  · obtain ⟨c, hc, h2⟩ := Option.bind_eq_some_iff.1 h
    unfold cellsV at hc
    split at hc
    · rename_i hh
      simp only [Option.some.injEq] at hc; subst hc
      exact ⟨hh.1, hh.2, h2⟩
    · simp at hc
theorem aggV_some {v : AV} {cs : List AV} (h : aggV v = some cs) : v = .agg cs := by
  unfold aggV at h; split at h <;> simp at h; subst h; rfl
theorem panicV_some {v w : AV} (h : panicV v = some w) : ∃ t x, v = .iface t x ∧ w = .iface t x := by
  unfold panicV at h; split at h <;> simp at h; exact ⟨_, _, rfl, h.symm⟩
theorem fnV_some {v : AV} {q : FuncId × List AV} (h : fnV v = some q) : v = .fn q.1 q.2 := by
  unfold fnV at h; split at h <;> simp at h; subst h; rfl

theorem fillA_mono {p p' : Nat → Option (Nat × Nat)} (h : ∀ i x, p i = some x → p' i = some x) : ∀ {ps : List (Nat × AV)} {cs cs' : List AV}, fillA p cs ps = some cs' → fillA p' cs ps = some cs'
  | [], cs, cs', hf => hf
  | (i, v) :: rest, cs, cs', hf => by
    simp only [fillA] at hf ⊢
    obtain ⟨x, hx, h2⟩ := Option.bind_eq_some_iff.1 hf
    rw [h i x hx]
    simp only [Option.bind_some]
    split at h2
    · rename_i hc
      rw [if_pos hc]
      obtain ⟨c, hc, h3⟩ := Option.bind_eq_some_iff.1 h2
      rw [hc]
      exact fillA_mono h h3
    · simp at h2
theorem fillK_some {pl : List (Nat × Nat)} {k : List AV → Option R} : ∀ {ps : List (Nat × AV)} {cs : List AV}, fillK pl ps cs k = some r → ∃ cs', fillA (fun i => pl[i]?) cs ps = some cs' ∧ k cs' = some r
  | [], cs, h => ⟨cs, rfl, h⟩
  | (i, v) :: rest, cs, h => by
    simp only [fillK] at h
    obtain ⟨x, hx, h2⟩ := Option.bind_eq_some_iff.1 h
    obtain ⟨h3, h4, h5⟩ := withCells_some h2
    obtain ⟨c, hc, h6⟩ := Option.bind_eq_some_iff.1 h5
    obtain ⟨cs', h7, h8⟩ := fillK_some h6
    refine ⟨cs', ?_, h8⟩
    simp only [fillA, hx, Option.bind_some]
    rw [if_pos ⟨h3, h4⟩, hc]
    exact h7
theorem rowsK_some {sz : Nat} {k : List (List AV) → Option R} : ∀ {ps : List (Nat × AV)} {rows : List (List AV)}, rowsK sz ps rows k = some r → ∃ rows', rowsPut sz rows ps = some rows' ∧ k rows' = some r
  | [], rows, h => ⟨rows, rfl, h⟩
  | (i, v) :: rest, rows, h => by
    simp only [rowsK] at h
    split at h
    · rename_i hi
      obtain ⟨h3, h4, h5⟩ := withCells_some h
      obtain ⟨rows', h6, h7⟩ := rowsK_some h5
      refine ⟨rows', ?_, h7⟩
      simp only [rowsPut]
      rw [if_pos ⟨hi, h3, h4⟩]; exact h6
    · simp at h

theorem mapM_get {α β : Type} {g : α → Option β} : ∀ {l : List α} {l' : List β}, l.mapM g = some l' → ∀ i : Nat, l'[i]? = (l[i]?).bind g
  | [], l', h, i => by simp at h; subst h; simp
  | a :: l, l', h, i => by
    rw [List.mapM_cons] at h
    obtain ⟨b, hb, h2⟩ := Option.bind_eq_some_iff.1 h
    obtain ⟨bs, hbs, h3⟩ := Option.bind_eq_some_iff.1 h2
    simp only [Option.pure_def, Option.some.injEq] at h3
    subst h3
    cases i with
    | zero => simp [hb]
    | succ i => simpa using mapM_get hbs i

theorem buildA_of {t : TypeId} {z : AV} {pl : List (Nat × Nat)} {ps : List (Nat × AV)} {cs : List AV} (hz : zeroA P t = some z) (hzt : z.isTup = false) (hpl : placesT P t = some pl) (hf : fillA (fun i => pl[i]?) z.cells ps = some cs) :
    buildA P t ps = some (.agg cs) := by
  unfold buildA
  rw [hz]
  simp only [Option.bind_some, hzt, Bool.false_eq_true, if_false]
  unfold placesT at hpl
  split at hpl
  · rename_i fields hu
    have hg := mapM_get hpl
    rw [hu]
    simp only
    rw [if_pos, fillA_mono (p' := fun i => (fields[i]?).bind fun f => (szOf P f.type).map fun s => (f.offset, s)) (fun i x hx => by
      rw [hg i] at hx; simpa using hx) hf]
    · rfl
    · refine List.all_eq_true.2 fun f hfm => ?_
      obtain ⟨i, hi, rfl⟩ := List.mem_iff_getElem.1 hfm
      have := hg i
      cases hs : szOf P (fields.toList[i]).type with
      | some s => rfl
      | none =>
        rw [List.getElem?_eq_getElem hi] at this
        simp only [Option.bind_some, hs, Option.map_none] at this
        have hlen : ∀ {α β : Type} {g : α → Option β} {l : List α} {l' : List β}, l.mapM g = some l' → l'.length = l.length := by
          intro α β g l
          induction l with
          | nil => intro l' h; simp at h; subst h; rfl
          | cons a l ih =>
            intro l' h
            rw [List.mapM_cons] at h
            obtain ⟨b, hb, h2⟩ := Option.bind_eq_some_iff.1 h
            obtain ⟨bs, hbs, h3⟩ := Option.bind_eq_some_iff.1 h2
            simp only [Option.pure_def, Option.some.injEq] at h3
            subst h3
            simp [ih hbs]
        have := hlen hpl
        have h4 : pl[i]? = none := by assumption
        rw [List.getElem?_eq_none_iff] at h4
        omega
  · rename_i n e hu
    obtain ⟨s, hs, rfl⟩ := Option.map_eq_some_iff.1 hpl
    rw [hu]
    simp only [hs, Option.bind_some]
    rw [fillA_mono (p' := fun i => some (i * s, s)) (fun i x hx => by
      rw [List.getElem?_map] at hx
      obtain ⟨j, hj, rfl⟩ := Option.map_eq_some_iff.1 hx
      have := List.getElem?_eq_some_iff.1 hj
      obtain ⟨h1, h2⟩ := this
      simp at h2
      rw [h2]) hf]
    rfl
  · simp at hpl

theorem ldA_read (st : St) (t : TypeId) (p : AV) : ldA P st t p = (aggT P t).bind fun ag => (szOf P t).bind fun n => readA st p n ag := by
  unfold ldA readA; rfl
theorem stA_write {st : St} {t : TypeId} {p v : AV} {n : Nat} (hn : szOf P t = some n) (h1 : v.cells.length = n) (h2 : v.isTup = false) : stA P st t p v = writeA st p v.cells := by
  unfold stA writeA
  rw [hn]
  simp only [Option.bind_some]
  rw [if_pos ⟨h1, h2⟩]
  rfl
theorem elemT_some {t : TypeId} {e : Nat × Nat × Option AV} (h : elemT P t = some e) : ∃ et i, P.underlying t = some (.slice et) ∧ P.info? et = some i ∧ kdOf P et = some e.2.1 ∧ e.1 = i.bytes ∧ e.2.2 = zeroA P et := by
  unfold elemT at h
  split at h
  · rename_i et hu
    obtain ⟨i, hi, h2⟩ := Option.bind_eq_some_iff.1 h
    obtain ⟨kd, hk, rfl⟩ := Option.map_eq_some_iff.1 h2
    exact ⟨et, i, hu, hi, hk, rfl, rfl⟩
  · simp at h

theorem callBK_le {c : Call} (h : callBK P H f base ev st dst kv c = some r) : ∃ v s, callBA P H f ev st base dst c = some (.val v, s) ∧ kv v s = some r := by
  unfold callBK at h
  simp only [homeK_eq] at h
  unfold callBA
  split at h
  · rename_i b hc
    rw [hc]
    simp only
    obtain ⟨args, ha, h2⟩ := Option.bind_eq_some_iff.1 h
    rw [ha]
    simp only [Option.bind_some]
    split at h2
    · rename_i s x
      obtain ⟨t, ht, h3⟩ := Option.bind_eq_some_iff.1 h2
      split at h3
      · simp at h3
      · simp at h3
      · rename_i hn1 hn2
        obtain ⟨e, he, h4⟩ := Option.bind_eq_some_iff.1 h3
        split at h4
        · rename_i hnull
          obtain ⟨q, hq, h5⟩ := Option.bind_eq_some_iff.1 h4
          refine ⟨q.1, q.2, ?_, h5⟩
          obtain ⟨et, i, e1, e2, e3, e4, e5⟩ := elemT_some he
          have hn : nullOk P et e.2.1 = true := by
            unfold nullOk; rw [← e5]
            unfold okNull at hnull
            exact hnull
          have happ : appendA P st (homeOf H f ev st base dst) t s x = some q := by
            unfold appendA
            rw [e1]
            simp only [e2, e3, Option.bind_some, hn, if_true]
            rw [← e4]
            exact hq
          unfold builtinA
          simp only [ht, Option.bind_some, happ]
          cases hu1 : (c.argTypes[1]?).bind P.underlying with
          | none => exact absurd hu1 hn2
          | some d =>
            cases d <;> first | rfl | exact absurd hu1 (hn1 _)
        · simp at h4
    · rename_i x
      obtain ⟨t, ht, h3⟩ := Option.bind_eq_some_iff.1 h2
      obtain ⟨q, hq, h4⟩ := Option.bind_eq_some_iff.1 h3
      obtain ⟨v, hv, h5⟩ := Option.bind_eq_some_iff.1 h4
      refine ⟨v, st, ?_, h5⟩
      have : lenA P st t x = some v := by
        unfold lenT at hq
        unfold lenA
        split at hq <;> first | (simp only [Option.some.injEq] at hq; subst hq) | (simp at hq; done)
        · rename_i hu; simp only [lenV, lenStr] at hv; split at hv <;> simp_all
        · rename_i hu; rw [hu]; exact hv
        · rename_i hu; simp only [lenV, lenSl] at hv; split at hv <;> simp_all
        · rename_i hu
          simp only [lenV, lenMap] at hv
          split at hv
          · rw [hu]; exact hv
          · rw [hu]; exact hv
          · simp at hv
      unfold builtinA
      simp only [ht, Option.bind_some, this, Option.map_some]
    · rename_i d s
      obtain ⟨t, ht, h3⟩ := Option.bind_eq_some_iff.1 h2
      obtain ⟨e, he, h4⟩ := Option.bind_eq_some_iff.1 h3
      obtain ⟨q, hq, h5⟩ := Option.bind_eq_some_iff.1 h4
      refine ⟨q.1, q.2, ?_, h5⟩
      obtain ⟨et, i, e1, e2, e3, e4, e5⟩ := elemT_some he
      have : copyA P st t d s = some q := by
        unfold copyA
        rw [e1]
        simp only [e3, Option.bind_some]
        exact hq
      unfold builtinA
      simp only [ht, Option.bind_some, this, Option.map_some]
    · rename_i x r'
      obtain ⟨v, hv, h3⟩ := Option.bind_eq_some_iff.1 h2
      exact ⟨v, st, by simp only [builtinA, hv, Option.map_some], h3⟩
    · rename_i x r'
      obtain ⟨v, hv, h3⟩ := Option.bind_eq_some_iff.1 h2
      exact ⟨v, st, by simp only [builtinA, hv, Option.map_some], h3⟩
    · obtain ⟨v, hv, h3⟩ := Option.bind_eq_some_iff.1 h2
      exact ⟨v, st, by simp only [builtinA, hv, Option.map_some], h3⟩
    · obtain ⟨v, hv, h3⟩ := Option.bind_eq_some_iff.1 h2
      exact ⟨v, st, by simp only [builtinA, hv, Option.map_some], h3⟩
    · simp at h2
  · rename_i g hc
    rw [hc]
    simp only
    obtain ⟨F, hF, h2⟩ := Option.bind_eq_some_iff.1 h
    obtain ⟨args, ha, h3⟩ := Option.bind_eq_some_iff.1 h2
    obtain ⟨v, hv, h4⟩ := Option.bind_eq_some_iff.1 h3
    exact ⟨v, st, by simp only [hF, ha, Option.bind_some, vA, hv, Option.map_some], h4⟩
  · simp at h

theorem opK_le {op : Op} (h : opK P H f base ev st dst kv ks kd kp op = some r) : ∃ q, opA P H f ev st base dst op = some q ∧ resK kv ks kd kp q = some r := by
  cases op <;> simp only [opK, homeK_eq] at h <;> try (simp at h; done)
  case move x =>
    obtain ⟨v, hv, h2⟩ := Option.bind_eq_some_iff.1 h
    exact ⟨(.val v, st), by simp only [opA, vA, hv, Option.map_some], h2⟩
  case assign x =>
    obtain ⟨v, hv, h2⟩ := Option.bind_eq_some_iff.1 h
    exact ⟨(.val v, st), by simp only [opA, vA, hv, Option.map_some], h2⟩
  case pick c a b =>
    obtain ⟨vc, hc, h2⟩ := Option.bind_eq_some_iff.1 h
    obtain ⟨t, ht, h3⟩ := Option.bind_eq_some_iff.1 h2
    obtain ⟨va, ha, h4⟩ := Option.bind_eq_some_iff.1 h3
    obtain ⟨vb, hb, h5⟩ := Option.bind_eq_some_iff.1 h4
    have := boolV_some ht
    subst this
    rw [pickV_eq] at h5
    refine ⟨(.val (if t then va else vb), st), ?_, h5⟩
    simp only [opA, vA, pickA, hc, Option.bind_some]
    cases t
    · simp [hb]
    · simp [ha]
  case alloc t =>
    obtain ⟨z, hz, h2⟩ := Option.bind_eq_some_iff.1 h
    split at h2
    · simp at h2
    · rename_i hn
      exact ⟨(.val (.bp st.length 0), homesA (compOf H f dst) (.box t z.cells :: st)), by simp only [opA, vsA, allocA, hz, Option.bind_some, if_neg hn, Option.map_some, madeA], h2⟩
  case box t x =>
    obtain ⟨v, hv, h2⟩ := Option.bind_eq_some_iff.1 h
    obtain ⟨n, hn, h3⟩ := Option.bind_eq_some_iff.1 h2
    obtain ⟨h4, h5, h6⟩ := withCells_some h3
    exact ⟨(.val (.bp st.length 0), homesA (compOf H f dst) (.box t v.cells :: st)), by simp only [opA, vsA, boxA, hv, Option.bind_some, h5, Bool.false_eq_true, if_false, Option.map_some, madeA], h6⟩
  case build t ps =>
    obtain ⟨z, hz, h2⟩ := Option.bind_eq_some_iff.1 h
    split at h2
    · simp at h2
    · rename_i hn
      obtain ⟨pl, hpl, h3⟩ := Option.bind_eq_some_iff.1 h2
      obtain ⟨qs, hq, h4⟩ := Option.bind_eq_some_iff.1 h3
      obtain ⟨cs, hcs, h5⟩ := fillK_some h4
      refine ⟨(.val (.agg cs), st), ?_, h5⟩
      simp only [opA, vA, buildOA, hq, Option.bind_some, buildA_of hz (by simpa using hn) hpl hcs, Option.map_some]
  case buildSlice t len ps =>
    obtain ⟨e, he, h2⟩ := Option.bind_eq_some_iff.1 h
    obtain ⟨z, hz, h3⟩ := Option.bind_eq_some_iff.1 h2
    obtain ⟨qs, hq, h4⟩ := Option.bind_eq_some_iff.1 h3
    obtain ⟨et, i, e1, e2, e3, e4, e5⟩ := elemT_some he
    split at h4
    · rename_i hc
      obtain ⟨rows, hr, h5⟩ := rowsK_some h4
      rw [e5] at hz
      simp only [opA, vsA, buildSliceA, e1, e3, hz, hq, Option.bind_some, literalA]
      rw [if_pos hc, hr]
      simp only [Option.bind_some]
      split at h5
      · rename_i hm m hh
        obtain ⟨q, hq2, h6⟩ := Option.bind_eq_some_iff.1 h5
        exact ⟨(.val q.1, q.2), by simp only [hh, hq2, Option.map_some], h6⟩
      · rename_i hh
        exact ⟨(.val (.sl e.2.1 rows 0 len .exact), st), by simp only [hh, Option.map_some], h5⟩
    · simp at h4
  case load t a =>
    obtain ⟨p, hp, h2⟩ := Option.bind_eq_some_iff.1 h
    obtain ⟨ag, hag, h3⟩ := Option.bind_eq_some_iff.1 h2
    obtain ⟨n, hn, h4⟩ := Option.bind_eq_some_iff.1 h3
    obtain ⟨v, hv, h5⟩ := Option.bind_eq_some_iff.1 h4
    refine ⟨(.val v, st), ?_, h5⟩
    simp only [opA, vA, hp, Option.bind_some, ldA_read, hag, hn, hv, Option.map_some]
  case store t a x =>
    obtain ⟨p, hp, h2⟩ := Option.bind_eq_some_iff.1 h
    obtain ⟨v, hv, h3⟩ := Option.bind_eq_some_iff.1 h2
    obtain ⟨n, hn, h4⟩ := Option.bind_eq_some_iff.1 h3
    obtain ⟨h5, h6, h7⟩ := withCells_some h4
    obtain ⟨s, hs, h8⟩ := Option.bind_eq_some_iff.1 h7
    refine ⟨(.skip, s), ?_, h8⟩
    simp only [opA, usA, storeOA, hp, hv, Option.bind_some, stA_write hn h5 h6, hs, Option.map_some]
  case nilCheck x =>
    obtain ⟨v, hv, h2⟩ := Option.bind_eq_some_iff.1 h
    obtain ⟨u, hu, h3⟩ := Option.bind_eq_some_iff.1 h2
    exact ⟨(.val u, st), by simp only [opA, vA, hv, hu, Option.bind_some, Option.map_some], h3⟩
  case binOp op t x y ty =>
    obtain ⟨a, ha, h2⟩ := Option.bind_eq_some_iff.1 h
    obtain ⟨b, hb, h3⟩ := Option.bind_eq_some_iff.1 h2
    obtain ⟨v, hv, h4⟩ := Option.bind_eq_some_iff.1 h3
    exact ⟨(.val v, st), by simp only [opA, vA, binOA, ha, hb, hv, Option.bind_some, Option.map_some], h4⟩
  case unOp op ty x =>
    obtain ⟨a, ha, h2⟩ := Option.bind_eq_some_iff.1 h
    obtain ⟨v, hv, h3⟩ := Option.bind_eq_some_iff.1 h2
    exact ⟨(.val v, st), by simp only [opA, vA, ha, hv, Option.bind_some, Option.map_some], h3⟩
  case convert s d x =>
    obtain ⟨a, ha, h2⟩ := Option.bind_eq_some_iff.1 h
    have key : ∀ {q : ConvT} {v : AV}, convT P s d = some q → (q.ctorIdx = ConvT.bytes.ctorIdx → (homeOf H f ev st base dst).isSome = false) → convV st q a = some v → convA P st (homeOf H f ev st base dst) s d a = some (v, st) := by
      intro q v hq hh hv
      unfold convT at hq
      unfold convA
      split at hq
      · rename_i k' k hs hd
        simp only [Option.some.injEq] at hq; subst hq
        rw [hs, hd]
        simp only
        unfold convV at hv
        split at hv <;> simp_all
      · rename_i hs hd
        simp only [Option.some.injEq] at hq; subst hq
        rw [hs, hd]
        simp only
        unfold convV at hv
        split at hv <;> simp_all
      · rename_i e hs hd
        rw [hs, hd]
        simp only
        split at hq
        · rename_i hu
          split at hq
          · rename_i hce
            simp only [Option.some.injEq] at hq; subst hq
            have hh' := hh rfl
            simp only [convV, bytesV] at hv
            split at hv
            · simp only [Option.some.injEq] at hv
              subst hv
              simp [hu, hce, hh']
            · simp at hv
          · simp at hq
        · simp at hq
      · rename_i e hs hd
        rw [hs, hd]
        simp only
        split at hq
        · rename_i hu
          simp only [Option.some.injEq] at hq; subst hq
          rw [hu]
          simp only [convV, strOf] at hv
          simp only
          split at hv
          · simp at hv
          · obtain ⟨rs, hrs, h3⟩ := Option.bind_eq_some_iff.1 hv
            obtain ⟨bs, hbs, rfl⟩ := Option.map_eq_some_iff.1 h3
            simp only [hrs, hbs, Option.bind_some, Option.map_some]
        · simp at hq
      · simp at hq
    split at h2
    · rename_i q hq
      split at h2
      · split at h2
        · simp at h2
        · rename_i hh
          obtain ⟨v, hv, h3⟩ := Option.bind_eq_some_iff.1 h2
          exact ⟨(.val v, st), by simp only [opA, vsA, convOA, ha, Option.bind_some, key hq (fun _ => by simpa using hh) hv, Option.map_some], h3⟩
      · rename_i hne
        obtain ⟨v, hv, h3⟩ := Option.bind_eq_some_iff.1 h2
        exact ⟨(.val v, st), by simp only [opA, vsA, convOA, ha, Option.bind_some, key hq (fun e => by cases q <;> simp_all [ConvT.ctorIdx]) hv, Option.map_some], h3⟩
    · obtain ⟨q, hq, h3⟩ := Option.bind_eq_some_iff.1 h2
      exact ⟨(.val q.1, q.2), by simp only [opA, vsA, convOA, ha, Option.bind_some, hq, Option.map_some], h3⟩
  case makeInterface t x =>
    split at h
    · rename_i hp
      obtain ⟨v, hv, h2⟩ := Option.bind_eq_some_iff.1 h
      refine ⟨(.val (.iface t v), st), ?_, h2⟩
      simp only [opA, vA, ifaceA]
      unfold plainT at hp
      split at hp
      · simp at hp
      · rename_i q hu hnu
        rw [hnu]
        cases q <;> first | (exact (hu _ rfl).elim) | (simp only [hv, Option.map_some])
      · simp at hp
    · simp at h
  case makeFunc fn first cap =>
    obtain ⟨v, hv, h2⟩ := Option.bind_eq_some_iff.1 h
    exact ⟨(.val v, st), by simp only [opA, vA, hv, Option.map_some], h2⟩
  case makeMap t x =>
    split at h
    · exact ⟨(.val (.mp st.length), .amap [] :: st), rfl, h⟩
    · simp at h
  case makeSlice t l c =>
    obtain ⟨e, he, h2⟩ := Option.bind_eq_some_iff.1 h
    obtain ⟨z, hz, h3⟩ := Option.bind_eq_some_iff.1 h2
    obtain ⟨et, i, e1, e2, e3, e4, e5⟩ := elemT_some he
    rw [e5] at hz
    split at h3
    · rename_i hc
      obtain ⟨lv, hl, h4⟩ := Option.bind_eq_some_iff.1 h3
      obtain ⟨cv, hcv, h5⟩ := Option.bind_eq_some_iff.1 h4
      obtain ⟨q, hq, h6⟩ := Option.bind_eq_some_iff.1 h5
      refine ⟨(.val q.1, q.2), ?_, h6⟩
      have : makeSliceA P st (homeOf H f ev st base dst) t lv cv = some q := by
        unfold makeSl at hq
        split at hq
        · rename_i l c
          unfold makeSliceA
          rw [e1]
          simp only [e2, e3, hz, Option.bind_some]
          split at hq
          · rename_i hb
            rw [if_pos ⟨hb.1, hb.2.1, by rw [← e4]; exact hb.2.2.1, hb.2.2.2, hc.1, hc.2⟩]
            exact hq
          · simp at hq
        · simp at hq
      simp only [opA, vsA, makeSliceOA, hl, hcv, Option.bind_some, this, Option.map_some]
    · simp at h3
  case slice t x lo hi mx =>
    obtain ⟨xv, hx, h2⟩ := Option.bind_eq_some_iff.1 h
    obtain ⟨q, hq, h3⟩ := Option.bind_eq_some_iff.1 h2
    have optK_some : ∀ {o : Option Operand} {k : Option AV → Option R}, optK ev o k = some r → (∃ vs, evs ev o.toList = some vs) ∧ k (o.bind ev) = some r := by
      intro o k ho
      cases o with
      | none => exact ⟨⟨[], rfl⟩, ho⟩
      | some o =>
        obtain ⟨v, hv, h4⟩ := Option.bind_eq_some_iff.1 ho
        exact ⟨⟨[v], by simp [evs, hv]⟩, by simpa [hv] using h4⟩
    have evs_app : ∀ {a b : List Operand} {va vb : List AV}, evs ev a = some va → evs ev b = some vb → evs ev (a ++ b) = some (va ++ vb) := by
      intro a
      induction a with
      | nil => intro b va vb h1 h2; simp [evs] at h1; subst h1; simpa using h2
      | cons x a ih =>
        intro b va vb h1 h2
        simp only [evs] at h1
        obtain ⟨v, hv, h4⟩ := Option.bind_eq_some_iff.1 h1
        obtain ⟨vs, hvs, rfl⟩ := Option.map_eq_some_iff.1 h4
        simp only [List.cons_append, evs, hv, Option.bind_some, ih hvs h2, Option.map_some]
    unfold ixT at hq
    split at hq
    · rename_i et hu
      obtain ⟨kdv, hkd, rfl⟩ := Option.map_eq_some_iff.1 hq
      simp only at h3
      obtain ⟨⟨v1, g1⟩, h4⟩ := optK_some h3
      obtain ⟨⟨v2, g2⟩, h5⟩ := optK_some h4
      obtain ⟨⟨v3, g3⟩, h6⟩ := optK_some h5
      obtain ⟨v, hv, h7⟩ := Option.bind_eq_some_iff.1 h6
      refine ⟨(.val v, st), ?_, h7⟩
      have : sliceA P st t xv (lo.bind ev) (hi.bind ev) (mx.bind ev) = some v := by
        unfold sliceSl at hv
        unfold sliceA
        rw [hu]
        split at hv
        · simp only
          have : (szOf P et).isSome = true := by
            unfold kdOf at hkd
            unfold szOf
            split at hkd
            · obtain ⟨i, hi, _⟩ := Option.bind_eq_some_iff.1 hkd; simp [hi]
            · obtain ⟨i, hi, _⟩ := Option.bind_eq_some_iff.1 hkd; simp [hi]
            · simp at hkd
          obtain ⟨s, hs⟩ := Option.isSome_iff_exists.1 this
          rw [hs]; exact hv
        · simp only [hkd, Option.bind_some]; exact hv
        · simp only [hkd, Option.bind_some]; exact hv
        · simp at hv
      simp only [opA, vA, sliceOA, hx, Option.bind_some, evs_app (evs_app g1 g2) g3, this, Option.map_some]
    · rename_i len e hu
      obtain ⟨ag, _, h4⟩ := Option.bind_eq_some_iff.1 hq
      obtain ⟨n, _, rfl⟩ := Option.map_eq_some_iff.1 h4
      simp at h3
    · rename_i hu
      simp only [Option.some.injEq] at hq; subst hq
      simp only at h3
      split at h3
      · obtain ⟨⟨v1, g1⟩, h4⟩ := optK_some h3
        obtain ⟨⟨v2, g2⟩, h5⟩ := optK_some h4
        obtain ⟨v, hv, h7⟩ := Option.bind_eq_some_iff.1 h5
        refine ⟨(.val v, st), ?_, h7⟩
        have : sliceA P st t xv (lo.bind ev) (hi.bind ev) none = some v := by
          unfold sliceStr at hv
          unfold sliceA
          rw [hu]
          split at hv
          · simp only [Option.isNone_none, true_and]; exact hv
          · simp at hv
        have g3 : evs ev (Option.toList (none : Option Operand)) = some [] := rfl
        simp only [opA, vA, sliceOA, hx, Option.bind_some, evs_app (evs_app g1 g2) g3, Option.bind_none, this, Option.map_some]
      · simp at h3
    · simp at hq
  case fieldAddr t x i =>
    obtain ⟨xv, hx, h2⟩ := Option.bind_eq_some_iff.1 h
    obtain ⟨off, hoff, h3⟩ := Option.bind_eq_some_iff.1 h2
    obtain ⟨v, hv, h4⟩ := Option.bind_eq_some_iff.1 h3
    refine ⟨(.val v, st), ?_, h4⟩
    have : fieldAddrA P t xv i = some v := by
      unfold fieldOff at hoff
      unfold fieldAddrA
      split at hoff
      · rename_i fields hu
        rw [hu]
        obtain ⟨fd, hfd, h5⟩ := Option.bind_eq_some_iff.1 hoff
        obtain ⟨n, hn, h6⟩ := Option.bind_eq_some_iff.1 h5
        split at h6
        · simp at h6
        · rename_i hn0
          simp only [Option.some.injEq] at h6; subst h6
          simp only [hfd, hn, Option.bind_some, if_neg hn0]
          unfold ptrAdd at hv
          exact hv
      · simp at hoff
    simp only [opA, vA, hx, Option.bind_some, this, Option.map_some]
  case field t x i =>
    obtain ⟨xv, hx, h2⟩ := Option.bind_eq_some_iff.1 h
    obtain ⟨q, hq, h3⟩ := Option.bind_eq_some_iff.1 h2
    obtain ⟨cs, hcs, h4⟩ := Option.bind_eq_some_iff.1 h3
    obtain ⟨v, hv, h5⟩ := Option.bind_eq_some_iff.1 h4
    refine ⟨(.val v, st), ?_, h5⟩
    have := aggV_some hcs
    subst this
    have : fieldA P t (.agg cs) i = some v := by
      unfold fieldPart at hq
      unfold fieldA
      split at hq
      · rename_i fields hu
        rw [hu]
        obtain ⟨fd, hfd, h5⟩ := Option.bind_eq_some_iff.1 hq
        obtain ⟨ag, hag, h6⟩ := Option.bind_eq_some_iff.1 h5
        obtain ⟨n, hn, rfl⟩ := Option.map_eq_some_iff.1 h6
        simp only [hfd, Option.bind_some, partA, hag, hn]
        exact hv
      · simp at hq
    simp only [opA, vA, hx, Option.bind_some, this, Option.map_some]
  case indexAddr t x i =>
    obtain ⟨xv, hx, h2⟩ := Option.bind_eq_some_iff.1 h
    obtain ⟨iv, hi, h3⟩ := Option.bind_eq_some_iff.1 h2
    obtain ⟨j, hj, h4⟩ := Option.bind_eq_some_iff.1 h3
    obtain ⟨q, hq, h5⟩ := Option.bind_eq_some_iff.1 h4
    unfold ixT at hq
    split at hq
    · rename_i et hu
      obtain ⟨kdv, hkd, rfl⟩ := Option.map_eq_some_iff.1 hq
      simp only at h5
      obtain ⟨v, hv, h6⟩ := Option.bind_eq_some_iff.1 h5
      refine ⟨(.val v, st), ?_, h6⟩
      have : indexAddrA P st t xv iv = some v := by
        unfold indexAddrA
        simp only [hj, hu, hkd, Option.bind_some]
        exact hv
      simp only [opA, vA, hx, hi, Option.bind_some, this, Option.map_some]
    · rename_i len e hu
      obtain ⟨ag, _, h6⟩ := Option.bind_eq_some_iff.1 hq
      obtain ⟨n, hn, rfl⟩ := Option.map_eq_some_iff.1 h6
      simp only at h5
      split at h5
      · rename_i hjl
        obtain ⟨v, hv, h7⟩ := Option.bind_eq_some_iff.1 h5
        refine ⟨(.val v, st), ?_, h7⟩
        have : indexAddrA P st t xv iv = some v := by
          unfold indexAddrA
          simp only [hj, hu, hn, Option.bind_some, if_pos hjl]
          exact hv
        simp only [opA, vA, hx, hi, Option.bind_some, this, Option.map_some]
      · simp at h5
    · simp only [Option.some.injEq] at hq; subst hq; simp at h5
    · simp at hq
  case index t x i =>
    obtain ⟨xv, hx, h2⟩ := Option.bind_eq_some_iff.1 h
    obtain ⟨iv, hi, h3⟩ := Option.bind_eq_some_iff.1 h2
    obtain ⟨j, hj, h4⟩ := Option.bind_eq_some_iff.1 h3
    obtain ⟨q, hq, h5⟩ := Option.bind_eq_some_iff.1 h4
    unfold ixT at hq
    split at hq
    · obtain ⟨kdv, hkd, rfl⟩ := Option.map_eq_some_iff.1 hq
      simp at h5
    · rename_i len e hu
      obtain ⟨ag, hag, h6⟩ := Option.bind_eq_some_iff.1 hq
      obtain ⟨n, hn, rfl⟩ := Option.map_eq_some_iff.1 h6
      simp only at h5
      split at h5
      · rename_i hjl
        obtain ⟨cs, hcs, h6⟩ := Option.bind_eq_some_iff.1 h5
        obtain ⟨v, hv, h7⟩ := Option.bind_eq_some_iff.1 h6
        have := aggV_some hcs
        subst this
        refine ⟨(.val v, st), ?_, h7⟩
        have : indexA P t (.agg cs) iv = some v := by
          unfold indexA
          simp only [hj, hu, hn, Option.bind_some, if_pos hjl, partA, hag]
          exact hv
        simp only [opA, vA, hx, hi, Option.bind_some, this, Option.map_some]
      · simp at h5
    · rename_i hu
      simp only [Option.some.injEq] at hq; subst hq
      simp only at h5
      obtain ⟨v, hv, h7⟩ := Option.bind_eq_some_iff.1 h5
      refine ⟨(.val v, st), ?_, h7⟩
      have : indexA P t xv iv = some v := by
        unfold strAt at hv
        split at hv
        · unfold indexA
          simp only [hj, hu, Option.bind_some]
          exact hv
        · simp at hv
      simp only [opA, vA, hx, hi, Option.bind_some, this, Option.map_some]
    · simp at hq
  case lookup t x k ok =>
    obtain ⟨xv, hx, h2⟩ := Option.bind_eq_some_iff.1 h
    obtain ⟨kv', hk, h3⟩ := Option.bind_eq_some_iff.1 h2
    obtain ⟨v, hv, h4⟩ := Option.bind_eq_some_iff.1 h3
    exact ⟨(.val v, st), by simp only [opA, vA, lookupOA, hx, hk, hv, Option.bind_some, Option.map_some], h4⟩
  case mapUpdate t m k x =>
    obtain ⟨mv, hm, h2⟩ := Option.bind_eq_some_iff.1 h
    obtain ⟨kv', hk, h3⟩ := Option.bind_eq_some_iff.1 h2
    obtain ⟨xv, hx, h4⟩ := Option.bind_eq_some_iff.1 h3
    obtain ⟨s, hs, h5⟩ := Option.bind_eq_some_iff.1 h4
    exact ⟨(.skip, s), by simp only [opA, usA, mapUpdateOA, hm, hk, hx, hs, Option.bind_some, Option.map_some], h5⟩
  case range t x =>
    obtain ⟨xv, hx, h2⟩ := Option.bind_eq_some_iff.1 h
    obtain ⟨q, hq, h3⟩ := Option.bind_eq_some_iff.1 h2
    exact ⟨(.val q.1, q.2), by simp only [opA, vsA, hx, hq, Option.bind_some, Option.map_some], h3⟩
  case next x isStr =>
    obtain ⟨xv, hx, h2⟩ := Option.bind_eq_some_iff.1 h
    obtain ⟨q, hq, h3⟩ := Option.bind_eq_some_iff.1 h2
    exact ⟨(.val q.1, q.2), by simp only [opA, vsA, hx, hq, Option.bind_some, Option.map_some], h3⟩
  case typeAssert x ty t ok =>
    split at h
    · rename_i hp
      obtain ⟨xv, hx, h2⟩ := Option.bind_eq_some_iff.1 h
      have hu : ∃ d, P.underlying t = some d ∧ ∀ i, d ≠ .interface i := by
        unfold plainT at hp
        split at hp
        · simp at hp
        · rename_i q hne hq; exact ⟨q, hq, fun i e => hne i e⟩
        · simp at hp
      obtain ⟨d, hd, hdi⟩ := hu
      split at h2
      · rename_i z hz
        obtain ⟨v, hv, h3⟩ := Option.bind_eq_some_iff.1 h2
        refine ⟨(.val v, st), ?_, h3⟩
        have : typeAssertA P xv t ok = some v := by
          unfold assertV at hv
          unfold typeAssertA
          rw [hd]
          split at hv
          · simp only [hz, Option.map_some]; first | exact hv | (cases d <;> first | exact hv | exact absurd rfl (hdi _))
          · simp only [hz, Option.map_some]; first | exact hv | (cases d <;> first | exact hv | exact absurd rfl (hdi _))
          · simp at hv
        simp only [opA, vA, hx, Option.bind_some, this, Option.map_some]
      · rename_i hz
        split at h2
        · simp at h2
        · rename_i hok
          obtain ⟨v, hv, h3⟩ := Option.bind_eq_some_iff.1 h2
          refine ⟨(.val v, st), ?_, h3⟩
          have : typeAssertA P xv t ok = some v := by
            unfold assertV at hv
            unfold typeAssertA
            rw [hd]
            split at hv
            · simp only [hok, Bool.false_eq_true, if_false] at hv ⊢; first | exact hv | (cases d <;> first | exact hv | exact absurd rfl (hdi _))
            · simp at hv
            · simp at hv
          simp only [opA, vA, hx, Option.bind_some, this, Option.map_some]
    · simp at h
  case extract t i =>
    obtain ⟨xv, hx, h2⟩ := Option.bind_eq_some_iff.1 h
    obtain ⟨v, hv, h3⟩ := Option.bind_eq_some_iff.1 h2
    exact ⟨(.val v, st), by simp only [opA, vA, hx, hv, Option.bind_some, Option.map_some], h3⟩
  case call c =>
    obtain ⟨v, s, h1, h2⟩ := callBK_le h
    exact ⟨(.val v, s), h1, h2⟩
  case defer c =>
    split at h
    · rename_i x hc
      obtain ⟨fv, hfv, h2⟩ := Option.bind_eq_some_iff.1 h
      obtain ⟨q, hq, h3⟩ := Option.bind_eq_some_iff.1 h2
      obtain ⟨args, ha, h4⟩ := Option.bind_eq_some_iff.1 h3
      have := fnV_some hq
      subst this
      exact ⟨(.defer q.1 (args ++ q.2), st), by simp only [opA, deferA, hc, hfv, ha, Option.bind_some, Option.map_some], h4⟩
    · simp at h
  case panic x =>
    obtain ⟨v, hv, h2⟩ := Option.bind_eq_some_iff.1 h
    obtain ⟨u, hu, h3⟩ := Option.bind_eq_some_iff.1 h2
    obtain ⟨t, y, rfl, rfl⟩ := panicV_some hu
    exact ⟨(.pan (.iface t y), st), by simp only [opA, hv, Option.bind_some, panicA], h3⟩
end
end Go.Abs

/- The interpreter by value with what comes behind as a function: it says no more than the interpreter. Regions, code, calls. -/
namespace Go.Abs
open Go
set_option linter.unusedVariables false
set_option linter.unusedSimpArgs false

section
variable {R : Type} {P : Program} {H : Hints} {callF : CallF0} {again : AgainF0} {f : FuncId} {base : Nat}
variable {ev : Operand → Option AV} {st : St} {kv : AV → St → Option R} {ks : St → Option R} {kd : FuncId → List AV → St → Option R} {kp : AV → St → Option R} {r : R}

theorem callB_some {x : Option (AOut × St)} (h : callB x kv kp = some r) : ∃ q, x = some q ∧ resK kv ks kd kp ((match q.1 with | .ret v => (.val v, q.2) | .pan v => (.pan v, q.2) : Res × St)) = some r := by
  obtain ⟨q, hq, h2⟩ := Option.bind_eq_some_iff.1 h
  refine ⟨q, hq, ?_⟩
  obtain ⟨o, s⟩ := q
  cases o <;> exact h2

theorem stepK_le {o : Oper} (h : stepK P H callF f base ev st o.dst kv ks kd kp o = some r) : ∃ q, stepV P H callF f base o ev st = some q ∧ resK kv ks kd kp q = some r := by
  unfold stepK at h
  unfold stepV
  have other : callOf H ev o.op = none → opK P H f base ev st o.dst kv ks kd kp o.op = some r → ∃ q, (match callOf H ev o.op with
      | some none => none
      | some (some (g, args)) => (callF g args st).map fun r => (match r.1 with | .ret v => (.val v, r.2) | .pan v => (.pan v, r.2) : Res × St)
      | none => opA P H f ev st base o.dst o.op) = some q ∧ resK kv ks kd kp q = some r := by
    intro hc hk
    rw [hc]
    exact opK_le hk
  generalize hop : o.op = op at *
  cases op with
  | call c =>
    simp only at h
    split at h
    · rename_i x hc
      split at h
      · rename_i g
        split at h
        · rename_i hx
          exact other (by simp [callOf, hc, hx]) h
        · rename_i hx
          obtain ⟨args, ha, h2⟩ := Option.bind_eq_some_iff.1 h
          obtain ⟨q, hq, h3⟩ := callB_some (ks := ks) (kd := kd) h2
          have : callOf H ev (.call c) = some (some (g, args)) := by simp [callOf, hc, hx, ha]
          rw [this]
          exact ⟨_, by simp only [hq, Option.map_some]; rfl, h3⟩
      · rename_i hng
        obtain ⟨fv, hfv, h2⟩ := Option.bind_eq_some_iff.1 h
        obtain ⟨q, hq, h3⟩ := Option.bind_eq_some_iff.1 h2
        split at h3
        · simp at h3
        · rename_i hx
          obtain ⟨args, ha, h4⟩ := Option.bind_eq_some_iff.1 h3
          obtain ⟨q', hq', h5⟩ := callB_some (ks := ks) (kd := kd) h4
          have hf := fnV_some hq
          subst hf
          have : callOf H ev (.call c) = some (some (q.1, args ++ q.2)) := by
            unfold callOf
            simp [hc, hfv, hx, ha]
          rw [this]
          exact ⟨_, by simp only [hq', Option.map_some]; rfl, h5⟩
    · rename_i hnv
      refine other ?_ h
      unfold callOf
      cases hc : c.callee with
      | value x => exact absurd hc (hnv x)
      | builtin b => simp [hc]
      | invoke r m => simp [hc]
  | _ => exact other rfl h

theorem reput_same : ∀ {e : Env} {t : Nat} {v : AV}, Env.get e t = some v → reput e t v = e
  | [], t, v, h => by simp [Env.get] at h
  | (s, u) :: r, t, v, h => by
    simp only [Env.get] at h
    simp only [reput]
    split at h
    · rename_i hs; rw [if_pos hs]; simp only [Option.some.injEq] at h; rw [h]
    · rename_i hs; rw [if_neg hs, reput_same h]
theorem guardB_some {v : AV} {want : Bool} {yes no : AV → Option R} (h : guardB v want yes no = some r) : ∃ b, (match v with | .bool b => some (b == want) | .tup [] => some false | _ => none : Option Bool) = some b ∧ (if b then yes v else no v) = some r := by
  unfold guardB at h
  split at h
  · rename_i b
    refine ⟨b == want, rfl, ?_⟩
    cases want <;> cases b <;> exact h
  · exact ⟨false, rfl, h⟩
  · simp at h

theorem guardK_some {ops : Array Oper} {loc : Env} {fr : Fr} {o : Oper} {yes no : Env → Fr → Option R} (h : guardK ops loc fr o yes no = some r) : ∃ b, wantA ops loc fr.env o = some b ∧ (if b then yes loc fr else no loc fr) = some r := by
  unfold guardK at h
  unfold wantA
  split at h
  · rename_i hg; rw [hg]; exact ⟨true, rfl, h⟩
  · rename_i j want hg
    obtain ⟨d, hd, h2⟩ := Option.bind_eq_some_iff.1 h
    rw [hg]
    simp only [hd, Option.bind_some]
    split at h2
    · rename_i v hv
      obtain ⟨b, hb, h3⟩ := guardB_some h2
      have hl : look loc fr.env d = some v := by unfold look; rw [hv]
      rw [hl]
      simp only [Option.bind_some]
      rw [reput_same hv] at h3
      exact ⟨b, hb, h3⟩
    · rename_i hv
      obtain ⟨v, hv2, h3⟩ := Option.bind_eq_some_iff.1 h2
      obtain ⟨b, hb, h4⟩ := guardB_some h3
      have hl : look loc fr.env d = some v := by unfold look; rw [hv]; exact hv2
      rw [hl]
      simp only [Option.bind_some]
      rw [reput_same hv2] at h4
      exact ⟨b, hb, h4⟩

theorem putK_some {dst : Option Tmp} {v : AV} {loc : Env} {fr : Fr} {k : Env → Fr → Option R} (h : putK H f dst v loc fr k = some r) : k (putD H f dst v loc fr.env).1 { fr with env := (putD H f dst v loc fr.env).2 } = some r := by
  unfold putK at h
  unfold putD
  split at h
  · exact h
  · split at h
    · rename_i hk; simp only [if_pos hk]; exact h
    · rename_i hk; simp only [if_neg hk]; exact h

theorem typK_some {t : TypeId} {v : AV} {k : AV → Option R} (h : typK P t v k = some r) : k v = some r := by
  unfold typK at h
  split at h
  · obtain ⟨b, hb, h2⟩ := Option.bind_eq_some_iff.1 h
    rw [boolV_some hb]; exact h2
  · obtain ⟨n, hn, h2⟩ := Option.bind_eq_some_iff.1 h
    unfold intV at hn
    split at hn
    · split at hn
      · rename_i hk; simp only [Option.some.injEq] at hn; rw [hk, hn]; exact h2
      · simp at hn
    · simp at hn
  · obtain ⟨s, hs, h2⟩ := Option.bind_eq_some_iff.1 h
    unfold strV at hs
    split at hs
    · simp only [Option.some.injEq] at hs; rw [hs]; exact h2
    · simp at hs
  · exact h
theorem landK_some {o : Oper} {v : AV} {loc : Env} {fr : Fr} {k : Env → Fr → St → Option R} (h : landK H f o.dst v st loc fr k = some r) : ∃ l, landA H f o (.val v) loc fr st = some l ∧ k l.1 l.2.1 l.2.2 = some r := by
  unfold landK at h
  unfold landA
  cases hd : o.dst with
  | none => rw [hd] at h; exact ⟨(loc, fr, st), rfl, h⟩
  | some d =>
    rw [hd] at h
    simp only at h ⊢
    split at h
    · rename_i hf
      rw [if_pos hf]
      obtain ⟨q, hq, h2⟩ := Option.bind_eq_some_iff.1 h
      rw [hq]
      exact ⟨_, rfl, putK_some h2⟩
    · rename_i hf
      rw [if_neg hf]
      exact ⟨_, rfl, putK_some h⟩

theorem opsK_le {ops : Array Oper} {k : AX → Fr → St → Option R} : ∀ {l : List Oper} {loc : Env} {fr : Fr} {st : St}, opsK P H callF f base ops l loc fr st k = some r → ∃ q, opsA P H callF f base ops l loc fr st = some q ∧ k q.1 q.2.1 q.2.2 = some r
  | [], loc, fr, st, h => ⟨(.normal, fr, st), rfl, h⟩
  | o :: rest, loc, fr, st, h => by
    simp only [opsK] at h
    obtain ⟨b, hb, h2⟩ := guardK_some h
    simp only [opsA, hb, Option.bind_some]
    cases b with
    | false =>
      simp only [Bool.false_eq_true, if_false] at h2 ⊢
      exact opsK_le (putK_some h2)
    | true =>
      simp only [if_true] at h2 ⊢
      obtain ⟨q, hq, h3⟩ := stepK_le h2
      simp only [stepA, hq, Option.bind_some]
      obtain ⟨res, s⟩ := q
      cases res with
      | pan v => exact ⟨_, rfl, h3⟩
      | val v =>
        obtain ⟨l, hl, h4⟩ := landK_some (typK_some (show typK P o.type v (fun v => landK H f o.dst v s loc fr (fun loc fr st => opsK P H callF f base ops rest loc fr st k)) = some r from h3))
        simp only [hl, Option.bind_some]
        exact opsK_le h4
      | skip =>
        have h4 := putK_some (show putK H f o.dst undefA loc fr (fun loc fr => opsK P H callF f base ops rest loc fr s k) = some r from h3)
        simp only [landA, Option.bind_some]
        exact opsK_le h4
      | defer g as =>
        have h4 := putK_some (show putK H f o.dst undefA loc fr (fun loc fr => opsK P H callF f base ops rest loc { fr with defers := (g, as) :: fr.defers } s k) = some r from h3)
        simp only [landA, Option.bind_some]
        exact opsK_le h4

theorem opsDK_le {ops : Array Oper} {k : AX → Env → Fr → St → List St → Nat → Option R} : ∀ {l : List Oper} {loc : Env} {fr : Fr} {st : St} {tr : List St} {n : Nat}, opsDK P H callF f base ops l loc fr st tr n k = some r →
    ∃ q, opsD P H callF f base ops l loc fr st tr n = some q ∧ k q.1 q.2.1 q.2.2.1 q.2.2.2.1 q.2.2.2.2.1 q.2.2.2.2.2 = some r
  | [], loc, fr, st, tr, n, h => ⟨(.normal, loc, fr, st, tr, n), rfl, h⟩
  | o :: rest, loc, fr, st, tr, n, h => by
    simp only [opsDK] at h
    obtain ⟨b, hb, h2⟩ := guardK_some h
    simp only [opsD, hb, Option.bind_some]
    cases b with
    | false =>
      simp only [Bool.false_eq_true, if_false] at h2 ⊢
      exact opsDK_le (putK_some h2)
    | true =>
      simp only [if_true] at h2 ⊢
      obtain ⟨q, hq, h3⟩ := stepK_le h2
      simp only [stepA, hq, Option.bind_some]
      obtain ⟨res, s⟩ := q
      cases res with
      | pan v => exact ⟨_, rfl, h3⟩
      | val v =>
        obtain ⟨l, hl, h4⟩ := landK_some (typK_some (show typK P o.type v (fun v => landK H f o.dst v s loc fr (fun loc fr st => opsDK P H callF f base ops rest loc fr st (if isE o.op then st :: tr else tr) (n + 1) k)) = some r from h3))
        simp only [hl, Option.bind_some]
        exact opsDK_le h4
      | skip =>
        have h4 := putK_some (show putK H f o.dst undefA loc fr (fun loc fr => opsDK P H callF f base ops rest loc fr s (if isE o.op then s :: tr else tr) (n + 1) k) = some r from h3)
        simp only [landA, Option.bind_some]
        exact opsDK_le h4
      | defer g as =>
        have h4 := putK_some (show putK H f o.dst undefA loc fr (fun loc fr => opsDK P H callF f base ops rest loc { fr with defers := (g, as) :: fr.defers } s (if isE o.op then s :: tr else tr) (n + 1) k) = some r from h3)
        simp only [landA, Option.bind_some]
        exact opsDK_le h4

/-- The run with a trace goes as the run without. -/
theorem opsD_of {ops : Array Oper} : ∀ {l : List Oper} {loc : Env} {fr : Fr} {st : St} {tr : List St} {n : Nat} {q : AX × Fr × St}, opsA P H callF f base ops l loc fr st = some q →
    ∃ loc' tr' n', opsD P H callF f base ops l loc fr st tr n = some (q.1, loc', q.2.1, q.2.2, tr', n')
  | [], loc, fr, st, tr, n, q, h => by simp only [opsA, Option.some.injEq] at h; subst h; exact ⟨loc, tr, n, rfl⟩
  | o :: rest, loc, fr, st, tr, n, q, h => by
    simp only [opsA] at h
    obtain ⟨b, hb, h2⟩ := Option.bind_eq_some_iff.1 h
    simp only [opsD, hb, Option.bind_some]
    cases b with
    | false =>
      simp only [Bool.false_eq_true, if_false] at h2 ⊢
      exact opsD_of h2
    | true =>
      simp only [if_true] at h2 ⊢
      obtain ⟨s, hs, h3⟩ := Option.bind_eq_some_iff.1 h2
      simp only [hs, Option.bind_some]
      obtain ⟨res, s⟩ := s
      cases res with
      | pan v => simp only [Option.some.injEq] at h3; subst h3; exact ⟨_, _, _, rfl⟩
      | val v =>
        obtain ⟨l, hl, h4⟩ := Option.bind_eq_some_iff.1 h3
        simp only [hl, Option.bind_some]
        exact opsD_of h4
      | skip =>
        obtain ⟨l, hl, h4⟩ := Option.bind_eq_some_iff.1 h3
        simp only [hl, Option.bind_some]
        exact opsD_of h4
      | defer g as =>
        obtain ⟨l, hl, h4⟩ := Option.bind_eq_some_iff.1 h3
        simp only [hl, Option.bind_some]
        exact opsD_of h4

theorem againK_le {ops : Array Oper} {loc env : Env} {tr : List St} {k : Nat} {x : Nat × Nat × Nat} (h : againK P H f base ops loc env tr k x = true) : again1 P H f base ops loc env tr k x = true := by
  unfold againK at h
  split at h
  · rename_i hk; unfold again1; rw [if_pos hk]
  · rename_i hk
    split at h
    · simp at h
    · rename_i o ho
      split at h
      · rename_i hw; unfold again1; rw [if_neg hk, ho]; simp only [hw]
      · simp at h
      · rename_i hw
        have key : stillOp (evO H loc env) o.op && o.dst.isSome → again1 P H f base ops loc env tr k x = true := fun hs => by
          simp only [Bool.and_eq_true] at hs
          unfold again1
          rw [if_neg hk, ho]
          simp only [hw]
          rw [if_pos hs.1]; exact hs.2
        split at h
        · exact key (by simpa using h)
        · exact key (by simpa using h)
        · exact key (by simpa using h)
        · exact h
theorem regionK_le {id : Nat} {ops : Array Oper} {draw : Bool} {fr : Fr} {k : AX → Fr → St → Option R} (h : regionK P H callF f base id ops draw fr st k = some r) :
    ∃ q, regionA P H callF f base id ops draw fr st = some q ∧ k q.1 q.2.1 q.2.2 = some r := by
  unfold regionK at h
  unfold regionA
  split at h
  · rename_i hd
    rw [if_pos hd]
    split at h
    · rename_i he
      obtain ⟨q, hq, h2⟩ := opsK_le h
      obtain ⟨loc', tr', n', h3⟩ := opsD_of (tr := [st]) (n := 0) hq
      rw [h3]
      simp only [Option.bind_some]
      rw [if_pos (by rw [List.isEmpty_iff.1 he]; rfl)]
      obtain ⟨ax, fr', st'⟩ := q
      cases ax with
      | panic v =>
        simp only at h2 ⊢
        split at h2
        · rename_i hp; rw [if_pos hp]; exact ⟨_, rfl, h2⟩
        · simp at h2
      | _ => exact ⟨_, rfl, h2⟩
    · obtain ⟨q, hq, h2⟩ := opsDK_le h
      rw [hq]
      simp only [Option.bind_some]
      obtain ⟨ax, loc', fr', st', tr', n'⟩ := q
      simp only at h2 ⊢
      split at h2
      · rename_i ha
        rw [if_pos (List.all_eq_true.2 fun x hx => againK_le (List.all_eq_true.1 ha x hx))]
        cases ax with
        | panic v =>
          simp only at h2 ⊢
          split at h2
          · rename_i hp; rw [if_pos hp]; exact ⟨_, rfl, h2⟩
          · simp at h2
        | _ => exact ⟨_, rfl, h2⟩
      · simp at h2
  · rename_i hd
    rw [if_neg hd]
    exact opsK_le h

theorem headB_some {x : Option (AX × Fr × St)} {k : AX → Fr → St → Option R} (h : headB x k = some r) : ∃ q, x = some q ∧ k q.1 q.2.1 q.2.2 = some r := Option.bind_eq_some_iff.1 h

theorem execK_le (hA : ∀ body fr st q, again (.round body) fr st = some q → execA P H callF again f base (.loop body) fr st = some q) : ∀ {c : Code} {fr : Fr} {st : St} {k : AX → Fr → St → Option R},
    execK P H callF again f base c fr st k = some r → ∃ q, execA P H callF again f base c fr st = some q ∧ k q.1 q.2.1 q.2.2 = some r
  | .skip, fr, st, k, h => ⟨_, rfl, h⟩
  | .label _, fr, st, k, h => ⟨_, rfl, h⟩
  | .region id ops draw, fr, st, k, h => regionK_le h
  | .seq a b, fr, st, k, h => by
    simp only [execK] at h
    obtain ⟨q, hq, h2⟩ := execK_le hA h
    simp only [execA, hq, Option.bind_some]
    obtain ⟨ax, fr', st'⟩ := q
    cases ax with
    | normal => exact execK_le hA h2
    | _ => exact ⟨_, rfl, h2⟩
  | .cond c a b, fr, st, k, h => by
    simp only [execK] at h
    obtain ⟨v, hv, h2⟩ := Option.bind_eq_some_iff.1 h
    simp only [execA, hv, Option.bind_some]
    have key : ∀ {x y : AV → Option R}, condB v x y = some r → ∃ t, v = .bool t ∧ (if t then x v else y v) = some r := by
      intro x y hxy
      unfold condB at hxy
      split at hxy
      · rename_i t; cases t <;> exact ⟨_, rfl, hxy⟩
      · simp at hxy
    split at h2
    · rename_i t
      obtain ⟨b, rfl, h3⟩ := key h2
      have hg : Env.get fr.env t = some (.bool b) := by simpa [evO, look, Env.get] using hv
      rw [reput_same hg] at h3
      cases b with
      | true => exact execK_le hA h3
      | false => exact execK_le hA h3
    · obtain ⟨b, rfl, h3⟩ := key h2
      cases b with
      | true => exact execK_le hA h3
      | false => exact execK_le hA h3
  | .block id body, fr, st, k, h => by
    simp only [execK] at h
    obtain ⟨q, hq, h2⟩ := execK_le hA h
    simp only [execA, hq, Option.map_some]
    obtain ⟨ax, fr', st'⟩ := q
    cases ax with
    | exit i =>
      simp only at h2 ⊢
      split at h2
      · rename_i hi; rw [if_pos hi]; exact ⟨_, rfl, h2⟩
      · rename_i hi; rw [if_neg hi]; exact ⟨_, rfl, h2⟩
    | _ => exact ⟨_, rfl, h2⟩
  | .loop body, fr, st, k, h => by
    simp only [execK] at h
    obtain ⟨q, hq, h2⟩ := headB_some h
    exact ⟨q, hA body fr st q hq, h2⟩
  | .scope body, fr, st, k, h => by
    simp only [execK] at h
    obtain ⟨q, hq, h2⟩ := execK_le hA h
    simp only [execA, hq, Option.bind_some]
    obtain ⟨ax, fr', st'⟩ := q
    cases ax with
    | goto l =>
      simp only at h2 ⊢
      split at h2
      · rename_i rest hf; rw [hf]; exact headB_some h2
      · rename_i hf; rw [hf]; exact ⟨_, rfl, h2⟩
    | _ => exact ⟨_, rfl, h2⟩
  | .exit id, fr, st, k, h => ⟨_, rfl, h⟩
  | .goto l, fr, st, k, h => ⟨_, rfl, h⟩
  | .ret, fr, st, k, h => ⟨_, rfl, h⟩
  | .rangeFunc .., fr, st, k, h => by simp [execK] at h
  | .refuse _, fr, st, k, h => by simp [execK] at h
end

section
variable {P : Program} {H : Hints} {callF : CallF0} {again : FuncId → Nat → AgainF0}
theorem callK_le (hA : ∀ f base body fr st q, again f base (.round body) fr st = some q → execA P H callF (again f base) f base (.loop body) fr st = some q) {g : FuncId} {args : List AV} {st : St} {r : AOut × St}
    (h : callK P H callF again g args st = some r) : callA P H callF again g args st = some r := by
  unfold callK at h
  unfold callA
  split at h
  · simp at h
  · rename_i hp
    rw [hp]
    simp only
    obtain ⟨fn, hfn, h2⟩ := Option.bind_eq_some_iff.1 h
    obtain ⟨c, hc, h3⟩ := Option.bind_eq_some_iff.1 h2
    simp only [hfn, hc, Option.bind_some]
    split at h3
    · rename_i hl
      rw [if_pos hl]
      obtain ⟨q, hq, h4⟩ := execK_le (hA g st.length) h3
      rw [hq]
      simp only [Option.bind_some]
      obtain ⟨ax, fr', st'⟩ := q
      unfold endK at h4
      cases ax with
      | normal =>
        simp only at h4 ⊢
        split at h4
        · rename_i hd
          obtain ⟨vs, hvs, h5⟩ := Option.bind_eq_some_iff.1 h4
          simp only [hd, leaveA, hvs, Option.map_some, Option.bind_some]
          exact h5
        · exact h4
      | ret =>
        simp only at h4 ⊢
        split at h4
        · rename_i hd
          obtain ⟨vs, hvs, h5⟩ := Option.bind_eq_some_iff.1 h4
          simp only [hd, leaveA, hvs, Option.map_some, Option.bind_some]
          exact h5
        · exact h4
      | panic v =>
        simp only at h4 ⊢
        split at h4
        · rename_i hd
          simp only [hd, leaveA, Option.bind_some]
          exact h4
        · exact h4
      | exit i => simp at h4
      | goto i => simp at h4
    · simp at h3
end
end Go.Abs

/- The interpreter by value without a bound on its rounds and depth. -/
namespace Go.Abs
open Go
set_option linter.unusedVariables false
set_option linter.unusedSimpArgs false

/-- What x says, y says from some n on. -/
def Ev {α : Type} (x : Option α) (y : Nat → Option α) : Prop := ∀ r, x = some r → ∃ N, ∀ n, N ≤ n → y n = some r
theorem Ev.const {α : Type} (x : Option α) : Ev x fun _ => x := fun r h => ⟨0, fun _ _ => h⟩
theorem Ev.bind {α β : Type} {x : Option α} {y : Nat → Option α} {k : α → Option β} {k' : Nat → α → Option β} (h : Ev x y) (hk : ∀ a, Ev (k a) fun n => k' n a) : Ev (x.bind k) fun n => (y n).bind (k' n) := by
  intro r hr
  obtain ⟨a, ha, h2⟩ := Option.bind_eq_some_iff.1 hr
  obtain ⟨N, hN⟩ := h a ha
  obtain ⟨M, hM⟩ := hk a r h2
  exact ⟨max N M, fun n hn => by show (y n).bind (k' n) = _; rw [hN n (by omega)]; exact hM n (by omega)⟩
theorem Ev.map {α β : Type} {x : Option α} {y : Nat → Option α} (k : α → β) (h : Ev x y) : Ev (x.map k) fun n => (y n).map k := by
  intro r hr
  obtain ⟨a, ha, rfl⟩ := Option.map_eq_some_iff.1 hr
  obtain ⟨N, hN⟩ := h a ha
  exact ⟨N, fun n hn => by show (y n).map k = _; rw [hN n hn]; rfl⟩
theorem Ev.ite {α : Type} {c : Prop} [Decidable c] {x x' : Option α} {y y' : Nat → Option α} (h : Ev x y) (h' : Ev x' y') : Ev (if c then x else x') fun n => if c then y n else y' n := by
  by_cases hc : c
  · simp only [if_pos hc]; exact h
  · simp only [if_neg hc]; exact h'

section
variable {P : Program} {H : Hints} {callF : CallF0} {E : Nat → CallF0}

theorem ev_stepV {f : FuncId} {base : Nat} (hE : ∀ g a s, Ev (callF g a s) fun n => E n g a s) (o : Oper) (ev : Operand → Option AV) (st : St) : Ev (stepV P H callF f base o ev st) fun n => stepV P H (E n) f base o ev st := by
  unfold stepV
  cases callOf H ev o.op with
  | none => exact .const _
  | some x =>
    cases x with
    | none => exact .const _
    | some ga => exact (hE ga.1 ga.2 st).map _

theorem ev_opsA {f : FuncId} {base : Nat} {ops : Array Oper} (hE : ∀ g a s, Ev (callF g a s) fun n => E n g a s) : ∀ (l : List Oper) (loc : Env) (fr : Fr) (st : St), Ev (opsA P H callF f base ops l loc fr st) fun n => opsA P H (E n) f base ops l loc fr st
  | [], loc, fr, st => .const _
  | o :: l, loc, fr, st => by
    simp only [opsA]
    refine (Ev.const _).bind fun w => .ite ((ev_stepV hE o _ st).bind fun q => ?_) (ev_opsA hE l _ _ st)
    obtain ⟨res, s⟩ := q
    cases res with
    | pan v => exact .const _
    | _ => exact (Ev.const _).bind fun l' => ev_opsA hE l _ _ _

theorem ev_opsD {f : FuncId} {base : Nat} {ops : Array Oper} (hE : ∀ g a s, Ev (callF g a s) fun n => E n g a s) : ∀ (l : List Oper) (loc : Env) (fr : Fr) (st : St) (tr : List St) (k : Nat), Ev (opsD P H callF f base ops l loc fr st tr k) fun n => opsD P H (E n) f base ops l loc fr st tr k
  | [], loc, fr, st, tr, k => .const _
  | o :: l, loc, fr, st, tr, k => by
    simp only [opsD]
    refine (Ev.const _).bind fun w => .ite ((ev_stepV hE o _ st).bind fun q => ?_) (ev_opsD hE l _ _ st _ _)
    obtain ⟨res, s⟩ := q
    cases res with
    | pan v => exact .const _
    | _ => exact (Ev.const _).bind fun l' => ev_opsD hE l _ _ _ _ _

theorem ev_region {f : FuncId} {base id : Nat} {ops : Array Oper} {draw : Bool} (hE : ∀ g a s, Ev (callF g a s) fun n => E n g a s) (fr : Fr) (st : St) : Ev (regionA P H callF f base id ops draw fr st) fun n => regionA P H (E n) f base id ops draw fr st := by
  unfold regionA
  exact .ite ((ev_opsD hE _ _ _ _ _ _).bind fun _ => .const _) (ev_opsA hE _ _ _ _)

variable {f : FuncId} {base : Nat} {again : AgainF0} {G : Nat → AgainF0}
theorem ev_exec (hE : ∀ g a s, Ev (callF g a s) fun n => E n g a s) (hG : ∀ t fr s, Ev (again t fr s) fun n => G n t fr s) : ∀ (c : Code) (fr : Fr) (st : St), Ev (execA P H callF again f base c fr st) fun n => execA P H (E n) (G n) f base c fr st
  | .skip, fr, st => .const _
  | .label _, fr, st => .const _
  | .region id ops draw, fr, st => ev_region hE fr st
  | .seq a b, fr, st => by
    simp only [execA]
    refine (ev_exec hE hG a fr st).bind fun q => ?_
    obtain ⟨ax, fr', st'⟩ := q
    cases ax with
    | normal => exact ev_exec hE hG b _ _
    | _ => exact .const _
  | .cond c a b, fr, st => by
    simp only [execA]
    refine (Ev.const _).bind fun v => ?_
    cases v <;> first | exact .const _ | exact .ite (ev_exec hE hG a fr st) (ev_exec hE hG b fr st)
  | .block id body, fr, st => by simp only [execA]; exact (ev_exec hE hG body fr st).map _
  | .loop body, fr, st => by
    simp only [execA]
    refine (ev_exec hE hG body fr st).bind fun q => ?_
    obtain ⟨ax, fr', st'⟩ := q
    cases ax with
    | normal => exact (Ev.const _).bind fun e => hG _ _ _
    | _ => exact .const _
  | .scope body, fr, st => by
    simp only [execA]
    refine (ev_exec hE hG body fr st).bind fun q => ?_
    obtain ⟨ax, fr', st'⟩ := q
    cases ax with
    | goto l =>
      simp only
      cases findLabel body l with
      | some rest => exact hG _ _ _
      | none => exact .const _
    | _ => exact .const _
  | .exit id, fr, st => .const _
  | .goto l, fr, st => .const _
  | .ret, fr, st => .const _
  | .rangeFunc .., fr, st => .const _
  | .refuse _, fr, st => .const _

theorem ev_task (hE : ∀ g a s, Ev (callF g a s) fun n => E n g a s) (hG : ∀ t fr s, Ev (again t fr s) fun n => G n t fr s) (t : Task) (fr : Fr) (st : St) : Ev (taskA P H callF again f base t fr st) fun n => taskA P H (E n) (G n) f base t fr st := by
  cases t with
  | code c => exact ev_exec hE hG c fr st
  | round body => exact ev_exec hE hG (.loop body) fr st
  | resume body rest =>
    simp only [taskA]
    refine (ev_exec hE hG rest fr st).bind fun q => ?_
    obtain ⟨ax, fr', st'⟩ := q
    cases ax with
    | goto l =>
      simp only
      cases findLabel body l with
      | some rest => exact hG _ _ _
      | none => exact .const _
    | _ => exact .const _

theorem ev_opsS {ops : Array Oper} (hE : ∀ g a s, Ev (callF g a s) fun n => E n g a s) : ∀ (l : List Oper) (loc : Env) (fr : Fr) (st : St) (m : AMode), Ev (opsS P H callF f base ops l loc fr st m) fun n => opsS P H (E n) f base ops l loc fr st m
  | [], loc, fr, st, m => .const _
  | o :: l, loc, fr, st, m => by
    simp only [opsS]
    refine (Ev.const _).bind fun w => .ite ?_ (ev_opsS hE l _ _ st m)
    split
    · cases m with
      | pan v => exact ev_opsS hE l _ _ _ _
      | _ => exact ev_opsS hE l _ _ _ _
    · refine (ev_stepV hE o _ st).bind fun q => ?_
      obtain ⟨res, s⟩ := q
      cases res with
      | pan v => exact .const _
      | _ => exact (Ev.const _).bind fun l' => ev_opsS hE l _ _ _ _

theorem ev_execS (hE : ∀ g a s, Ev (callF g a s) fun n => E n g a s) (hG : ∀ t fr s, Ev (again t fr s) fun n => G n t fr s) : ∀ (c : Code) (fr : Fr) (st : St) (m : AMode), Ev (execS P H callF again f base c fr st m) fun n => execS P H (E n) (G n) f base c fr st m := by
  intro c
  have plain : ∀ (c : Code) (fr : Fr) (st : St) (m : AMode), Ev ((execA P H callF again f base c fr st).map fun r => (r.1, r.2.1, r.2.2, m)) fun n => (execA P H (E n) (G n) f base c fr st).map fun r => (r.1, r.2.1, r.2.2, m) := fun c fr st m => (ev_exec hE hG c fr st).map _
  induction c with
  | region id ops draw =>
    intro fr st m
    simp only [execS]
    exact .ite ((ev_region hE fr st).map _) (ev_opsS hE _ _ _ _ _)
  | seq a b iha ihb =>
    intro fr st m
    simp only [execS]
    refine (iha fr st m).bind fun q => ?_
    obtain ⟨ax, fr', st', m'⟩ := q
    cases ax with
    | normal => exact ihb _ _ _
    | _ => exact .const _
  | cond c a b iha ihb =>
    intro fr st m
    simp only [execS]
    refine (Ev.const _).bind fun v => ?_
    cases v <;> first | exact .const _ | exact .ite (iha fr st m) (ihb fr st m)
  | _ => intro fr st m; exact plain _ fr st m
end

section
variable {P : Program} {H : Hints} {callF : CallF0} {E : Nat → CallF0} {again : FuncId → Nat → AgainF0} {G : Nat → FuncId → Nat → AgainF0}

theorem ev_callD (hE : ∀ g a s, Ev (callF g a s) fun n => E n g a s) (hG : ∀ f b t fr s, Ev (again f b t fr s) fun n => G n f b t fr s) (g : FuncId) (args : List AV) (st : St) (m : AMode) :
    Ev (callDA P H callF again g args st m) fun n => callDA P H (E n) (G n) g args st m := by
  unfold callDA
  refine (Ev.const _).bind fun fn => (Ev.const _).bind fun c => .ite (Ev.bind (.ite (ev_execS hE (hG g st.length) c _ _ m) ((ev_exec hE (hG g st.length) c _ _).map _)) fun q => .const _) (.const _)

theorem ev_leave {callD : FuncId → List AV → St → AMode → Option (AOut × St × AMode)} {D : Nat → FuncId → List AV → St → AMode → Option (AOut × St × AMode)} (hD : ∀ g a s m, Ev (callD g a s m) fun n => D n g a s m) (fn : Func) (env : Env) :
    ∀ (ds : List (FuncId × List AV)) (m : AMode) (st : St), Ev (leaveA P callD fn env ds m st) fun n => leaveA P (D n) fn env ds m st
  | [], m, st => by cases m <;> exact .const _
  | (g, args) :: ds, m, st => by
    simp only [leaveA]
    refine (hD g args st m).bind fun q => ?_
    obtain ⟨o, s, m'⟩ := q
    cases o with
    | ret v => exact ev_leave hD fn env ds _ _
    | pan v =>
      cases m' with
      | ret => exact ev_leave hD fn env ds _ _
      | _ => exact .const _

theorem ev_call (hE : ∀ g a s, Ev (callF g a s) fun n => E n g a s) (hG : ∀ f b t fr s, Ev (again f b t fr s) fun n => G n f b t fr s) (g : FuncId) (args : List AV) (st : St) : Ev (callA P H callF again g args st) fun n => callA P H (E n) (G n) g args st := by
  unfold callA
  cases H.prim g with
  | some F => exact .const _
  | none =>
    simp only
    refine (Ev.const _).bind fun fn => (Ev.const _).bind fun c => .ite ((ev_exec hE (hG g st.length) c _ _).bind fun q => Ev.bind ?_ fun o => .const _) (.const _)
    obtain ⟨ax, fr', st'⟩ := q
    cases ax with
    | normal => exact ev_leave (ev_callD hE hG) fn _ _ _ _
    | ret => exact ev_leave (ev_callD hE hG) fn _ _ _ _
    | panic v => exact ev_leave (ev_callD hE hG) fn _ _ _ _
    | _ => exact .const _
end

section
variable (P : Program) (H : Hints)
theorem levels_step : ∀ n, (∀ g a s r, (levels P H n).1 g a s = some r → (levels P H (n + 1)).1 g a s = some r) ∧ ∀ f b t fr s r, (levels P H n).2 f b t fr s = some r → (levels P H (n + 1)).2 f b t fr s = some r
  | 0 => ⟨fun g a s r h => by simp [levels] at h, fun f b t fr s r h => by simp [levels] at h⟩
  | n + 1 => by
    obtain ⟨h1, h2⟩ := levels_step n
    have hE : ∀ g a s, Ev ((levels P H n).1 g a s) fun _ : Nat => (levels P H (n + 1)).1 g a s := fun g a s r h => ⟨0, fun _ _ => h1 g a s r h⟩
    have hG : ∀ f b t fr s, Ev ((levels P H n).2 f b t fr s) fun _ : Nat => (levels P H (n + 1)).2 f b t fr s := fun f b t fr s r h => ⟨0, fun _ _ => h2 f b t fr s r h⟩
    exact ⟨fun g a s r h => (ev_call (E := fun _ => (levels P H (n + 1)).1) (G := fun _ => (levels P H (n + 1)).2) hE hG g a s r h).elim fun N h => h N (Nat.le_refl N),
      fun f b t fr s r h => (ev_task (E := fun _ => (levels P H (n + 1)).1) (G := fun _ => (levels P H (n + 1)).2 f b) hE (hG f b) t fr s r h).elim fun N h => h N (Nat.le_refl N)⟩
theorem levels_mono {n m : Nat} (h : n ≤ m) : (∀ g a s r, (levels P H n).1 g a s = some r → (levels P H m).1 g a s = some r) ∧ ∀ f b t fr s r, (levels P H n).2 f b t fr s = some r → (levels P H m).2 f b t fr s = some r := by
  induction m with
  | zero => rw [show n = 0 by omega]; exact ⟨fun _ _ _ _ h => h, fun _ _ _ _ _ _ h => h⟩
  | succ m ih =>
    by_cases e : n = m + 1
    · subst e; exact ⟨fun _ _ _ _ h => h, fun _ _ _ _ _ _ h => h⟩
    · obtain ⟨h1, h2⟩ := ih (by omega)
      obtain ⟨h3, h4⟩ := levels_step P H m
      exact ⟨fun g a s r h => h3 g a s r (h1 g a s r h), fun f b t fr s r h => h4 f b t fr s r (h2 f b t fr s r h)⟩

/-- What a chain says at all. -/
noncomputable def limW {α : Type} (s : Nat → Option α) : Option α := open Classical in if h : ∃ n r, s n = some r then some (Classical.choose (Classical.choose_spec h)) else none
theorem limW_some {α : Type} {s : Nat → Option α} {r : α} (h : limW s = some r) : ∃ n, s n = some r := by
  unfold limW at h
  split at h
  · rename_i hh
    simp only [Option.some.injEq] at h
    exact ⟨Classical.choose hh, by rw [← h]; exact Classical.choose_spec (Classical.choose_spec hh)⟩
  · simp at h
theorem limW_of {α : Type} {s : Nat → Option α} {r : α} {n : Nat} (hm : ∀ n m r, n ≤ m → s n = some r → s m = some r) (h : s n = some r) : limW s = some r := by
  have hh : ∃ n r, s n = some r := ⟨n, r, h⟩
  unfold limW
  rw [dif_pos hh]
  have h2 := Classical.choose_spec (Classical.choose_spec hh)
  have h3 := hm _ (max n (Classical.choose hh)) _ (by omega) h2
  have h4 := hm _ (max n (Classical.choose hh)) _ (by omega) h
  rw [h4] at h3
  exact h3.symm

/-- A call by value, at whatever depth it needs. -/
noncomputable def callW (g : FuncId) (args : List AV) (st : St) : Option (AOut × St) := limW fun n => callN P H n g args st
noncomputable def runW (f : FuncId) (base : Nat) (t : Task) (fr : Fr) (st : St) : Option (AX × Fr × St) := limW fun n => runN P H n f base t fr st
variable {P H}
theorem callW_ev (g : FuncId) (a : List AV) (s : St) : Ev (callW P H g a s) fun n => (levels P H n).1 g a s := fun r h => by
  obtain ⟨N, hN⟩ := limW_some h
  exact ⟨N, fun n hn => (levels_mono P H hn).1 g a s r hN⟩
theorem runW_ev (f : FuncId) (b : Nat) (t : Task) (fr : Fr) (s : St) : Ev (runW P H f b t fr s) fun n => (levels P H n).2 f b t fr s := fun r h => by
  obtain ⟨N, hN⟩ := limW_some h
  exact ⟨N, fun n hn => (levels_mono P H hn).2 f b t fr s r hN⟩
theorem callW_of_call {g : FuncId} {args : List AV} {st : St} {r : AOut × St} (h : callA P H (callW P H) (runW P H) g args st = some r) : callW P H g args st = some r := by
  obtain ⟨N, hN⟩ := ev_call callW_ev runW_ev g args st r h
  exact limW_of (n := N + 1) (fun n m r hnm h => (levels_mono P H hnm).1 g args st r h) (hN N (Nat.le_refl N))
theorem runW_of_task {f : FuncId} {b : Nat} {t : Task} {fr : Fr} {st : St} {r : AX × Fr × St} (h : taskA P H (callW P H) (runW P H f b) f b t fr st = some r) : runW P H f b t fr st = some r := by
  obtain ⟨N, hN⟩ := ev_task callW_ev (runW_ev f b) t fr st r h
  exact limW_of (n := N + 1) (fun n m r hnm h => (levels_mono P H hnm).2 f b t fr st r h) (hN N (Nat.le_refl N))
theorem callW_some {g : FuncId} {args : List AV} {st : St} {r : AOut × St} (h : callW P H g args st = some r) : ∃ n, callN P H n g args st = some r := limW_some h

theorem runW_exec {f : FuncId} {b : Nat} {body : Code} {fr : Fr} {st : St} {q : AX × Fr × St} (h : runW P H f b (.round body) fr st = some q) : execA P H (callW P H) (runW P H f b) f b (.loop body) fr st = some q := by
  obtain ⟨N, hN⟩ := limW_some h
  have hN2 := (levels_mono P H (Nat.le_succ N)).2 f b (.round body) fr st q hN
  -- the step below, from the levels to what they come to
  have hE : ∀ g a s, Ev ((levels P H N).1 g a s) fun _ : Nat => callW P H g a s := fun g a s r h => ⟨0, fun _ _ => limW_of (n := N) (fun n m r hnm h => (levels_mono P H hnm).1 g a s r h) h⟩
  have hG : ∀ t fr s, Ev ((levels P H N).2 f b t fr s) fun _ : Nat => runW P H f b t fr s := fun t fr s r h => ⟨0, fun _ _ => limW_of (n := N) (fun n m r hnm h => (levels_mono P H hnm).2 f b t fr s r h) h⟩
  obtain ⟨M, hM⟩ := ev_exec (E := fun _ => callW P H) (G := fun _ => runW P H f b) hE hG (.loop body) fr st q hN2
  exact hM M (Nat.le_refl M)

/-- A CALL, with what comes behind as a function. -/
theorem callW_of {g : FuncId} {args : List AV} {st : St} {r : AOut × St} (h : callK P H (callW P H) (runW P H) g args st = some r) : callW P H g args st = some r :=
  callW_of_call (callK_le (fun f base body fr st q h => runW_exec h) h)

theorem roundV_eq {f : FuncId} {body : Code} {n : Nat} {fr : Fr} {st : St} {e : Fr × St} (hk : H.loopKeep f = false) (h : roundV n (liveF H f body fr) st = some e) : roundEndL H f body n fr st = some e := by
  have hd : (liveF H f body fr).defers = fr.defers := by unfold liveF; split <;> rfl
  unfold roundV at h
  unfold roundEndL roundEnd
  rw [hk]
  simp only [Bool.false_or]
  split at h
  · rename_i hl
    rw [if_pos hl]
    exact h
  · rename_i hl
    rw [if_neg hl]
    rw [hd] at h
    split at h
    · rename_i hc
      rw [if_pos hc]
      simp only [Option.some.injEq] at h
      subst h
      simp only [Option.map_some, Option.some.injEq, Prod.mk.injEq, and_true]
      unfold liveF
      split
      · rfl
      · simp only [List.filter_filter]
        congr 1
        apply List.filter_congr
        intro p _
        exact Bool.and_comm _ _
    · simp at h
/-- A LOOP'S HEAD. -/
theorem roundW_of {R : Type} {f : FuncId} {b : Nat} {body : Code} {fr : Fr} {st : St} {k : AX → Fr → St → Option R} {r : R}
    (h : execK P H (callW P H) (runW P H f b) f b body fr st (loopK H (runW P H f b) f body st.length k) = some r) : headB (runW P H f b (.round body) fr st) k = some r := by
  obtain ⟨q, hq, h2⟩ := execK_le (fun body fr st q h => runW_exec h) h
  obtain ⟨ax, fr', st'⟩ := q
  have key : ∀ {x : AX × Fr × St}, (match (generalizing := false) ax with | .normal => (roundEndL H f body st.length fr' st').bind fun e => runW P H f b (.round body) e.1 e.2 | _ => some (ax, fr', st')) = some x → runW P H f b (.round body) fr st = some x := by
    intro x hx
    refine runW_of_task ?_
    simp only [taskA, execA, hq, Option.bind_some]
    exact hx
  unfold loopK at h2
  cases ax with
  | normal =>
    simp only at h2 key
    split at h2
    · rename_i hk
      obtain ⟨x, hx, h3⟩ := headB_some h2
      have : roundEndL H f body st.length fr' st' = some (liveF H f body fr', st') := by
        unfold roundEndL roundEnd
        rw [hk]; rfl
      rw [this] at key
      simp only [Option.bind_some] at key
      rw [key hx]; exact h3
    · rename_i hk
      obtain ⟨e, he, h3⟩ := Option.bind_eq_some_iff.1 h2
      obtain ⟨x, hx, h4⟩ := headB_some h3
      rw [roundV_eq (by simpa using hk) he] at key
      simp only [Option.bind_some] at key
      rw [key hx]; exact h4
  | exit i => rw [key rfl]; exact h2
  | goto i => rw [key rfl]; exact h2
  | ret => rw [key rfl]; exact h2
  | panic v => rw [key rfl]; exact h2

/-- Behind a jump in a scope. -/
theorem resumeW_of {R : Type} {f : FuncId} {b : Nat} {body rest : Code} {fr : Fr} {st : St} {k : AX → Fr → St → Option R} {r : R}
    (h : execK P H (callW P H) (runW P H f b) f b rest fr st (scopeK (runW P H f b) body k) = some r) : headB (runW P H f b (.resume body rest) fr st) k = some r := by
  obtain ⟨q, hq, h2⟩ := execK_le (fun body fr st q h => runW_exec h) h
  obtain ⟨ax, fr', st'⟩ := q
  have key : ∀ {x : AX × Fr × St}, (match (generalizing := false) ax with | .goto l => (match findLabel body l with | some rest => runW P H f b (.resume body rest) fr' st' | none => some (ax, fr', st')) | _ => some (ax, fr', st')) = some x → runW P H f b (.resume body rest) fr st = some x := by
    intro x hx
    refine runW_of_task ?_
    simp only [taskA, hq, Option.bind_some]
    exact hx
  unfold scopeK at h2
  cases ax with
  | goto l =>
    simp only at h2 key
    split at h2
    · rename_i rest' hf
      obtain ⟨x, hx, h3⟩ := headB_some h2
      rw [hf] at key
      rw [key hx]; exact h3
    · rename_i hf
      rw [hf] at key
      rw [key rfl]; exact h2
  | exit i => rw [key rfl]; exact h2
  | normal => rw [key rfl]; exact h2
  | ret => rw [key rfl]; exact h2
  | panic v => rw [key rfl]; exact h2
end
end Go.Abs

/- The interpreter by value: places in a function's code, and what comes behind them. -/
namespace Go.Abs
open Go
set_option linter.unusedVariables false

/-- A step down into code; into a loop: how many objects there were when the round began. -/
inductive Dir where
  | sl | sr | ca | cb | bk | sc
  | lp (n : Nat)
def codeAt : Code → List Dir → Option Code
  | c, [] => some c
  | .seq a _, .sl :: p => codeAt a p
  | .seq _ b, .sr :: p => codeAt b p
  | .cond _ a _, .ca :: p => codeAt a p
  | .cond _ _ b, .cb :: p => codeAt b p
  | .block _ b, .bk :: p => codeAt b p
  | .loop b, .lp _ :: p => codeAt b p
  | .scope b, .sc :: p => codeAt b p
  | _, _ => none
section
variable {R : Type} (P : Program) (H : Hints) (callF : CallF0) (again : AgainF0) (f : FuncId) (base : Nat)
def seqK (b : Code) (k : AX → Fr → St → Option R) : AX → Fr → St → Option R := fun ax fr st => match ax with | .normal => execK P H callF again f base b (liveF H f b fr) st k | ax => k ax fr st
def blockK (id : Nat) (k : AX → Fr → St → Option R) : AX → Fr → St → Option R := fun ax fr st => match ax with | .exit i => if i = id then k .normal fr st else k (.exit i) fr st | ax => k ax fr st
def kontAt : Code → List Dir → (AX → Fr → St → Option R) → AX → Fr → St → Option R
  | .seq a b, .sl :: p, k => kontAt a p (seqK P H callF again f base b k)
  | .seq _ b, .sr :: p, k => kontAt b p k
  | .cond _ a _, .ca :: p, k => kontAt a p k
  | .cond _ _ b, .cb :: p, k => kontAt b p k
  | .block id b, .bk :: p, k => kontAt b p (blockK id k)
  | .loop b, .lp n :: p, k => kontAt b p (loopK H again f b n k)
  | .scope b, .sc :: p, k => kontAt b p (scopeK again b k)
  | _, _, k => k
end
section
variable (P : Program) (H : Hints)
/-- From a place on, to the function's end. -/
noncomputable def atW (g : FuncId) (base : Nat) (p : List Dir) (fr : Fr) (st : St) : Option (AOut × St) :=
  (P.funcs[g]?).bind fun fn => fn.body.bind fun c => (codeAt c p).bind fun d =>
  execK P H (callW P H) (runW P H g base) g base d fr st (kontAt P H (callW P H) (runW P H g base) g base c p (endK P H (callW P H) (runW P H) g fn base))
/-- From a loop's head on. -/
noncomputable def atL (g : FuncId) (base : Nat) (p : List Dir) (fr : Fr) (st : St) : Option (AOut × St) :=
  (P.funcs[g]?).bind fun fn => fn.body.bind fun c => (codeAt c p).bind fun d => match d with
  | .loop body => execK P H (callW P H) (runW P H g base) g base body fr st (loopK H (runW P H g base) g body st.length (kontAt P H (callW P H) (runW P H g base) g base c p (endK P H (callW P H) (runW P H) g fn base)))
  | _ => none
variable {P H}
theorem atW_of {g : FuncId} {base : Nat} {p : List Dir} {fr : Fr} {st : St} {r : AOut × St} (h : atL P H g base p fr st = some r) : atW P H g base p fr st = some r := by
  unfold atL at h
  unfold atW
  obtain ⟨fn, hfn, h2⟩ := Option.bind_eq_some_iff.1 h
  obtain ⟨c, hc, h3⟩ := Option.bind_eq_some_iff.1 h2
  obtain ⟨d, hd, h4⟩ := Option.bind_eq_some_iff.1 h3
  simp only [hfn, hc, hd, Option.bind_some]
  split at h4
  · exact roundW_of h4
  · simp at h4
/-- A place's loop, as a head of another form (so that two places are not held against each other). -/
noncomputable def atQ (g : FuncId) (base : Nat) (p : List Dir) (fr : Fr) (st : St) : Option (AOut × St) :=
  match P.funcs[g]? with
  | some fn => match fn.body with
    | some c => match codeAt c p with
      | some (.loop body) => headB (runW P H g base (.round body) fr st) (kontAt P H (callW P H) (runW P H g base) g base c p (endK P H (callW P H) (runW P H) g fn base))
      | _ => none
    | none => none
  | none => none
def loopAt (P : Program) (g : FuncId) (p : List Dir) : Bool :=
  match P.funcs[g]? with
  | some fn => match fn.body with
    | some c => match codeAt c p with
      | some (.loop _) => true
      | _ => false
    | none => false
  | none => false
theorem atQ_of {g : FuncId} {base : Nat} {p : List Dir} {fr : Fr} {st : St} {r : AOut × St} (hq : loopAt P g p = true) (h : atW P H g base p fr st = some r) : atQ (P := P) (H := H) g base p fr st = some r := by
  unfold loopAt at hq
  unfold atQ
  unfold atW at h
  obtain ⟨fn, hfn, h2⟩ := Option.bind_eq_some_iff.1 h
  obtain ⟨c, hc, h3⟩ := Option.bind_eq_some_iff.1 h2
  obtain ⟨d, hd, h4⟩ := Option.bind_eq_some_iff.1 h3
  simp only [hfn, hc, hd] at hq ⊢
  cases d with
  | loop body => simpa only [execK] using h4
  | _ => simp at hq
/-- A call, by what it comes to. -/
noncomputable def callE (g : FuncId) (args : List AV) (st : St) : Option (AOut × St) := callK P H (callW P H) (runW P H) g args st
end
end Go.Abs

/- From a run by value to a call of the machine: the memory that a call begins in; what a reading of an argument says of it by value. -/
namespace Go.Abs
open Go Go.RowKit
set_option linter.unusedVariables false
set_option linter.unusedSimpArgs false

section
variable {P : Program} {H : Hints} {w : World}

/-- All that lies in memory when a call begins, is never written again. -/
def ghost0 (w : World) : Gh := { I := fun b i => (w.cell? ⟨b, i, none⟩).filter (·.oneCell'), sh := w.shape?, R := fun _ _ => none, B := fun _ => none, L := fun _ _ _ => none, lo := w.heap.size }
theorem wf0 : WF P w w.heap.size (ghost0 w) [] w := by
  refine ⟨Below.refl _ _, Nat.le_refl _, fun b i v hv => ?_, fun b x hx => hx, fun o x hx => by simp [St.get] at hx, fun o x hx => by simp [St.get] at hx, fun o o' x x' b hx => by simp [St.get] at hx, fun _ _ _ => rfl, fun _ _ => rfl, fun _ _ _ _ => rfl, rfl⟩
  have hv' : (w.cell? ⟨b, i, none⟩).filter (·.oneCell') = some v := hv
  rw [Option.filter_eq_some_iff] at hv'
  exact hv'
theorem ghost0_I {b i : Nat} {v : Value} (h : w.cell? ⟨b, i, none⟩ = some v) (h1 : v.oneCell' = true) : (ghost0 w).I b i = some v := by
  show (w.cell? ⟨b, i, none⟩).filter (·.oneCell') = some v
  rw [h]; simp [Option.filter, h1]

/-- A call by value is a call. -/
theorem callW_calls (hP : ProgOk P H) (hX : ExtOk P H) (hm : P.follows .mixedOrders = true) (hp : ∀ g, H.prim g = none) {W : World} {bs : Nat} {g : FuncId} {as : List AV} {st : St} {r : AOut × St} (h : callW P H g as st = some r) {σ : Gh} {w : World} {vs : List Value}
    (hw : WF P W bs σ st w) (hg : GlobOk P H σ) (hr : Reps P σ vs as) : Calls P g vs.toArray w (EndOk P W bs σ r.1 r.2) := by
  obtain ⟨n, hn⟩ := callW_some h
  exact (callN_ok hP hX (fun g F hF => by rw [hp g] at hF; cases hF) (draw_ok hm hX) n g as st r hn).2 σ w vs hw hg hr

/-! ### What a reading says, by value -/
def avD {T : Type} (P : Program) : Nat → TypeId → DataW T → Option (List AV)
  | 0, _, _ => none
  | n + 1, t, d =>
    match P.underlying t, d with
    | some .bool, .lit (.bool b) => some [.bool b]
    | some (.int k), .lit (.int k' n) => if k' = k ∧ (Lit.int k n).wf = true then some [.int k n] else none
    | some .string, .lit (.string s) => some [.str s]
    | some (.pointer _), .nil => some [.nilp]
    | some (.slice _), .nil => some [.nils]
    | some (.slice e), .slice elems _ => (kdOf P e).bind fun kd => (elems.mapM (avD P n e)).map fun rows => [.sl kd rows 0 rows.length .no]
    | some (.struct fs), .agg parts => if parts.length = fs.size then ((fs.toList.zip parts).mapM fun p => avD P n p.1.type p.2).map List.flatten else none
    | some (.array m e), .agg parts => if parts.length = m then (parts.mapM (avD P n e)).map List.flatten else none
    | some (.map _ _), .nil => some [.nilm]
    | some (.func ..), .nil => some [.nilf]
    | some (.interface _), .nil => some [.nili]
    | _, _ => none

theorem addr_of_cell {a : Addr} {v : Value} (h : w.cell? a = some v) : a.spot = none := by
  unfold World.cell? at h
  split at h
  · split at h
    · simp at h
    · rename_i hs; simpa using hs
  · simp at h
theorem addr_eta {a : Addr} (h : a.spot = none) : a = ⟨a.block, a.off, none⟩ := by cases a; simp_all
theorem mapM_len {α β : Type} {g : α → Option β} {l : List α} {l' : List β} (h : l.mapM g = some l') : l'.length = l.length := by
  induction l generalizing l' with
  | nil => simp at h; subst h; rfl
  | cons a l ih =>
    rw [List.mapM_cons] at h
    obtain ⟨b, hb, h2⟩ := Option.bind_eq_some_iff.1 h
    obtain ⟨bs, hbs, h3⟩ := Option.bind_eq_some_iff.1 h2
    simp only [Option.pure_def, Option.some.injEq] at h3
    subst h3
    simp [ih hbs]
theorem cells_get {base b o n : Nat} {cs : List Value} (h : w.cells? base ⟨b, o, none⟩ n = some cs) : cs.length = n ∧ ∀ j, j < n → w.cell? ⟨b, o + j, none⟩ = cs[j]? := by
  unfold World.cells? at h
  split at h
  · have hl := mapM_len h
    rw [List.length_range] at hl
    refine ⟨hl, fun j hj => ?_⟩
    have := mapM_get h j
    rw [this, List.getElem?_range hj]
    simp only [Option.bind_some, addr_add]
  · simp at h
theorem size_of_cell {b i : Nat} {v : Value} (h : w.cell? ⟨b, i, none⟩ = some v) : ∃ e n, w.shape? b = some (e, n) ∧ i < n := by
  unfold World.cell? at h
  unfold World.shape?
  split at h
  · rename_i c e fz hc
    rw [show (⟨b, i, none⟩ : Addr).block = b from rfl] at hc
    simp only [Option.isSome_none, Bool.false_eq_true, if_false] at h
    rw [hc]
    exact ⟨e, c.size, rfl, (Array.getElem?_eq_some_iff.1 h).1⟩
  · simp at h
theorem sizeof_of {t : TypeId} {n : Nat} (h : szOf P t = some n) : P.cellsOf t = n := by
  unfold szOf at h
  unfold Program.cellsOf
  rw [h]; rfl

variable {T : Type} {enc : TypeId × Value → T} {base : Nat} {held : Bool}

theorem flatten_at {α β : Type} {f : α → β → Prop} : ∀ {xs : List (List α)} {ys : List (List β)}, xs.length = ys.length → (∀ (i : Nat) x y, xs[i]? = some x → ys[i]? = some y → x.length = y.length ∧ ∀ (j : Nat) a b, x[j]? = some a → y[j]? = some b → f a b) →
    xs.flatten.length = ys.flatten.length ∧ ∀ (j : Nat) a b, xs.flatten[j]? = some a → ys.flatten[j]? = some b → f a b
  | [], [], _, _ => ⟨rfl, fun j a b h => by simp at h⟩
  | x :: xs, y :: ys, hl, h => by
    obtain ⟨h1, h2⟩ := h 0 x y rfl rfl
    obtain ⟨h3, h4⟩ := flatten_at (xs := xs) (ys := ys) (by simpa using hl) fun i x y hx hy => h (i + 1) x y (by simpa using hx) (by simpa using hy)
    refine ⟨by simp only [List.flatten_cons, List.length_append]; omega, fun j a b ha hb => ?_⟩
    simp only [List.flatten_cons] at ha hb
    by_cases hj : j < x.length
    · rw [List.getElem?_append_left hj] at ha
      rw [List.getElem?_append_left (by omega)] at hb
      exact h2 j a b ha hb
    · rw [List.getElem?_append_right (by omega)] at ha
      rw [List.getElem?_append_right (by omega)] at hb
      rw [← h1] at hb
      exact h4 _ a b ha hb
  | [], _ :: _, hl, _ => by simp at hl
  | _ :: _, [], hl, _ => by simp at hl

/-- A list cut into pieces of given lengths. -/
def cuts {α : Type} : List Nat → List α → List (List α)
  | [], _ => []
  | n :: ns, l => l.take n :: cuts ns (l.drop n)
theorem cuts_flatten {α : Type} : ∀ {ns : List Nat} {l : List α}, l.length = ns.sum → (cuts ns l).flatten = l
  | [], l, h => by simp at h; simp [cuts, h]
  | n :: ns, l, h => by
    simp only [List.sum_cons] at h
    simp only [cuts, List.flatten_cons]
    rw [cuts_flatten (by simp; omega), List.take_append_drop]
theorem cuts_length {α : Type} : ∀ {ns : List Nat} {l : List α}, (cuts ns l).length = ns.length
  | [], l => rfl
  | n :: ns, l => by simp [cuts, cuts_length]
theorem cuts_get {α : Type} : ∀ {ns : List Nat} {l : List α} {i n : Nat}, ns[i]? = some n → (cuts ns l)[i]? = some ((l.drop (ns.take i).sum).take n)
  | [], l, i, n, h => by simp at h
  | m :: ns, l, 0, n, h => by simp at h; subst h; simp [cuts]
  | m :: ns, l, i + 1, n, h => by
    have := cuts_get (ns := ns) (l := l.drop m) (i := i) (n := n) (by simpa using h)
    simpa [cuts, List.drop_drop] using this

theorem ChangeBears_slice (hl : laidOutB P = true) {t e : TypeId} (ht : t < P.types.size) (hu : P.underlying t = some (.slice e)) : e < P.types.size := kid_slice hl ht hu
theorem trod_rep (hl : laidOutB P = true) {S : List TypeId} (hS : ∀ t ∈ S, (∀ e, P.underlying t = some (.slice e) → e ∈ S) ∧ (∀ fs, P.underlying t = some (.struct fs) → ∀ f ∈ fs.toList, f.type ∈ S) ∧ ∀ n e, P.underlying t = some (.array n e) → e ∈ S) :
    ∀ (fuel : Nat) (t : TypeId) (cs : List Value) (d : DataW T) (ps : List MemPlace) (as : List AV), t ∈ S → t < P.types.size → DataW.trod enc P w base (fun _ => true) held fuel t cs = some (d, ps) → avD P fuel t d = some as →
      cs.length = as.length ∧ (∀ v ∈ cs, v.oneCell' = true) ∧ ∀ (j : Nat) v a, cs[j]? = some v → as[j]? = some a → Rep P (ghost0 w) v a := by
  intro fuel
  induction fuel with
  | zero => intro t cs d ps as hts ht h; simp [DataW.trod] at h
  | succ fuel ih =>
    intro t cs d ps as hts ht h ha
    have one : ∀ {v : Value} {a : AV}, cs = [v] → as = [a] → v.oneCell' = true → Rep P (ghost0 w) v a → cs.length = as.length ∧ (∀ v ∈ cs, v.oneCell' = true) ∧ ∀ (j : Nat) v a, cs[j]? = some v → as[j]? = some a → Rep P (ghost0 w) v a := by
      intro v a h1 h2 h3 h4
      subst h1; subst h2
      refine ⟨rfl, by simpa using h3, fun j v' a' hj hj' => ?_⟩
      cases j with
      | zero => simp at hj hj'; subst hj; subst hj'; exact h4
      | succ j => simp at hj
    unfold DataW.trod at h
    unfold avD at ha
    split at h
    · -- bool
      rename_i b hu
      simp only [Option.some.injEq, Prod.mk.injEq] at h
      obtain ⟨rfl, rfl⟩ := h
      rw [hu] at ha
      simp only [Option.some.injEq] at ha
      exact one rfl ha.symm rfl (.bool b)
    · -- int
      rename_i k k' n hu
      split at h
      · rename_i hk
        simp only [Option.some.injEq, Prod.mk.injEq] at h
        obtain ⟨rfl, rfl⟩ := h
        rw [hu] at ha
        simp only [hk.2, and_self, if_true, Option.some.injEq] at ha
        rw [← hk.1] at ha
        exact one rfl ha.symm rfl (.int k' n)
      · simp at h
    · -- float
      rename_i hu
      split at h
      · simp only [Option.some.injEq, Prod.mk.injEq] at h
        obtain ⟨rfl, rfl⟩ := h
        rw [hu] at ha
        simp at ha
      · simp at h
    · -- string
      rename_i s hu
      split at h
      · simp only [Option.some.injEq, Prod.mk.injEq] at h
        obtain ⟨rfl, rfl⟩ := h
        rw [hu] at ha
        simp only [Option.some.injEq] at ha
        exact one rfl ha.symm rfl (.str s)
      · simp at h
    · -- nil pointer
      rename_i e hu
      simp only [Option.some.injEq, Prod.mk.injEq] at h
      obtain ⟨rfl, rfl⟩ := h
      rw [hu] at ha
      simp only [Option.some.injEq] at ha
      exact one rfl ha.symm rfl .nilp
    · rename_i e a hu
      obtain ⟨x, _, h2⟩ := Option.map_eq_some_iff.1 h
      simp only [Prod.mk.injEq] at h2
      obtain ⟨rfl, _⟩ := h2
      rw [hu] at ha
      simp at ha
    · -- nil slice
      rename_i e hu
      simp only [Option.some.injEq, Prod.mk.injEq] at h
      obtain ⟨rfl, rfl⟩ := h
      rw [hu] at ha
      simp only [Option.some.injEq] at ha
      exact one rfl ha.symm rfl .nils
    · -- a slice
      rename_i e a len cap hu
      simp only at h
      split at h
      · rename_i hb
        obtain ⟨elems, he, h2⟩ := Option.bind_eq_some_iff.1 h
        obtain ⟨rest, hr, h3⟩ := Option.map_eq_some_iff.1 h2
        simp only [if_true] at hr
        simp only [Prod.mk.injEq] at h3
        obtain ⟨rfl, _⟩ := h3
        rw [hu] at ha
        simp only at ha
        obtain ⟨kd, hkd, ha2⟩ := Option.bind_eq_some_iff.1 ha
        obtain ⟨rows, hrows, ha3⟩ := Option.map_eq_some_iff.1 ha2
        obtain ⟨hsz, hu8⟩ := kdOf_sz hkd
        have hce := sizeof_of hsz
        have hpos := szk_pos kd
        have hel : elems.length = len := by simpa using mapM_len he
        have hrl : rest.length = cap - len := by simpa using mapM_len hr
        have hrwl : rows.length = len := by have := mapM_len hrows; simpa [hel] using this
        -- an element's cells
        have elem : ∀ i, i < cap → ∃ x ci, w.cells? base (a.add (i * P.cellsOf e)) (P.cellsOf e) = some ci ∧ DataW.trod enc P w base (fun _ => true) held fuel e ci = some x ∧ (i < len → elems[i]? = some x) := by
          intro i hi
          by_cases hil : i < len
          · have := mapM_get he i
            rw [List.getElem?_range hil] at this
            simp only [Option.bind_some] at this
            have h4 : elems[i]? = some (elems[i]'(by omega)) := List.getElem?_eq_getElem _
            rw [h4] at this
            obtain ⟨ci, h5, h6⟩ := Option.bind_eq_some_iff.1 this.symm
            exact ⟨_, ci, h5, h6, fun _ => h4⟩
          · have := mapM_get hr (i - len)
            rw [List.getElem?_range (by omega)] at this
            simp only [Option.bind_some] at this
            have h4 : rest[i - len]? = some (rest[i - len]'(by omega)) := List.getElem?_eq_getElem _
            rw [h4, show len + (i - len) = i by omega] at this
            obtain ⟨ci, h5, h6⟩ := Option.bind_eq_some_iff.1 this.symm
            exact ⟨_, ci, h5, h6, fun h => absurd h hil⟩
        by_cases hc : cap = 0
        · subst hc
          have hl0 : len = 0 := by omega
          subst hl0
          have : rows = [] := List.eq_nil_of_length_eq_zero (by omega)
          subst this
          exact one rfl ha3.symm rfl (.slz a kd)
        have hspot : a.spot = none := by
          obtain ⟨x, ci, h5, _, _⟩ := elem 0 (by omega)
          rw [Nat.zero_mul, show a.add 0 = a from rfl] at h5
          unfold World.cells? at h5
          split at h5
          · have := mapM_get h5 0
            rw [List.getElem?_range (by omega)] at this
            simp only [Option.bind_some, show a.add 0 = a from rfl] at this
            have hl5 := mapM_len h5
            rw [List.length_range] at hl5
            rw [List.getElem?_eq_getElem (by omega)] at this
            exact addr_of_cell this.symm
          · simp at h5
        obtain ⟨b, o, sp⟩ := a
        simp only at hspot
        subst hspot
        have cell : ∀ i, i < cap → ∃ x ci, ci.length = szk kd ∧ (∀ j, j < szk kd → w.cell? ⟨b, o + i * szk kd + j, none⟩ = ci[j]?) ∧ DataW.trod enc P w base (fun _ => true) held fuel e ci = some x ∧ (i < len → elems[i]? = some x) := by
          intro i hi
          obtain ⟨x, ci, h5, h6, h7⟩ := elem i hi
          rw [addr_add, hce] at h5
          obtain ⟨h8, h9⟩ := cells_get h5
          exact ⟨x, ci, h8, h9, h6, h7⟩
        have row : ∀ (i : Nat) r, rows[i]? = some r → r.length = szk kd ∧ ∀ (j : Nat) z, r[j]? = some z → ∃ v, w.cell? ⟨b, o + i * szk kd + j, none⟩ = some v ∧ v.oneCell' = true ∧ Rep P (ghost0 w) v z := by
          intro i r hi
          have hil : i < len := by rw [← hrwl]; exact (List.getElem?_eq_some_iff.1 hi).1
          obtain ⟨x, ci, c1, c2, c3, c4⟩ := cell i (by omega)
          have hxr : avD P fuel e x.1 = some r := by
            have := mapM_get hrows i
            rw [hi, List.getElem?_map, c4 hil] at this
            simpa using this.symm
          obtain ⟨q1, q2, q3⟩ := ih e ci x.1 x.2 r ((hS t hts).1 e hu) (ChangeBears_slice hl ht hu) c3 hxr
          refine ⟨by omega, fun j z hz => ?_⟩
          have hjl := (List.getElem?_eq_some_iff.1 hz).1
          have hv : ci[j]? = some (ci[j]'(by omega)) := List.getElem?_eq_getElem _
          exact ⟨_, by rw [c2 j (by omega)]; exact hv, q2 _ (List.getElem_mem _), q3 j _ z hv hz⟩
        refine one rfl ha3.symm rfl ?_
        have hlen : rows.length = len := hrwl
        subst hlen
        refine .sl b o o rows.length cap kd rows 0 .no (by omega) (fun r hr => ?_) (by omega) (fun _ => by simp) ?_ trivial (fun i r j z h1 h2 => ?_) (fun i r j z v h1 h2 h3 => ?_)
        · obtain ⟨i, hi⟩ := List.getElem?_of_mem hr
          exact (row i r hi).1
        · first
          | done
          | obtain ⟨x, ci, c1, c2, _, _⟩ := cell (cap - 1) (by omega)
            have := c2 (szk kd - 1) (by omega)
            rw [List.getElem?_eq_getElem (by omega)] at this
            obtain ⟨se, sn, s1, s2⟩ := size_of_cell this
            refine .inr ⟨se, sn, s1, ?_, fun h => by cases h⟩
            have e1 : (cap - 1) * szk kd + szk kd = cap * szk kd := by rw [← Nat.succ_mul]; congr 1; omega
            have e2 : rows.length * szk kd ≤ cap * szk kd := Nat.mul_le_mul_right _ hb.2.1
            refine Nat.max_le.2 ⟨by omega, ?_⟩
            rw [if_neg hc]; omega
        · obtain ⟨v, v1, v2, _⟩ := (row i r h1).2 j z h2
          rw [ghost0_I v1 v2]; rfl
        · obtain ⟨v', v1, v2, v3⟩ := (row i r h1).2 j z h2
          rw [ghost0_I v1 v2] at h3
          cases h3
          exact v3
      · simp at h
    · -- a struct
      rename_i cs _ _ fs hu
      split at h
      · rename_i hcl
        obtain ⟨xs, hxs, h2⟩ := Option.map_eq_some_iff.1 h
        simp only [Prod.mk.injEq] at h2
        obtain ⟨rfl, _⟩ := h2
        rw [hu] at ha
        simp only at ha
        split at ha
        · rename_i hpl
          obtain ⟨ys, hys, ha2⟩ := Option.map_eq_some_iff.1 ha
          obtain ⟨k1, k2, k3⟩ := kid_struct hl ht hu
          have hxl : xs.length = fs.size := by simpa using mapM_len hxs
          have hyl : ys.length = fs.size := by have := mapM_len hys; simp at this; omega
          have hfl : (cuts (fs.toList.map fun f => P.cellsOf f.type) cs).flatten = cs := cuts_flatten (by rw [hcl, k2])
          have piece : ∀ (i : Nat) x y, (cuts (fs.toList.map fun f => P.cellsOf f.type) cs)[i]? = some x → ys[i]? = some y → x.length = y.length ∧ (∀ v ∈ x, v.oneCell' = true) ∧ ∀ (j : Nat) a b, x[j]? = some a → y[j]? = some b → Rep P (ghost0 w) a b := by
            intro i x y hx hy
            have hi : i < fs.size := by rw [← hyl]; exact (List.getElem?_eq_some_iff.1 hy).1
            have hf : fs.toList[i]? = some fs[i] := by simp [hi]
            have hxi : xs[i]? = some (xs[i]'(by omega)) := List.getElem?_eq_getElem _
            have t1 := mapM_get hxs i
            rw [hf, hxi] at t1
            simp only [Option.bind_some] at t1
            have t2 := mapM_get hys i
            have hz : (fs.toList.zip (xs.map (·.1)))[i]? = some (fs[i], (xs[i]'(by omega)).1) := List.getElem?_zip_eq_some.2 ⟨hf, by simp [hxi]⟩
            rw [hy, hz] at t2
            simp only [Option.bind_some] at t2
            have t3 := cuts_get (ns := fs.toList.map fun f => P.cellsOf f.type) (l := cs) (i := i) (n := P.cellsOf fs[i].type) (by simp [hf])
            rw [hx] at t3
            simp only [Option.some.injEq] at t3
            rw [← List.map_take, ← k3 i fs[i] hf] at t3
            rw [← t3] at t1
            exact ih _ x _ _ y ((hS t hts).2.1 fs hu _ (List.mem_of_getElem? hf)) (k1 _ (List.mem_of_getElem? hf)) t1.symm t2.symm
          have hfa := flatten_at (f := fun a b => Rep P (ghost0 w) a b) (xs := cuts (fs.toList.map fun f => P.cellsOf f.type) cs) (ys := ys) (by rw [cuts_length]; simp [hyl]) fun i x y hx hy => ⟨(piece i x y hx hy).1, (piece i x y hx hy).2.2⟩
          rw [hfl, ha2] at hfa
          refine ⟨hfa.1, fun v hv => ?_, hfa.2⟩
          rw [← hfl] at hv
          obtain ⟨x, hx, hvx⟩ := List.mem_flatten.1 hv
          obtain ⟨i, hi⟩ := List.getElem?_of_mem hx
          have hil := (List.getElem?_eq_some_iff.1 hi).1
          rw [cuts_length] at hil
          simp at hil
          exact (piece i x _ hi (List.getElem?_eq_getElem (by omega))).2.1 v hvx
        · simp at ha
      · simp at h
    · -- an array
      rename_i cs _ _ m e hu
      split at h
      · rename_i hcl
        obtain ⟨xs, hxs, h2⟩ := Option.map_eq_some_iff.1 h
        simp only [Prod.mk.injEq] at h2
        obtain ⟨rfl, _⟩ := h2
        rw [hu] at ha
        simp only at ha
        split at ha
        · rename_i hpl
          obtain ⟨ys, hys, ha2⟩ := Option.map_eq_some_iff.1 ha
          obtain ⟨k1, k2⟩ := kid_array hl ht hu
          have hxl : xs.length = m := by simpa using mapM_len hxs
          have hyl : ys.length = m := by have := mapM_len hys; simp at this; omega
          have hfl : (cuts (List.replicate m (P.cellsOf e)) cs).flatten = cs := cuts_flatten (by rw [hcl, k2]; simp)
          have piece : ∀ (i : Nat) x y, (cuts (List.replicate m (P.cellsOf e)) cs)[i]? = some x → ys[i]? = some y → x.length = y.length ∧ (∀ v ∈ x, v.oneCell' = true) ∧ ∀ (j : Nat) a b, x[j]? = some a → y[j]? = some b → Rep P (ghost0 w) a b := by
            intro i x y hx hy
            have hi : i < m := by rw [← hyl]; exact (List.getElem?_eq_some_iff.1 hy).1
            have hxi : xs[i]? = some (xs[i]'(by omega)) := List.getElem?_eq_getElem _
            have t1 := mapM_get hxs i
            rw [List.getElem?_range hi, hxi] at t1
            simp only [Option.bind_some] at t1
            have t2 := mapM_get hys i
            rw [hy, List.getElem?_map, hxi] at t2
            simp only [Option.map_some, Option.bind_some] at t2
            have t3 := cuts_get (ns := List.replicate m (P.cellsOf e)) (l := cs) (i := i) (n := P.cellsOf e) (by simp [hi])
            rw [hx] at t3
            simp only [Option.some.injEq] at t3
            have e1 : ((List.replicate m (P.cellsOf e)).take i).sum = i * P.cellsOf e := by simp [List.take_replicate, Nat.min_eq_left (Nat.le_of_lt hi)]
            rw [e1] at t3
            rw [← t3] at t1
            exact ih _ x _ _ y ((hS t hts).2.2 m e hu) k1 t1.symm t2.symm
          have hfa := flatten_at (f := fun a b => Rep P (ghost0 w) a b) (xs := cuts (List.replicate m (P.cellsOf e)) cs) (ys := ys) (by rw [cuts_length]; simp [hyl]) fun i x y hx hy => ⟨(piece i x y hx hy).1, (piece i x y hx hy).2.2⟩
          rw [hfl, ha2] at hfa
          refine ⟨hfa.1, fun v hv => ?_, hfa.2⟩
          rw [← hfl] at hv
          obtain ⟨x, hx, hvx⟩ := List.mem_flatten.1 hv
          obtain ⟨i, hi⟩ := List.getElem?_of_mem hx
          have hil := (List.getElem?_eq_some_iff.1 hi).1
          rw [cuts_length] at hil
          simp at hil
          exact (piece i x _ hi (List.getElem?_eq_getElem (by omega))).2.1 v hvx
        · simp at ha
      · simp at h
    · -- no interface value
      rename_i hu
      simp only [Option.some.injEq, Prod.mk.injEq] at h
      obtain ⟨rfl, rfl⟩ := h
      rw [hu] at ha
      simp only [Option.some.injEq] at ha
      exact one rfl ha.symm rfl .nili
    · -- an interface value
      rename_i hu
      split at h
      · simp only [Option.some.injEq, Prod.mk.injEq] at h
        obtain ⟨rfl, rfl⟩ := h
        rw [hu] at ha
        simp at ha
      · obtain ⟨x, _, h2⟩ := Option.map_eq_some_iff.1 h
        simp only [Prod.mk.injEq] at h2
        obtain ⟨rfl, _⟩ := h2
        rw [hu] at ha
        simp at ha
      · simp at h
    · -- no map
      rename_i hu
      simp only [Option.some.injEq, Prod.mk.injEq] at h
      obtain ⟨rfl, rfl⟩ := h
      rw [hu] at ha
      simp only [Option.some.injEq] at ha
      exact one rfl ha.symm rfl .nilm
    · -- a map
      rename_i hu
      split at h
      · split at h
        · obtain ⟨x, _, h2⟩ := Option.bind_eq_some_iff.1 h
          simp only at h2
          split at h2
          · simp only [Option.some.injEq, Prod.mk.injEq] at h2
            obtain ⟨rfl, _⟩ := h2
            rw [hu] at ha
            simp at ha
          · simp at h2
        · simp at h
      · simp at h
    · -- no function
      rename_i hu
      simp only [Option.some.injEq, Prod.mk.injEq] at h
      obtain ⟨rfl, rfl⟩ := h
      rw [hu] at ha
      simp only [Option.some.injEq] at ha
      exact one rfl ha.symm rfl .nilf
    all_goals first
      | (simp at h; done)
      | (rename_i hu
         first
         | (simp only [Option.some.injEq, Prod.mk.injEq] at h; obtain ⟨rfl, rfl⟩ := h; rw [hu] at ha; simp at ha; done)
         | (split at h
            · simp only [Option.some.injEq, Prod.mk.injEq] at h
              obtain ⟨rfl, rfl⟩ := h
              rw [hu] at ha
              simp at ha
            · simp at h))

/-- Types in whose cells no slice stands. -/
def noSlB (P : Program) : Nat → TypeId → Bool
  | 0, _ => false
  | n + 1, t => match P.underlying t with
    | some .bool => true
    | some (.int _) => true
    | some .string => true
    | some (.struct fs) => fs.toList.all fun f => noSlB P n f.type
    | _ => false
theorem trod_noSl (hl : laidOutB P = true) {sp : Nat → Bool} : ∀ (n : Nat) (t : TypeId), noSlB P n t = true → t < P.types.size → ∀ (fuel : Nat) (cs : List Value) (d : DataW T) (ps : List MemPlace), DataW.trod enc P w base sp held fuel t cs = some (d, ps) → ∀ a len, Value.slice (some a) len 0 ∉ cs := by
  intro n
  induction n with
  | zero => intro t h; simp [noSlB] at h
  | succ n ih =>
    intro t hn ht fuel cs d ps h a len hm
    cases fuel with
    | zero => simp [DataW.trod] at h
    | succ fuel =>
      unfold DataW.trod at h
      unfold noSlB at hn
      split at hn
      · rename_i hu
        rw [hu] at h
        split at h <;> first | (simp at hm; done) | (simp at h; done) | (simp_all; done)
      · rename_i hu
        rw [hu] at h
        split at h <;> first | (simp at hm; done) | (simp at h; done) | (simp_all; done)
      · rename_i hu
        rw [hu] at h
        split at h <;> first | (simp at hm; done) | (simp at h; done) | (simp_all; done)
      · rename_i fs hu
        rw [hu] at h
        simp only at h
        split at h
        · rename_i hcl
          obtain ⟨xs, hxs, _⟩ := Option.map_eq_some_iff.1 h
          obtain ⟨k1, k2, k3⟩ := kid_struct hl ht hu
          have hfl : (cuts (fs.toList.map fun f => P.cellsOf f.type) cs).flatten = cs := cuts_flatten (by rw [hcl, k2])
          rw [← hfl] at hm
          obtain ⟨x, hx, hvx⟩ := List.mem_flatten.1 hm
          obtain ⟨i, hi⟩ := List.getElem?_of_mem hx
          have hil := (List.getElem?_eq_some_iff.1 hi).1
          rw [cuts_length] at hil
          simp at hil
          have hf : fs.toList[i]? = some fs[i] := by simp [hil]
          have hxl : xs.length = fs.size := by simpa using mapM_len hxs
          have t3 := cuts_get (ns := fs.toList.map fun f => P.cellsOf f.type) (l := cs) (i := i) (n := P.cellsOf fs[i].type) (by simp [hf])
          rw [hi] at t3
          simp only [Option.some.injEq] at t3
          rw [← List.map_take, ← k3 i fs[i] hf] at t3
          have t1 := mapM_get hxs i
          rw [hf, List.getElem?_eq_getElem (by omega)] at t1
          simp only [Option.bind_some] at t1
          rw [← t3] at t1
          exact ih _ (List.all_eq_true.1 hn _ (List.mem_of_getElem? hf)) (k1 _ (List.mem_of_getElem? hf)) fuel x _ _ t1.symm a len hvx
        · simp at h
      · simp at hn
end
end Go.Abs

/- From a run by value to a law's contract. -/
namespace Go.Abs
open Go Go.RowKit Go.ChangeShapes
set_option linter.unusedVariables false
set_option linter.unusedSimpArgs false

section
variable {P : Program} {H : Hints} {w : World} {T : Type} {enc : TypeId × Value → T}

/-! ### The program's facts, as one check each -/
def progOkB (P : Program) (H : Hints) : Bool := (List.range P.funcs.size).all fun g => match P.funcs[g]? with
  | some fn => (match fn.body with
    | some c => !(fn.name == "runtime.NumGoroutine") && codeOk H g fn.ntmps c && (List.range (fn.params.size + fn.nfree)).all fun i => (H.keep g).contains i
    | none => true)
  | none => true
theorem progOk_of (h : progOkB P H = true) : ProgOk P H := by
  intro g fn c hf hb
  have := List.all_eq_true.1 h g (List.mem_range.2 (Array.getElem?_eq_some_iff.1 hf).1)
  simp only [hf, hb, Bool.and_eq_true, Bool.not_eq_true'] at this
  exact ⟨this.1.1, this.1.2, fun i hi => List.all_eq_true.1 this.2 i (List.mem_range.2 hi)⟩
theorem extOk_none (h : ∀ g, H.ext g = none) : ExtOk P H := fun g F hF => by rw [h g] at hF; cases hF
theorem globOk_none {σ : Gh} (h : ∀ g, H.glob g = none) : GlobOk P H σ := fun g row hr => by rw [h g] at hr; cases hr

/-! ### Types of plain data -/
def plainSetB (P : Program) (S : List TypeId) : Bool := S.all fun t => match P.underlying t with
  | some .bool => true
  | some (.int _) => true
  | some .string => true
  | some (.slice e) => S.contains e && (kdOf P e).isSome
  | some (.struct fs) => fs.toList.all fun f => S.contains f.type
  | some (.array _ e) => S.contains e
  | _ => false

theorem mapM_isSome {α β : Type} {g : α → Option β} {l : List α} (h : ∀ x ∈ l, (g x).isSome = true) : (l.mapM g).isSome = true := by
  induction l with
  | nil => rfl
  | cons a l ih =>
    obtain ⟨b, hb⟩ := Option.isSome_iff_exists.1 (h a List.mem_cons_self)
    obtain ⟨bs, hbs⟩ := Option.isSome_iff_exists.1 (ih fun x hx => h x (List.mem_cons_of_mem _ hx))
    rw [List.mapM_cons, hb]
    simp [hbs]

theorem trod_plain {S : List TypeId} (hS : plainSetB P S = true) {base : Nat} {sp : Nat → Bool} {held : Bool} : ∀ (fuel : Nat) (t : TypeId) (cs : List Value) (d : DataW T) (ps : List MemPlace), t ∈ S → DataW.trod enc P w base sp held fuel t cs = some (d, ps) → (avD P fuel t d).isSome = true := by
  intro fuel
  induction fuel with
  | zero => intro t cs d ps ht h; simp [DataW.trod] at h
  | succ fuel ih =>
    intro t cs d ps ht h
    have hp := List.all_eq_true.1 hS t ht
    unfold avD
    unfold DataW.trod at h
    split at h
    · rename_i hu
      simp only [Option.some.injEq, Prod.mk.injEq] at h
      obtain ⟨rfl, rfl⟩ := h
      rw [hu]; rfl
    · rename_i hu
      split at h
      · rename_i hk
        simp only [Option.some.injEq, Prod.mk.injEq] at h
        obtain ⟨rfl, rfl⟩ := h
        rw [hu]; simp [hk.2]
      · simp at h
    · rename_i hu; rw [hu] at hp; simp at hp
    · rename_i hu
      split at h
      · simp only [Option.some.injEq, Prod.mk.injEq] at h
        obtain ⟨rfl, rfl⟩ := h
        rw [hu]; rfl
      · simp at h
    · rename_i hu; rw [hu] at hp; simp at hp
    · rename_i hu; rw [hu] at hp; simp at hp
    · rename_i hu
      simp only [Option.some.injEq, Prod.mk.injEq] at h
      obtain ⟨rfl, rfl⟩ := h
      rw [hu]; rfl
    · rename_i e a len cap hu
      rw [hu] at hp
      simp only [Bool.and_eq_true] at hp
      obtain ⟨he, hk⟩ := hp
      obtain ⟨kd, hkd⟩ := Option.isSome_iff_exists.1 hk
      simp only at h
      split at h
      · obtain ⟨elems, hel, h2⟩ := Option.bind_eq_some_iff.1 h
        obtain ⟨rest, _, h3⟩ := Option.map_eq_some_iff.1 h2
        simp only [Prod.mk.injEq] at h3
        obtain ⟨rfl, _⟩ := h3
        rw [hu]
        simp only [hkd, Option.bind_some, Option.isSome_map]
        refine mapM_isSome fun x hx => ?_
        obtain ⟨y, hy, rfl⟩ := List.mem_map.1 hx
        obtain ⟨i, hi⟩ := List.getElem?_of_mem hy
        have := mapM_get hel i
        rw [hi] at this
        obtain ⟨j, hj, h4⟩ := Option.bind_eq_some_iff.1 this.symm
        obtain ⟨ci, _, h6⟩ := Option.bind_eq_some_iff.1 h4
        exact ih e ci y.1 y.2 (by simpa using he) h6
      · simp at h
    · rename_i cs _ _ fs hu
      rw [hu] at hp
      split at h
      · obtain ⟨xs, hxs, h2⟩ := Option.map_eq_some_iff.1 h
        simp only [Prod.mk.injEq] at h2
        obtain ⟨rfl, _⟩ := h2
        have hxl : xs.length = fs.size := by simpa using mapM_len hxs
        rw [hu]
        simp only [List.length_map, hxl, if_true, Option.isSome_map]
        refine mapM_isSome fun x hx => ?_
        obtain ⟨i, hi⟩ := List.getElem?_of_mem hx
        obtain ⟨h3, h4⟩ := List.getElem?_zip_eq_some.1 hi
        rw [List.getElem?_map] at h4
        obtain ⟨y, hy, h5⟩ := Option.map_eq_some_iff.1 h4
        have := mapM_get hxs i
        rw [hy, h3] at this
        simp only [Option.bind_some] at this
        have h6 := List.all_eq_true.1 hp x.1 (List.mem_of_getElem? h3)
        rw [← h5]
        exact ih _ _ _ _ (by simpa using h6) this.symm
      · simp at h
    · rename_i cs _ _ m e hu
      rw [hu] at hp
      split at h
      · obtain ⟨xs, hxs, h2⟩ := Option.map_eq_some_iff.1 h
        simp only [Prod.mk.injEq] at h2
        obtain ⟨rfl, _⟩ := h2
        have hxl : xs.length = m := by simpa using mapM_len hxs
        rw [hu]
        simp only [List.length_map, hxl, if_true, Option.isSome_map]
        refine mapM_isSome fun x hx => ?_
        obtain ⟨y, hy, rfl⟩ := List.mem_map.1 hx
        obtain ⟨i, hi⟩ := List.getElem?_of_mem hy
        have := mapM_get hxs i
        rw [hi] at this
        obtain ⟨j, hj, h4⟩ := Option.bind_eq_some_iff.1 this.symm
        exact ih e _ y.1 y.2 (by simpa using hp) h4
      · simp at h
    all_goals first
      | (simp at h; done)
      | (rename_i hu; rw [hu] at hp; simp at hp; done)

/-! ### The arguments behind the call -/
theorem trodAll_below (hl : laidOutB P = true) {W W' : World} (hb : Below W.heap.size W W') : ∀ {ts : List TypeId} {vs : List Value} {ds : List (DataW T)} {ps : List MemPlace},
    (ts.all fun t => P.readableRec t && decide (t < P.types.size)) = true → DataW.TrodAll enc P W 0 (fun _ => true) true ts vs ds ps → (∀ x ∈ ps, x.block < W.heap.size) → DataW.TrodAll enc P W' 0 (fun b => decide (b < W.heap.size)) true ts vs ds ps
  | [], [], [], ps, _, h, _ => h
  | t :: ts, v :: vs, d :: ds, ps, hr, h, hlt => by
    obtain ⟨p, q, h1, h2, rfl⟩ := h
    simp only [List.all_cons, Bool.and_eq_true, decide_eq_true_eq] at hr
    exact ⟨p, q, Below.trod hl hr.1.1 hr.1.2 h1 hb (fun x hx => hlt x (List.mem_append_left _ hx)), trodAll_below hl hb hr.2 h2 (fun x hx => hlt x (List.mem_append_right _ hx)), rfl⟩
  | [], _ :: _, _, _, _, h, _ => h.elim
  | [], [], _ :: _, _, _, h, _ => h.elim
  | _ :: _, [], _, _, _, h, _ => h.elim
  | _ :: _, _ :: _, [], _, _, h, _ => h.elim

/-- What an argument's cells are, by value. -/
theorem cells_one {v : Value} (h : ∀ u ∈ v.cells.toList, u.oneCell' = true) (hv : v.oneCell' = true) : v.cells.toList = [v] := by
  cases v <;> first | rfl | (simp [Value.oneCell'] at hv)

/-- A LAW'S CONTRACT: if the run says 'true' at what the arguments read as, the call does what the row says. -/
theorem law_post {fn : Func} {s : ChangeSpec} {f : FuncId} {tb : TypeId} (hP : ProgOk P H) (hX : ExtOk P H) (hm : P.follows .mixedOrders = true) (hp : ∀ g, H.prim g = none) (hg : ∀ σ : Gh, σ = ghost0 w → GlobOk P H σ) (hl : laidOutB P = true)
    (hr : (fn.params.toList.all fun t => P.readableRec t && decide (t < P.types.size)) = true) (hvars : s.vars = []) (hres : fn.resultTypes = #[tb]) (hub : P.underlying tb = some .bool)
    {args : Array Value} {ds gs : List (DataW T)} {before : List MemPlace} (hW : DataW.Whole enc P fn.params.toList s.vars false w args.toList ds gs before) (hfn : s.fn T (ds ++ gs) = { results := [.lit (.bool true)], args := ds })
    {avs : List AV} (hrep : Reps P (ghost0 w) args.toList avs) {st : St} (hrun : callW P H f avs [] = some (.ret (.bool true), st)) :
    Calls P f args w fun e w' => ∃ v, e = .returned v ∧ s.post enc P fn false true false false w args v w' := by
  have hc := callW_calls hP hX hm hp hrun (w := w) wf0 (hg _ rfl) hrep
  rw [Array.toArray_toList] at hc
  refine hc.mono fun e w' he => ?_
  cases e with
  | panicked ch => obtain ⟨a, v, σ', h1, _⟩ := he; cases h1
  | outgrown => exact he.elim
  | returned v =>
    obtain ⟨a, σ', h1, h2, h3, h4⟩ := he
    cases h1
    cases h4
    have hlt := hW.lt
    have hW' := hW
    obtain ⟨p, q, hA, hV, rfl, hfz, hnd⟩ := hW
    have hvs : gs = [] ∧ q = [] := by rw [hvars] at hV; exact trodVars_none hV
    obtain ⟨rfl, rfl⟩ := hvs
    refine ⟨_, rfl, ds, [], p ++ [], [], p, [], hW', ?_, ?_, ?_, h3.below.frame _, fun h => by cases h⟩
    · rw [hfn, hres]
      exact trodAll_mk1 (shut_bool hub _)
    · rw [hfn]
      exact trodAll_below hl h3.below hr hA (fun x hx => hlt x (by simpa using hx))
    · rw [hvars, hfn]; rfl

/-! ### Readings of one type -/
theorem avD_int {n : Nat} {t : TypeId} {k : IntKind} {d : DataW T} {as : List AV} (hu : P.underlying t = some (.int k)) (h : avD P n t d = some as) : ∃ m, d = .lit (.int k m) ∧ (Lit.int k m).wf = true ∧ as = [.int k m] := by
  cases n with
  | zero => simp [avD] at h
  | succ n =>
    unfold avD at h
    rw [hu] at h
    cases d with
    | lit l =>
      cases l with
      | int k' m =>
        simp only at h
        split at h
        · rename_i hc
          simp only [Option.some.injEq] at h
          obtain ⟨rfl, hw⟩ := hc
          exact ⟨m, rfl, hw, h.symm⟩
        · simp at h
      | _ => simp at h
    | _ => simp at h
theorem avD_str {n : Nat} {t : TypeId} {d : DataW T} {as : List AV} (hu : P.underlying t = some .string) (h : avD P n t d = some as) : ∃ s, d = .lit (.string s) ∧ as = [.str s] := by
  cases n with
  | zero => simp [avD] at h
  | succ n =>
    unfold avD at h
    rw [hu] at h
    cases d with
    | lit l =>
      cases l with
      | string s => simp only [Option.some.injEq] at h; exact ⟨s, rfl, h.symm⟩
      | _ => simp at h
    | _ => simp at h
theorem avD_bool {n : Nat} {t : TypeId} {d : DataW T} {as : List AV} (hu : P.underlying t = some .bool) (h : avD P n t d = some as) : ∃ b, d = .lit (.bool b) ∧ as = [.bool b] := by
  cases n with
  | zero => simp [avD] at h
  | succ n =>
    unfold avD at h
    rw [hu] at h
    cases d with
    | lit l =>
      cases l with
      | bool s => simp only [Option.some.injEq] at h; exact ⟨s, rfl, h.symm⟩
      | _ => simp at h
    | _ => simp at h
theorem avD_slice {n : Nat} {t e : TypeId} {d : DataW T} {as : List AV} (hu : P.underlying t = some (.slice e)) (h : avD P n t d = some as) :
    (d = .nil ∧ as = [.nils]) ∨ ∃ m elems spare kd rows, n = m + 1 ∧ d = .slice elems spare ∧ kdOf P e = some kd ∧ elems.mapM (avD P m e) = some rows ∧ as = [.sl kd rows 0 rows.length .no] := by
  cases n with
  | zero => simp [avD] at h
  | succ n =>
    unfold avD at h
    rw [hu] at h
    cases d with
    | nil => simp only [Option.some.injEq] at h; exact .inl ⟨rfl, h.symm⟩
    | slice elems spare =>
      simp only at h
      obtain ⟨kd, hk, h2⟩ := Option.bind_eq_some_iff.1 h
      obtain ⟨rows, hr, h3⟩ := Option.map_eq_some_iff.1 h2
      exact .inr ⟨n, elems, spare, kd, rows, rfl, rfl, hk, hr, h3.symm⟩
    | lit l => cases l <;> simp at h
    | _ => simp at h
/-! ### Arguments, one at a time -/
theorem flat_set {S : List TypeId} (hS : plainSetB P S = true) : ∀ t ∈ S, (∀ e, P.underlying t = some (.slice e) → e ∈ S) ∧ (∀ fs, P.underlying t = some (.struct fs) → ∀ f ∈ fs.toList, f.type ∈ S) ∧ ∀ n e, P.underlying t = some (.array n e) → e ∈ S := by
  intro t ht
  have hp := List.all_eq_true.1 hS t ht
  refine ⟨fun e he => ?_, fun fs hfs f hf => ?_, fun n e he => ?_⟩
  · rw [he] at hp
    simp only [Bool.and_eq_true] at hp
    simpa using hp.1
  · rw [hfs] at hp
    simpa using List.all_eq_true.1 hp f hf
  · rw [he] at hp
    simpa using hp

theorem okWide_slice {t e : TypeId} {r : Reach} {b0 : Nat} {v : Value} (hu : P.underlying t = some (.slice e)) (h : Value.okWide P w r b0 t v) : v = .slice none 0 0 ∨ ∃ a len cap, v = .slice (some a) len cap ∧ a.spot = none := by
  unfold Value.okWide at h
  rw [hu] at h
  simp only at h
  unfold Cell.okWide at h
  rw [hu] at h
  simp only at h
  unfold Cell.ok at h
  rw [hu] at h
  split at h <;> simp_all
  rename_i a len cap
  exact h.2.2.2.1

/-- An argument that is a slice of plain data. -/
theorem arg_slice {S : List TypeId} (hl : laidOutB P = true) (hS : plainSetB P S = true) {t e : TypeId} (ht : t ∈ S) (hts : t < P.types.size) (hu : P.underlying t = some (.slice e)) {r : Reach} {b0 : Nat} {v : Value} {d : DataW T} {ps : List MemPlace}
    (hok : Value.okWide P w r b0 t v) (h : DataW.Trod enc P w 0 (fun _ => true) true t v d ps) : ∃ n a, avD P n t d = some [a] ∧ Rep P (ghost0 w) v a := by
  obtain ⟨fuel, hf⟩ := h
  obtain ⟨cs, ha⟩ := Option.isSome_iff_exists.1 (trod_plain hS fuel t _ d ps ht hf)
  have hv := okWide_slice hu hok
  have hc : v.cells.toList = [v] := by rcases hv with rfl | ⟨a, len, cap, rfl, _⟩ <;> rfl
  rw [hc] at hf
  obtain ⟨h1, _, h3⟩ := trod_rep hl (flat_set hS) fuel t [v] d ps cs ht hts hf ha
  have : ∃ a, cs = [a] := by
    match cs, h1 with
    | [a], _ => exact ⟨a, rfl⟩
  obtain ⟨a, rfl⟩ := this
  exact ⟨fuel, a, ha, h3 0 v a rfl rfl⟩
/-- An argument that is a struct of plain data. -/
theorem arg_agg {S : List TypeId} (hl : laidOutB P = true) (hS : plainSetB P S = true) {t : TypeId} {fs : Array Field} (ht : t ∈ S) (hts : t < P.types.size) (hu : P.underlying t = some (.struct fs)) {r : Reach} {b0 : Nat} {v : Value} {d : DataW T} {ps : List MemPlace}
    (hok : Value.okWide P w r b0 t v) (h : DataW.Trod enc P w 0 (fun _ => true) true t v d ps) : ∃ n cs, avD P n t d = some cs ∧ Rep P (ghost0 w) v (.agg cs) := by
  obtain ⟨fuel, hf⟩ := h
  obtain ⟨cs, ha⟩ := Option.isSome_iff_exists.1 (trod_plain hS fuel t _ d ps ht hf)
  have hv : ∃ vs, v = .agg vs := by
    unfold Value.okWide at hok
    rw [hu] at hok
    obtain ⟨vs, rfl, _⟩ := hok
    exact ⟨vs, rfl⟩
  obtain ⟨vs, rfl⟩ := hv
  obtain ⟨h1, h2, h3⟩ := trod_rep hl (flat_set hS) fuel t _ d ps cs ht hts hf ha
  have hc : (Value.agg vs).cells = vs := rfl
  rw [hc] at h1 h2 h3
  refine ⟨fuel, cs, ha, .agg vs cs (by simpa using h1) (fun j v hj => h2 v ?_) (fun j v a hj hja => h3 j v a (by simpa using hj) hja)⟩
  have := List.mem_of_getElem? (show vs.toList[j]? = some v by simpa using hj)
  exact this
end
end Go.Abs

/- Plain lemmas on looks and writes by value: slices by their content, lists that grow, what is handed out. -/
namespace Go.Abs
open Go
set_option linter.unusedVariables false
set_option linter.unusedSimpArgs false

section
variable {R : Type} {kv kp : AV → St → Option R} {v : AV} {s st : St}
@[simp] theorem callB_ret : callB (some (.ret v, s)) kv kp = kv v s := rfl
@[simp] theorem callB_pan : callB (some (.pan v, s)) kv kp = kp v s := rfl
@[simp] theorem bind2_some : bind2 (some (v, s)) kv = kv v s := rfl
@[simp] theorem boolV_bool (b : Bool) : boolV (.bool b) = some b := rfl
@[simp] theorem intV_int (k : IntKind) (n : Int) : intV k (.int k n) = some n := by simp [intV]
@[simp] theorem strV_str (s : List UInt8) : strV (.str s) = some s := rfl
@[simp] theorem extractA_tup (i : Nat) (vs : List AV) : extractA i (.tup vs) = vs[i]? := rfl
@[simp] theorem cell1_int (k : IntKind) (n : Int) : cell1 (.int k n) = some (.int k n) := rfl
@[simp] theorem cell1_str (x : List UInt8) : cell1 (.str x) = some (.str x) := rfl
@[simp] theorem cell1_bool (x : Bool) : cell1 (.bool x) = some (.bool x) := rfl
@[simp] theorem readA_ip1 (x : AV) : readA st (.ip [x] 0) 1 false = some x := rfl
@[simp] theorem natA_nat (k : IntKind) (n : Nat) : natA (.int k (n : Int)) = some n := by simp [natA]
theorem natA_of {k : IntKind} {n : Int} (h : 0 ≤ n) : natA (.int k n) = some n.toNat := by simp [natA, h]
@[simp] theorem outL_same (ko : Bool) (r : AOut) : outL ko st.length r st = some (r, st) := by simp [outL]
@[simp] theorem outL_true (n : Nat) (r : AOut) : outL true n r st = some (r, st) := by simp [outL]
end

/-! ### What is closed -/
mutual
theorem AV.closed_mono {n m : Nat} (h : n ≤ m) (a : AV) (ha : AV.closed n a = true) : AV.closed m a = true := by
  cases a <;> simp only [AV.closed, Bool.and_eq_true, decide_eq_true_eq] at ha ⊢
  all_goals first
    | exact AV.closeds_mono h _ ha
    | exact AV.closedss_mono h _ ha
    | exact AV.closed_mono h _ ha
    | (refine ⟨AV.closedss_mono h _ ha.1, ?_⟩
       rename_i tok
       have h2 := ha.2
       cases tok <;> simp_all <;> omega)
    | omega
    | skip
termination_by structural a
theorem AV.closeds_mono {n m : Nat} (h : n ≤ m) (a : List AV) (ha : AV.closeds n a = true) : AV.closeds m a = true := by
  cases a with
  | nil => rfl
  | cons x r =>
    simp only [AV.closeds, Bool.and_eq_true] at ha ⊢
    exact ⟨AV.closed_mono h _ ha.1, AV.closeds_mono h _ ha.2⟩
termination_by structural a
theorem AV.closedss_mono {n m : Nat} (h : n ≤ m) (a : List (List AV)) (ha : AV.closedss n a = true) : AV.closedss m a = true := by
  cases a with
  | nil => rfl
  | cons x r =>
    simp only [AV.closedss, Bool.and_eq_true] at ha ⊢
    exact ⟨AV.closeds_mono h _ ha.1, AV.closedss_mono h _ ha.2⟩
termination_by structural a
end
theorem AObj.closed_mono {n m : Nat} (h : n ≤ m) {x : AObj} (hx : AObj.closed n x = true) : AObj.closed m x = true := by
  cases x with
  | box ty row => exact AV.closeds_mono h _ hx
  | rows a b rs => exact AV.closedss_mono h _ hx
  | amap es =>
    simp only [AObj.closed, List.all_eq_true, Bool.and_eq_true] at hx ⊢
    exact fun p hp => ⟨AV.closed_mono h _ (hx p hp).1, AV.closed_mono h _ (hx p hp).2⟩
  | _ => rfl
/-- A state whose objects name none but its own. -/
def Cl (st : St) : Prop := St.closed st.length st = true
theorem Cl.nil : Cl [] := rfl
theorem closed_mono {n m : Nat} (h : n ≤ m) {st : St} (hs : St.closed n st = true) : St.closed m st = true := List.all_eq_true.2 fun x hx => AObj.closed_mono h (List.all_eq_true.1 hs x hx)
theorem Cl.cons {x : AObj} {st : St} (h : Cl st) (hx : AObj.closed (st.length + 1) x = true) : Cl (x :: st) := by
  unfold Cl St.closed
  simp only [List.length_cons, List.all_cons, Bool.and_eq_true]
  exact ⟨hx, closed_mono (by omega) h⟩
theorem Cl.free {e : Nat} {st : St} (h : Cl st) : Cl (.free e :: st) := h.cons rfl

/-! ### States -/
@[simp] theorem St.trunc_cons (x : AObj) (st : St) : St.trunc (x :: st) st.length = st := by unfold St.trunc; simp
@[simp] theorem St.trunc_cons2 (x y : AObj) (st : St) : St.trunc (x :: y :: st) st.length = st := by
  unfold St.trunc; rw [show (x :: y :: st).length - st.length = 2 by simp only [List.length_cons]; omega]; rfl
@[simp] theorem St.trunc_self (st : St) : St.trunc st st.length = st := by unfold St.trunc; simp
@[simp] theorem St.get_top (x : AObj) (st : St) : St.get (x :: st) st.length = some x := by rw [St.get_cons, if_pos rfl]
theorem St.get_under {x : AObj} {st : St} {o : Nat} (h : o ≠ st.length) : St.get (x :: st) o = St.get st o := by rw [St.get_cons, if_neg h]
theorem St.put_same {st : St} {t : Nat} {x : AObj} (h : st.get t = some x) : st.put t x = st := by
  have ht := St.get_lt h
  unfold St.put St.get at *
  rw [if_pos ht] at h ⊢
  apply List.ext_getElem?
  intro i
  by_cases e : i = st.length - 1 - t
  · subst e; rw [List.getElem?_set_self (by omega), h]
  · rw [List.getElem?_set_ne (fun x => e x.symm)]
theorem St.put_put (st : St) (t : Nat) (x y : AObj) : (st.put t x).put t y = st.put t y := by
  unfold St.put
  by_cases h : t < st.length
  · simp [h]
  · simp [h]
theorem St.trunc_put {st : St} {t n : Nat} {x : AObj} (h : n ≤ t) : (st.put t x).trunc n = st.trunc n := by
  unfold St.put
  split
  · rename_i ht
    unfold St.trunc
    rw [List.length_set, List.drop_set_of_lt (by omega)]
  · rfl

/-! ### Slices by their content -/
/-- A slice of rows of a kind. -/
def Sl (kd : Nat) (a : AV) (c : List (List AV)) : Prop :=
  (a = .nils ∧ c = []) ∨ ∃ rows off tok, a = .sl kd rows off c.length tok ∧ off + c.length ≤ rows.length ∧ (rows.drop off).take c.length = c
theorem Sl.nil {kd : Nat} : Sl kd .nils [] := .inl ⟨rfl, rfl⟩
theorem Sl.mk {kd : Nat} {c : List (List AV)} {tok : Tok} : Sl kd (.sl kd c 0 c.length tok) c := .inr ⟨c, 0, tok, rfl, by omega, by simp⟩
variable {kd : Nat} {a : AV} {c : List (List AV)} {st : St}
theorem Sl.len (h : Sl kd a c) : lenSl a = some (.int .i64 c.length) := by
  rcases h with ⟨rfl, rfl⟩ | ⟨rows, off, tok, rfl, h1, h2⟩ <;> rfl
theorem Sl.rows (h : Sl kd a c) : rowsOf st kd a = some c := by
  rcases h with ⟨rfl, rfl⟩ | ⟨rows, off, tok, rfl, h1, h2⟩
  · rfl
  · simp [rowsOf, h2]
theorem Sl.at (h : Sl kd a c) {j : Nat} {r : List AV} (hj : c[j]? = some r) : idxSl st kd a j = some (.ip r 0) := by
  have hl := (List.getElem?_eq_some_iff.1 hj).1
  rcases h with ⟨rfl, rfl⟩ | ⟨rows, off, tok, rfl, h1, h2⟩
  · simp at hl
  · have : rows[off + j]? = some r := by
      rw [← h2, List.getElem?_take_of_lt hl, List.getElem?_drop] at hj
      exact hj
    simp [idxSl, hl, this]
theorem Sl.cut (h : Sl kd a c) {lo hi : Option AV} {l k : Nat} (hlo : optA lo 0 = some l) (hhi : optA hi c.length = some k) (h1 : l ≤ k) (h2 : k ≤ c.length) :
    ∃ a', sliceSl st kd a lo hi none = some a' ∧ Sl kd a' ((c.take k).drop l) := by
  rcases h with ⟨rfl, rfl⟩ | ⟨rows, off, tok, rfl, h3, h4⟩
  · simp only [List.length_nil, Nat.le_zero_eq] at h2
    subst h2
    have : l = 0 := by omega
    subst this
    refine ⟨.nils, ?_, by simpa using Sl.nil⟩
    simp only [sliceSl, List.length_nil] at hhi ⊢
    rw [hhi, hlo]
    simp [optA]
  · have e : ((c.take k).drop l).length = k - l := by simp; omega
    refine ⟨.sl kd rows (off + l) (k - l) tok, ?_, .inr ⟨rows, off + l, tok, by rw [e], by rw [e]; omega, ?_⟩⟩
    · simp only [sliceSl, hhi, hlo, Option.bind_some, true_and]
      rw [if_pos h1, if_pos (by omega)]
    · rw [e, ← h4, List.take_take, Nat.min_eq_left h2, List.drop_take, List.drop_drop]
theorem Sl.frz (h : Sl kd a c) : freezeA st a = some (a, st) := by
  rcases h with ⟨rfl, rfl⟩ | ⟨rows, off, tok, rfl, h1, h2⟩ <;> rfl

/-! ### Lists that grow in a home -/
/-- v is the list c, in the home t or not yet. -/
def Acc (kd t : Nat) (st : St) (v : AV) (c : List (List AV)) : Prop :=
  (v = .nils ∧ c = [] ∧ ∃ e, st.get t = some (.free e)) ∨ (∃ ep, v = .sl kd c 0 c.length (.spare t ep) ∧ st.get t = some (.spare ep c.length)) ∨ (v = .sl kd c 0 c.length .exact ∧ ∃ e, st.get t = some (.free e))
variable {t bytes : Nat} {v x : AV} {new : List (List AV)}
theorem Acc.sl (h : Acc kd t st v c) : Sl kd v c := by
  rcases h with ⟨rfl, rfl, _⟩ | ⟨ep, rfl, _⟩ | ⟨rfl, _⟩
  · exact .nil
  · exact .mk
  · exact .mk
theorem Acc.app (h : Acc kd t st v c) (hx : rowsOf st kd x = some new) (h1 : (c.length + new.length) * bytes ≤ roomA) (h2 : c.length + new.length ≤ roomA) :
    ∃ v' y, appendL st (some (t, false)) bytes kd v x = some (v', st.put t y) ∧ Acc kd t (st.put t y) v' (c ++ new) := by
  unfold appendL
  rw [hx]
  simp only [Option.bind_some]
  rcases h with ⟨rfl, rfl, e, he⟩ | ⟨ep, rfl, he⟩ | ⟨rfl, e, he⟩
  · have ht := St.get_lt he
    simp only [List.length_nil, Nat.zero_add] at h1 h2
    by_cases hn : new.length = 0
    · have : new = [] := List.eq_nil_of_length_eq_zero hn
      subst this
      exact ⟨.nils, .free e, by simp [St.put_same he], .inl ⟨rfl, rfl, e, by rw [St.put_same he]; exact he⟩⟩
    · refine ⟨.sl kd new 0 new.length (.spare t (e + 1)), .spare (e + 1) new.length, ?_, .inr (.inl ⟨e + 1, rfl, by rw [St.get_put_same ht]; rfl⟩)⟩
      simp only [if_neg hn]
      rw [if_pos ⟨h1, h2⟩]
      simp [homeA, he]
  · have ht := St.get_lt he
    dsimp only
    rw [if_pos (show kd = kd ∧ 0 + c.length = c.length ∧ (c.length + new.length) * bytes ≤ roomA ∧ c.length + new.length ≤ roomA from ⟨rfl, by omega, h1, h2⟩)]
    simp only [he, if_true, and_self]
    by_cases hn : new.length = 0
    · have : new = [] := List.eq_nil_of_length_eq_zero hn
      subst this
      exact ⟨.sl kd c 0 c.length (.spare t ep), .spare ep c.length, by simp [St.put_same he], .inr (.inl ⟨ep, by simp, by rw [St.put_same he]; simpa using he⟩)⟩
    · refine ⟨.sl kd (c ++ new) 0 (c.length + new.length) (.spare t ep), .spare ep (c.length + new.length), by simp [hn], .inr (.inl ⟨ep, by simp, by rw [St.get_put_same ht]; simp⟩)⟩
  · have ht := St.get_lt he
    dsimp only
    rw [if_pos (show kd = kd ∧ 0 + c.length = c.length ∧ (c.length + new.length) * bytes ≤ roomA ∧ c.length + new.length ≤ roomA from ⟨rfl, by omega, h1, h2⟩)]
    by_cases hn : new.length = 0
    · have : new = [] := List.eq_nil_of_length_eq_zero hn
      subst this
      exact ⟨.sl kd c 0 c.length .exact, .free e, by simp [St.put_same he], .inr (.inr ⟨by simp, e, by rw [St.put_same he]; exact he⟩)⟩
    · refine ⟨.sl kd (c ++ new) 0 (c.length + new.length) (.spare t (e + 1)), .spare (e + 1) (c.length + new.length), ?_, .inr (.inl ⟨e + 1, by simp, by rw [St.get_put_same ht]; simp⟩)⟩
      simp only [if_neg hn, List.drop_zero]
      simp [homeA, he]
/-- Appended to, with another home at hand for what has none yet. -/
theorem Acc.app2 {t' n e : Nat} (h : Acc kd t st v c) (hn : n ≤ t) (hn' : n ≤ t') (hf : st.get t' = some (.free e)) (hx : rowsOf st kd x = some new) (h1 : (c.length + new.length) * bytes ≤ roomA) (h2 : c.length + new.length ≤ roomA) :
    ∃ v' t'' y, appendL st (some (t', false)) bytes kd v x = some (v', st.put t'' y) ∧ n ≤ t'' ∧ Acc kd t'' (st.put t'' y) v' (c ++ new) := by
  rcases h with ⟨rfl, rfl, e', he⟩ | ⟨ep, rfl, he⟩ | ⟨rfl, e', he⟩
  · obtain ⟨v', y, q1, q2⟩ := Acc.app (t := t') (v := .nils) (c := []) (.inl ⟨rfl, rfl, e, hf⟩) hx h1 h2
    exact ⟨v', t', y, q1, hn', q2⟩
  · have hs : ∀ t1 t2 : Nat, appendL st (some (t1, false)) bytes kd (.sl kd c 0 c.length (.spare t ep)) x = appendL st (some (t2, false)) bytes kd (.sl kd c 0 c.length (.spare t ep)) x := fun _ _ => rfl
    obtain ⟨v', y, q1, q2⟩ := Acc.app (t := t) (.inr (.inl ⟨ep, rfl, he⟩)) hx h1 h2
    exact ⟨v', t, y, by rw [hs t' t]; exact q1, hn, q2⟩
  · obtain ⟨v', y, q1, q2⟩ := Acc.app (t := t') (c := c) (.inr (.inr ⟨rfl, e, hf⟩)) hx h1 h2
    exact ⟨v', t', y, q1, hn', q2⟩
/-- What has grown is handed out. -/
theorem Acc.out {n : Nat} (h : Acc kd t st v c) (hn : n ≤ t) (hc : AV.closedss n c = true) (hs : St.closed n (st.trunc n) = true) :
    ∃ v', outL false n (.ret v) st = some (.ret v', st.trunc n) ∧ Sl kd v' c ∧ AV.closed n v' = true := by
  have ht : t < st.length := by
    rcases h with ⟨_, _, e, he⟩ | ⟨ep, _, he⟩ | ⟨_, e, he⟩ <;> exact St.get_lt he
  have hne : (st.length == n) = false := by simp; omega
  rcases h with ⟨rfl, rfl, e, he⟩ | ⟨ep, rfl, he⟩ | ⟨rfl, e, he⟩
  · exact ⟨.nils, by simp [outL, hne, AV.stripR, AV.stripN, AV.closed, hs], .nil, rfl⟩
  · refine ⟨.sl kd c 0 c.length .no, ?_, .mk, by simp [AV.closed, hc]⟩
    have hs2 : AV.stripR n (.sl kd c 0 c.length (.spare t ep)) = .sl kd c 0 c.length .no := by
      simp only [AV.stripR, AV.stripN]; rw [if_neg (by omega)]
    simp only [outL, hne, Bool.or_self, Bool.false_eq_true, if_false, hs2]
    simp [AV.closed, hc, hs]
  · refine ⟨.sl kd c 0 c.length .exact, ?_, .mk, by simp [AV.closed, hc]⟩
    simp [outL, hne, AV.stripR, AV.stripN, AV.closed, hc, hs]
/-- A plain value is handed out, what was made goes. -/
theorem outL_plain {n : Nat} {v : AV} {st : St} (h1 : AV.stripR n v = v) (h2 : AV.closed n v = true) (hs : St.closed n (st.trunc n) = true) (hl : n ≤ st.length) : outL false n (.ret v) st = some (.ret v, st.trunc n) := by
  unfold outL
  by_cases hne : st.length = n
  · subst hne; simp
  · have : (st.length == n) = false := by simpa using hne
    simp [this, h1, h2, hs]
end Go.Abs

/- Plain lemmas on slices by their content in a state: those that may be written too. -/
namespace Go.Abs
open Go
set_option linter.unusedVariables false
set_option linter.unusedSimpArgs false

/-- v reads as the rows c. -/
structure Rd (st : St) (kd : Nat) (v : AV) (c : List (List AV)) : Prop where
  len : lenSl v = some (.int .i64 c.length)
  rows : rowsOf st kd v = some c
  at' : ∀ (j : Nat) r, c[j]? = some r → ∃ p, idxSl st kd v j = some p ∧ ∀ n ag, readA st p n ag = readRow r 0 n ag
/-- v is an object's rows, all of them. -/
def Mu (st : St) (kd : Nat) (v : AV) (o : Nat) (c : List (List AV)) : Prop := ∃ ep, v = .ms o ep 0 c.length c.length ∧ st.get o = some (.rows kd ep c)
/-- .. or nothing yet. -/
def MuN (st : St) (kd : Nat) (v : AV) (o : Nat) (c : List (List AV)) : Prop := (v = .nils ∧ c = [] ∧ ∃ e, st.get o = some (.free e)) ∨ Mu st kd v o c

variable {kd : Nat} {a v x : AV} {c new : List (List AV)} {st st' : St} {o bytes : Nat}
theorem Sl.rd (h : Sl kd a c) : Rd st kd a c := ⟨h.len, h.rows, fun j r hj => ⟨_, h.at hj, fun n ag => rfl⟩⟩
theorem Mu.rd (h : Mu st kd v o c) : Rd st kd v c := by
  obtain ⟨ep, rfl, hg⟩ := h
  refine ⟨rfl, ?_, fun j r hj => ?_⟩
  · simp [rowsOf, hg]
  · have hl := (List.getElem?_eq_some_iff.1 hj).1
    refine ⟨.ptr o ep (0 + j) 0, ?_, fun n ag => ?_⟩
    · simp [idxSl, msKd, hg, hl]
    · simp [readA, hg, hj]
theorem MuN.rd (h : MuN st kd v o c) : Rd st kd v c := by
  rcases h with ⟨rfl, rfl, _⟩ | h
  · exact Sl.rd .nil
  · exact h.rd
theorem Mu.same (h : Mu st kd v o c) (hg : st'.get o = st.get o) : Mu st' kd v o c := by
  obtain ⟨ep, rfl, h2⟩ := h
  exact ⟨ep, rfl, by rw [hg]; exact h2⟩
theorem MuN.same (h : MuN st kd v o c) (hg : st'.get o = st.get o) : MuN st' kd v o c := by
  rcases h with ⟨h1, h2, e, h3⟩ | h
  · exact .inl ⟨h1, h2, e, by rw [hg]; exact h3⟩
  · exact .inr (h.same hg)
theorem MuN.lt (h : MuN st kd v o c) : o < st.length := by
  rcases h with ⟨_, _, e, h⟩ | ⟨ep, _, h⟩ <;> exact St.get_lt h
theorem MuN.app (h : MuN st kd v o c) (hx : rowsOf st kd x = some new) (h1 : (c.length + new.length) * bytes ≤ roomA) (h2 : c.length + new.length ≤ roomA) :
    ∃ v' y, appendL st (some (o, true)) bytes kd v x = some (v', st.put o y) ∧ MuN (st.put o y) kd v' o (c ++ new) ∧ ((∃ e, y = .free e) ∨ ∃ ep, y = .rows kd ep (c ++ new)) := by
  have ho := h.lt
  unfold appendL
  rw [hx]
  simp only [Option.bind_some]
  rcases h with ⟨rfl, rfl, e, he⟩ | ⟨ep, rfl, he⟩
  · simp only [List.length_nil, Nat.zero_add] at h1 h2
    by_cases hn : new.length = 0
    · have : new = [] := List.eq_nil_of_length_eq_zero hn
      subst this
      exact ⟨.nils, .free e, by simp [St.put_same he], .inl ⟨rfl, rfl, e, by rw [St.put_same he]; exact he⟩, .inl ⟨e, rfl⟩⟩
    · refine ⟨.ms o (e + 1) 0 new.length new.length, .rows kd (e + 1) new, ?_, .inr ⟨e + 1, rfl, by rw [St.get_put_same ho]; rfl⟩, .inr ⟨e + 1, rfl⟩⟩
      simp only [if_neg hn]
      rw [if_pos ⟨h1, h2⟩]
      simp [homeA, he]
  · dsimp only
    rw [he]
    dsimp only
    rw [if_pos (show kd = kd ∧ ep = ep ∧ (c.length + new.length) * bytes ≤ roomA ∧ c.length + new.length ≤ roomA ∧ 0 + c.length ≤ c.length ∧ c.length ≤ c.length from ⟨rfl, rfl, h1, h2, by omega, by omega⟩)]
    by_cases hn : new.length = 0
    · have : new = [] := List.eq_nil_of_length_eq_zero hn
      subst this
      refine ⟨.ms o ep 0 c.length c.length, .rows kd ep c, by simp, .inr ⟨ep, by simp, by rw [St.get_put_same ho]; simp⟩, .inr ⟨ep, by simp⟩⟩
    · rw [if_neg (by omega)]
      refine ⟨.ms o (ep + 1) 0 (c ++ new).length (c ++ new).length, .rows kd (ep + 1) (c ++ new), by simp, .inr ⟨ep + 1, rfl, by rw [St.get_put_same ho]⟩, .inr ⟨ep + 1, rfl⟩⟩
/-- A row is written over. -/
theorem Mu.write (h : Mu st kd v o c) {j : Nat} {r r' cs : List AV} (hj : c[j]? = some r) (hs : setAt r 0 cs = some r') :
    ∃ p y, idxSl st kd v j = some p ∧ writeA st p cs = some (st.put o y) ∧ Mu (st.put o y) kd v o (c.set j r') ∧ ∃ ep, y = .rows kd ep (c.set j r') := by
  obtain ⟨ep, rfl, hg⟩ := h
  have hl := (List.getElem?_eq_some_iff.1 hj).1
  refine ⟨.ptr o ep (0 + j) 0, .rows kd ep (c.set j r'), by simp [idxSl, msKd, hg, hl], ?_, ⟨ep, by simp, by rw [St.get_put_same (St.get_lt hg)]⟩, ep, rfl⟩
  simp [writeA, hg, hj, hs]

/-- What lies in st lies so in st'. -/
def Ext (st st' : St) : Prop := ∀ o x, st.get o = some x → st'.get o = some x
theorem Ext.refl (st : St) : Ext st st := fun _ _ h => h
theorem Ext.trans {s1 s2 s3 : St} (h : Ext s1 s2) (h' : Ext s2 s3) : Ext s1 s3 := fun o x hx => h' o x (h o x hx)
theorem Ext.cons (x : AObj) (st : St) : Ext st (x :: st) := fun o y h => by
  have := St.get_lt h
  rw [St.get_under (by omega)]; exact h
theorem Mu.ext (h : Mu st kd v o c) (he : Ext st st') : Mu st' kd v o c := by
  obtain ⟨ep, rfl, h2⟩ := h
  exact ⟨ep, rfl, he _ _ h2⟩
theorem MuN.ext (h : MuN st kd v o c) (he : Ext st st') : MuN st' kd v o c := by
  rcases h with ⟨h1, h2, e, h3⟩ | h
  · exact .inl ⟨h1, h2, e, he _ _ h3⟩
  · exact .inr (h.ext he)
theorem Sl.cell1 (h : Sl kd a c) : cell1 a = some a := by
  rcases h with ⟨rfl, rfl⟩ | ⟨rows, off, tok, rfl, h1, h2⟩ <;> rfl
theorem MuN.cell1 (h : MuN st kd v o c) : Go.Abs.cell1 v = some v := by
  rcases h with ⟨rfl, rfl, _⟩ | ⟨ep, rfl, _⟩ <;> rfl

/-! ### Looks, in the form that the equations have -/
section
variable {R : Type} {j : Nat} {r : List AV} {k : IntKind}
theorem Rd.cell (h : Rd st kd a c) {y : AV} (hj : c[j]? = some r) (hr : r[0]? = some y) (K : AV → Option R) :
    ((natA (.int k (j : Int))).bind fun j => (idxSl st kd a j).bind fun v => (readA st v 1 false).bind K) = K y := by
  obtain ⟨p, h1, h2⟩ := h.at' j r hj
  rw [natA_nat, Option.bind_some, h1, Option.bind_some, h2]
  simp [readRow, hr]
theorem Rd.int (h : Rd st kd a c) {n : Int} {k' : IntKind} (hj : c[j]? = some r) (hr : r[0]? = some (.int k' n)) (K : Int → Option R) :
    ((natA (.int k (j : Int))).bind fun j => (idxSl st kd a j).bind fun v => (readA st v 1 false).bind fun v => (intV k' v).bind K) = K n := by
  rw [h.cell hj hr]; simp
theorem Rd.agg (h : Rd st kd a c) (hj : c[j]? = some r) {n : Nat} (hn : r.length = n) (K : AV → Option R) :
    ((natA (.int k (j : Int))).bind fun j => (idxSl st kd a j).bind fun v => (readA st v n true).bind K) = K (.agg r) := by
  obtain ⟨p, h1, h2⟩ := h.at' j r hj
  rw [natA_nat, Option.bind_some, h1, Option.bind_some, h2]
  subst hn
  simp [readRow]
theorem Rd.lenI (h : Rd st kd a c) (K : Int → Option R) : ((lenSl a).bind fun v => (intV .i64 v).bind K) = K c.length := by rw [h.len]; simp
/-- A variable's one cell. -/
theorem box_rd {ty : TypeId} {y : AV} (h : st.get o = some (.box ty [y])) : readA st (.bp o 0) 1 false = some y := by simp [readA, h, readRow]
theorem box_wr {ty : TypeId} {y z : AV} (h : st.get o = some (.box ty [y])) : writeA st (.bp o 0) [z] = some (st.put o (.box ty [z])) := by simp [writeA, h, setAt]
end
theorem St.put_top (x y : AObj) (st : St) : St.put (x :: st) st.length y = y :: st := by unfold St.put; simp
theorem St.put_under {x y : AObj} {st : St} {o : Nat} (h : o < st.length) : St.put (x :: st) o y = x :: St.put st o y := by
  unfold St.put
  simp only [List.length_cons]
  rw [if_pos (by omega), if_pos h, show st.length + 1 - 1 - o = (st.length - 1 - o) + 1 by omega, List.set_cons_succ]
theorem St.trunc_le {x : AObj} {st : St} {n : Nat} (h : n ≤ st.length) : St.trunc (x :: st) n = St.trunc st n := by
  unfold St.trunc
  rw [List.length_cons, show st.length + 1 - n = (st.length - n) + 1 by omega, List.drop_succ_cons]
theorem roundV_same (fr : Fr) (st : St) : roundV st.length fr st = some (fr, st) := by simp [roundV]
mutual
theorem AV.beq_refl (a : AV) : AV.beq a a = true := by
  cases a <;> simp only [AV.beq, beq_self_eq_true, Bool.and_self, Bool.true_and, Bool.and_true]
  all_goals first
    | exact AV.beqs_refl _
    | exact AV.beqss_refl _
    | exact AV.beq_refl _
    | (simp; exact AV.beqss_refl _)
    | (simp; exact AV.beqs_refl _)
    | simp
    | skip
termination_by structural a
theorem AV.beqs_refl (a : List AV) : AV.beqs a a = true := by
  cases a with
  | nil => rfl
  | cons x r => simp only [AV.beqs, Bool.and_eq_true]; exact ⟨AV.beq_refl x, AV.beqs_refl r⟩
termination_by structural a
theorem AV.beqss_refl (a : List (List AV)) : AV.beqss a a = true := by
  cases a with
  | nil => rfl
  | cons x r => simp only [AV.beqss, Bool.and_eq_true]; exact ⟨AV.beqs_refl x, AV.beqss_refl r⟩
termination_by structural a
end
/-! ### Copies and loans -/
theorem copy_gen {kd bytes : Nat} {a : AV} {c : List (List AV)} {st : St} (hr : rowsOf (.free 0 :: st) kd a = some c) (h1 : c.length * bytes ≤ roomA) (h2 : c.length ≤ roomA) :
    ∃ v y, (bind2 (appendL (AObj.free 0 :: st) (some (st.length + 0, false)) bytes kd (AV.sl kd [] 0 0 Tok.exact) a) fun v st_1 => bind2 (freezeA st_1 v) fun v st_2 => outL true st.length (AOut.ret v) st_2) = some (.ret v, y :: st) ∧
      Acc kd st.length (y :: st) v c := by
  obtain ⟨v, y, h1, h2⟩ := Acc.app (kd := kd) (t := st.length) (st := .free 0 :: st) (v := .sl kd [] 0 0 .exact) (c := []) (bytes := bytes) (x := a) (new := c) (.inr (.inr ⟨rfl, 0, by simp⟩)) hr (by simpa using h1) (by simpa using h2)
  rw [St.put_top] at h1 h2
  exact ⟨v, y, by simp only [Nat.add_zero, h1, bind2_some, Acc.sl h2 |>.frz, outL_true], by simpa using h2⟩
/-- The rows c, others behind them. -/
def Lent (kd : Nat) (v : AV) (c extra : List (List AV)) : Prop := ∃ tok : Tok, (tok = .no ∨ tok = .exact) ∧ v = .sl kd (c ++ extra) 0 c.length tok
theorem Lent.strip {kd n : Nat} {v : AV} {c extra : List (List AV)} (h : Lent kd v c extra) : AV.stripN n v = v := by
  obtain ⟨tok, rfl | rfl, rfl⟩ := h <;> rfl
theorem Lent.closed {kd n : Nat} {v : AV} {c extra : List (List AV)} (h : Lent kd v c extra) (hc : AV.closedss n (c ++ extra) = true) : AV.closed n v = true := by
  obtain ⟨tok, rfl | rfl, rfl⟩ := h <;> simp [AV.closed, hc]
theorem Lent.strip1 {kd : Nat} {v : AV} {c extra : List (List AV)} (h : Lent kd v c extra) : Lent kd v.strip c extra := by
  obtain ⟨tok, _, rfl⟩ := h
  exact ⟨.no, .inl rfl, rfl⟩
theorem Lent.sl {kd : Nat} {v : AV} {c extra : List (List AV)} (h : Lent kd v c extra) : Sl kd v c := by
  obtain ⟨tok, _, rfl⟩ := h
  exact .inr ⟨c ++ extra, 0, tok, by simp, by simp, by simp⟩
theorem lend_gen {kd bytes n : Nat} {a : AV} {c extra : List (List AV)} {st : St} {X : Option (AOut × St)} {kp : AV → St → Option (AOut × St)} (hs : Cl st) (hX : ∃ v y, X = some (.ret v, y :: .free 0 :: st) ∧ Acc kd (st.length + 1) (y :: .free 0 :: st) v c)
    (ha : Sl kd a c) (hn : extra.length = n) (he : 0 < n) (h1 : (c.length + n) * bytes ≤ roomA) (h2 : c.length + n ≤ roomA) (hc : ∀ m, AV.closedss m (c ++ extra) = true) :
    ∃ v', callB X (fun v st_1 => bind2 (appendL st_1 (some (st.length + 0, false)) bytes kd v (AV.sl kd extra 0 n Tok.exact)) fun v st_2 =>
      (lenSl a).bind fun v_1 => (intV IntKind.i64 v_1).bind fun n => (sliceSl st_2 kd v none (some (AV.int IntKind.i64 n)) none).bind fun v => bind2 (freezeA st_2 v) fun v st_3 => outL false st.length (AOut.ret v) st_3) kp = some (.ret v', st) ∧
      Lent kd v' c extra ∧ AV.closed st.length v' = true := by
  obtain ⟨v, y, h3, h4⟩ := hX
  subst hn
  have hf : St.get (y :: .free 0 :: st) st.length = some (.free 0) := by rw [St.get_under (by simp)]; simp
  obtain ⟨v1, t1, y1, h5, h6, h7⟩ := h4.app2 (n := st.length) (t' := st.length) (x := .sl kd extra 0 extra.length .exact) (new := extra) (bytes := bytes) (by simp) (Nat.le_refl _) hf (by simp [rowsOf]) h1 h2
  have key : ∃ tok tok', v1 = .sl kd (c ++ extra) 0 (c.length + extra.length) tok ∧ AV.stripR st.length (.sl kd (c ++ extra) 0 c.length tok) = .sl kd (c ++ extra) 0 c.length tok' ∧ (tok' = .no ∨ tok' = .exact) := by
    rcases h7 with ⟨_, h6, _⟩ | ⟨ep, rfl, _⟩ | ⟨rfl, e, he⟩
    · simp at h6; rw [h6.2] at he; simp at he
    · exact ⟨_, .no, by rw [List.length_append], by simp only [AV.stripR, AV.stripN]; rw [if_neg (by omega)], .inl rfl⟩
    · exact ⟨_, .exact, by rw [List.length_append], rfl, .inr rfl⟩
  obtain ⟨tok, tok', rfl, k2, k3⟩ := key
  have hcl : AV.closed st.length (.sl kd (c ++ extra) 0 c.length tok') = true := by
    have := hc st.length
    rcases k3 with rfl | rfl <;> simpa [AV.closed] using this
  refine ⟨.sl kd (c ++ extra) 0 c.length tok', ?_, ⟨tok', k3, rfl⟩, hcl⟩
  simp only [h3, callB_ret, Nat.add_zero]
  rw [h5]
  have hcut : ∀ s, sliceSl s kd (.sl kd (c ++ extra) 0 (c.length + extra.length) tok) none (some (.int .i64 c.length)) none = some (.sl kd (c ++ extra) 0 c.length tok) := fun s => by
    simp [sliceSl, optA]
  simp only [bind2_some, ha.len, Option.bind_some, intV_int, hcut, freezeA]
  have hne : ((St.put (y :: .free 0 :: st) t1 y1).length == st.length) = false := by simp only [St.length_put, List.length_cons, beq_eq_false_iff_ne]; omega
  have htr : (St.put (y :: .free 0 :: st) t1 y1).trunc st.length = st := by rw [St.trunc_put h6]; simp
  unfold outL
  simp only [hne, Bool.or_self, Bool.false_eq_true, if_false, k2, htr, hcl, Bool.true_and]
  rw [if_pos (show St.closed st.length st = true from hs)]
/-- What was lent, cut two further: what stands behind it. -/
theorem Lent.behind {kd : Nat} {v : AV} {c extra : List (List AV)} {n : Nat} (h : Lent kd v c extra) (hn : extra.length = n) (st : St) :
    ∃ v', sliceSl st kd v none (some (.int .i64 ((c.length + n : Nat) : Int))) none = some v' ∧ Sl kd v' (c ++ extra) := by
  obtain ⟨tok, _, rfl⟩ := h
  subst hn
  refine ⟨.sl kd (c ++ extra) 0 (c.length + extra.length) tok, ?_, .inr ⟨c ++ extra, 0, tok, by simp, by simp, by rw [List.drop_zero, List.take_of_length_le (Nat.le_refl _)]⟩⟩
  unfold sliceSl
  simp only [optA, natA_nat, Option.bind_some]
  rw [if_pos ⟨trivial, Nat.zero_le _⟩, if_pos (by simp)]
  simp

/-! ### Cells of a row, a variable of many cells -/
section
variable {st : St} {o n : Nat} {x y z u : AObj}
theorem get_at1 (h : n = st.length) : St.get (x :: st) n = some x := by subst h; exact St.get_top _ _
theorem get_at2 (h : n = st.length) : St.get (x :: y :: st) n = some y := by subst h; rw [St.get_under (by simp only [List.length_cons]; omega)]; exact St.get_top _ _
theorem get_at3 (h : n = st.length) : St.get (x :: y :: z :: st) n = some z := by subst h; rw [St.get_under (by simp only [List.length_cons]; omega)]; exact get_at2 rfl
theorem get_at4 (h : n = st.length) : St.get (x :: y :: z :: u :: st) n = some u := by subst h; rw [St.get_under (by simp only [List.length_cons]; omega)]; exact get_at3 rfl
theorem trunc_at3 : St.trunc (x :: y :: z :: st) st.length = st := by rw [St.trunc_le (by simp only [List.length_cons]; omega), St.trunc_cons2]
theorem trunc_at4 : St.trunc (x :: y :: z :: u :: st) st.length = st := by rw [St.trunc_le (by simp only [List.length_cons]; omega), trunc_at3]
theorem box_read {ty : TypeId} {row : List AV} {c k : Nat} {ag : Bool} (h : st.get o = some (.box ty row)) : readA st (.bp o c) k ag = readRow row c k ag := by simp [readA, h]
theorem box_write {ty : TypeId} {row row' cs : List AV} {c : Nat} (h : st.get o = some (.box ty row)) (hs : setAt row c cs = some row') : writeA st (.bp o c) cs = some (st.put o (.box ty row')) := by simp [writeA, h, hs]
theorem cells_agg {cs : List AV} (h : cs.length = n) : cellsV n (.agg cs) = some cs := by simp [cellsV, AV.cells, AV.isTup, h]
theorem setAt_app (xs ys cs : List AV) (k : Nat) : setAt (xs ++ ys) (xs.length + k) cs = (setAt ys k cs).map (xs ++ ·) := by
  induction xs with
  | nil => simp
  | cons a xs ih =>
    rw [List.length_cons, show xs.length + 1 + k = (xs.length + k) + 1 by omega, List.cons_append]
    cases cs with
    | nil => simp only [setAt, ih, Option.map_map]; rfl
    | cons c cs => simp only [setAt, ih, Option.map_map]; rfl
theorem setAt_all : ∀ (xs cs : List AV), xs.length = cs.length → setAt xs 0 cs = some cs
  | [], [], _ => rfl
  | x :: xs, c :: cs, h => by simp only [setAt, setAt_all xs cs (by simpa using h), Option.map_some]
theorem setAt_front (xs ys cs : List AV) (h : xs.length = cs.length) : setAt (xs ++ ys) 0 cs = some (cs ++ ys) := by
  induction xs generalizing cs with
  | nil =>
    have : cs = [] := List.eq_nil_of_length_eq_zero h.symm
    subst this
    cases ys <;> rfl
  | cons x xs ih =>
    cases cs with
    | nil => simp at h
    | cons c cs => simp only [List.cons_append, setAt, ih cs (by simpa using h), Option.map_some]
theorem row_app (xs ys : List AV) (k m : Nat) (h : xs.length = m) : readRow (xs ++ ys) (m + k) 1 false = ys[k]? := by
  subst h
  simp [readRow, List.getElem?_append_right]
theorem row_front (xs ys : List AV) (m : Nat) (h : xs.length = m) : readRow (xs ++ ys) 0 m true = some (.agg xs) := by
  subst h
  simp [readRow]
theorem row_all (xs : List AV) (m : Nat) (h : xs.length = m) : readRow xs 0 m true = some (.agg xs) := by
  subst h
  simp [readRow]
theorem closeds_all {m : Nat} : ∀ {cs : List AV}, (∀ c ∈ cs, AV.closed m c = true) → AV.closeds m cs = true
  | [], _ => rfl
  | c :: cs, h => by simp only [AV.closeds, Bool.and_eq_true]; exact ⟨h c (by simp), closeds_all fun c hc => h c (by simp [hc])⟩
theorem outL_agg {m : Nat} {cs : List AV} {st : St} (h1 : ∀ c ∈ cs, AV.stripN m c = c) (h2 : ∀ c ∈ cs, AV.closed m c = true) (hs : St.closed m (st.trunc m) = true) (hl : m ≤ st.length) : outL false m (.ret (.agg cs)) st = some (.ret (.agg cs), st.trunc m) := by
  refine outL_plain ?_ ?_ hs hl
  · simp only [AV.stripR]
    congr 1
    exact (List.map_congr_left h1).trans (by simp)
  · simp only [AV.closed]; exact closeds_all h2
end
/-- Things side by side with the rows that they are. -/
def Each {α : Type} (R : α → List AV → Prop) (xs : List α) (rows : List (List AV)) : Prop := xs.length = rows.length ∧ ∀ (i : Nat) x r, xs[i]? = some x → rows[i]? = some r → R x r
theorem Each.nil {α : Type} {R : α → List AV → Prop} : Each R [] [] := ⟨rfl, by simp⟩
theorem Each.get {α : Type} {R : α → List AV → Prop} {xs : List α} {rows : List (List AV)} (h : Each R xs rows) {i : Nat} {x : α} (hx : xs[i]? = some x) : ∃ r, rows[i]? = some r ∧ R x r := by
  have hl := (List.getElem?_eq_some_iff.1 hx).1
  have : rows[i]? = some (rows[i]'(by rw [← h.1]; exact hl)) := List.getElem?_eq_getElem _
  exact ⟨_, this, h.2 i x _ hx this⟩
theorem Each.snoc {α : Type} {R : α → List AV → Prop} {xs : List α} {rows : List (List AV)} (h : Each R xs rows) {x : α} {r : List AV} (hr : R x r) : Each R (xs ++ [x]) (rows ++ [r]) := by
  refine ⟨by simp [h.1], fun i y q hy hq => ?_⟩
  by_cases hi : i < xs.length
  · rw [List.getElem?_append_left hi] at hy
    rw [List.getElem?_append_left (by rw [← h.1]; exact hi)] at hq
    exact h.2 i y q hy hq
  · rw [List.getElem?_append_right (by omega)] at hy
    rw [List.getElem?_append_right (by rw [← h.1]; omega), ← h.1] at hq
    have : i - xs.length = 0 := by
      have := (List.getElem?_eq_some_iff.1 hy).1
      simp at this; omega
    rw [this] at hy hq
    simp at hy hq
    subst hy; subst hq
    exact hr
theorem Each.imp {α : Type} {R R' : α → List AV → Prop} {xs : List α} {rows : List (List AV)} (h : Each R xs rows) (hi : ∀ x r, R x r → R' x r) : Each R' xs rows := ⟨h.1, fun i x r h1 h2 => hi _ _ (h.2 i x r h1 h2)⟩
theorem Each.take {α : Type} {R : α → List AV → Prop} {xs : List α} {rows : List (List AV)} (h : Each R xs rows) (n : Nat) : Each R (xs.take n) (rows.take n) := by
  refine ⟨by simp [h.1], fun i x r h1 h2 => ?_⟩
  rw [List.getElem?_take] at h1 h2
  split at h1
  · rename_i hi; rw [if_pos hi] at h2; exact h.2 i x r h1 h2
  · simp at h1
theorem closedss_get {m : Nat} : ∀ {rows : List (List AV)}, (∀ (i : Nat) r, rows[i]? = some r → AV.closeds m r = true) → AV.closedss m rows = true
  | [], _ => rfl
  | r :: rows, h => by simp only [AV.closedss, Bool.and_eq_true]; exact ⟨h 0 r rfl, closedss_get fun i q hq => h (i + 1) q (by simpa using hq)⟩
end Go.Abs
