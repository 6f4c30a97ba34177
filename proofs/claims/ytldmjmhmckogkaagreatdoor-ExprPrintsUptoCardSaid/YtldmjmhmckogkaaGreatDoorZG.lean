/- ExprPrints returns true for every expression of bulk at most 1048576 and leaves it as it was: where the package-level variables that the row lists stand as it lists them. -/
import Derived.Test.YtldmjmhmckogkaaGreatDoorZF
import Derived.Shelf.Strconv.AtoiAll
import Derived.Shelf.Strconv.Itoa3
import Derived.Test.YtldmjmhmckogkaaGreatDoorCards
import Derived.Test.YtldmjmhmckogkaaGreatDoorTie
import Derived.WalkKit
import Derived.ProofKit
import Derived.Deep.DeepHandedRow
import Derived.Deep.DeepWitnessRowRef
import Derived.Stop.LaidErr
import Derived.Lib.LaidIn
set_option linter.unusedVariables false
set_option linter.unusedSimpArgs false
set_option linter.unusedSectionVars false
open Option (bind_some bind_eq_some_iff map_eq_some_iff map_some)
open UInt8 (ofNat)
namespace Go.Abs
open Go Go.RowKit Go.Shelf Go.Proofs
theorem DD:∀(l:List UInt8) (a:Nat),a≤l.foldl (fun a c=>a*10+(c.toNat - 48)) a
 |[],a=>Nat.le_refl _
 |c::r,a=>by
  have:=DD r (a*10+(c.toNat - 48))
  simp only [List.foldl_cons];omega
theorem Ki:∀(l:List UInt8) (a:Nat),(l.all fun c=>decide (48≤c.toNat)&&decide (c.toNat≤57))=true→a<18446744073709551616 →
  Lib.parseUint10 a l=if l.foldl (fun a c=>a*10+(c.toNat - 48)) a<18446744073709551616 then .ok (l.foldl (fun a c=>a*10+(c.toNat - 48)) a) else .range
 |[],a,_,ha=>by simp [Lib.parseUint10,ha]
 |c::r,a,h,ha=>by
  simp only [List.all_cons,Bool.and_eq_true,decide_eq_true_eq] at h
  obtain ⟨⟨h1,h2⟩,h3⟩:=h
  have hge:=DD r (a*10+(c.toNat - 48))
  rw [List.foldl_cons]
  simp only [Lib.parseUint10]
  rw [if_pos ⟨h1,h2⟩]
  by_cases h4:1844674407370955162≤a
  ·rw [if_pos h4,if_neg (by omega)]
  ·rw [if_neg h4]
   by_cases h5:18446744073709551616≤a*10+(c.toNat - 48)
   ·rw [if_pos h5,if_neg (by omega)]
   ·rw [if_neg h5]
    exact Ki r _ (by simpa using h3) (by omega)
theorem Fy {l:List UInt8} (h:Wn l=true):Lib.atoiAll l=(if ZR l≤9223372036854775807 then .ok (ZR l:Int) else .range)∧Lib.atoiSat l=9223372036854775807:=by
 unfold Wn at h
 rw [Bool.and_eq_true] at h
 obtain ⟨h0,h1⟩:=h
 match l,h0,h1 with
 |c::r,_,h1 =>
  have hc:48≤c.toNat∧c.toNat≤57:=by
   have:=List.all_eq_true.1 h1 c List.mem_cons_self
   simpa using this
  refine ⟨?_,Lib.atoiSat_other c r (by omega)⟩
  rw [Lib.atoiAll_plain c r (by omega) (by omega)]
  have hm:Lib.parseMag (c::r)=Lib.parseUint10 0 (c::r):=by unfold Lib.parseMag;rw [if_neg (by simp)]
  rw [hm,Ki (c::r) 0 h1 (by omega)]
  show Lib.signless (if ZR (c::r)<18446744073709551616 then .ok (ZR (c::r)) else .range)=_
  by_cases h2:ZR (c::r)<18446744073709551616
  ·rw [if_pos h2]
   simp only [Lib.signless]
   by_cases h3:ZR (c::r)≤9223372036854775807
   ·rw [if_neg (by omega),if_pos h3]
   ·rw [if_pos (by omega),if_neg h3]
  ·rw [if_neg h2,if_neg (by omega)];rfl
section
variable {P:Program} {H:zN} {W w w':World} {bs:Nat} {σ:Gh} {st:St}
theorem WF.grown (h:WF P W bs σ st w) (hb:Below w.heap.size w w'):WF P W bs σ st w':=by
 refine h.still (T:=w.heap.size) (Gh.Le.refl σ) (h.below.trans (hb.mono (Nat.le_trans h.bsle h.below.size))) (fun b _ hlt=>hb.block b hlt) (Zc h (Nat.le_refl _)) (fun _ _ _ hv=>.inl hv) (fun i v hv=>?_) (fun _ _ hy=>.inl hy) (fun y hy=>?_) rfl rfl rfl
 ·rw [noI h (Nat.le_refl _)] at hv;cases hv
 ·rw [Cr h (Nat.le_refl _)] at hy;cases hy
theorem FB {name:String} {k:IntKind} {zs:List Int} (h:Lib.TabIs P W name k zs) (hw:WF P W bs σ st w) (hbs:bs=W.heap.size):Lib.TabIs P w name k zs:=by
 subst hbs
 unfold Lib.TabIs World.var? at h ⊢
 obtain ⟨g,hg,h2⟩:=bind_eq_some_iff.1 h
 rw [hg,bind_some]
 have hlt:g<W.heap.size:=by
  by_cases hlt:g<W.heap.size
  ·exact hlt
  ·rw [Array.getElem?_eq_none (by omega)] at h2;cases h2
 rw [hw.below.block g hlt]
 exact h2
theorem zaG {v:Value} {l:List UInt8} (h:Rep P σ v (.str l)):∃s:ByteArray,v = .string s∧s.data.toList=l:=by
 generalize hx:AV.str l=x at h
 cases h<;>cases hx
 exact ⟨_,rfl,rfl⟩
theorem Hu {v:Value} {k:IntKind} {n:Int} (h:Rep P σ v (.int k n)):v = .int k n:=by
 generalize hx:AV.int k n=x at h
 cases h<;>cases hx
 rfl
theorem MZ (w:World) (k:Nat) (os:Array Obj):Below w.heap.size w (Go.Sort.grow (w.drewN k) os):=by
 refine ⟨rfl,rfl,rfl,?_,fun b hb=>?_⟩
 ·show w.heap.size≤(w.heap++os).size
  rw [Array.size_append];omega
 ·show (w.heap++os)[b]?=w.heap[b]?
  exact Array.getElem?_append_left hb
variable {ρ:Ren}
theorem EZ (L:LaysM.n246 P ρ) (hhas:Has P (ρ.f 246)) (htab:Lib.TabIs P W "internal/strconv.uint64pow10" .u64 Lib.pow10Tab) (hbs:bs=W.heap.size) (xs:List AV) (st:St) (r:zd×St) (hF:GO xs st=some r) :
  Has P (ρ.f 246)∧∀σ w vs,WF P W bs σ st w→qx P H σ→qX P σ vs xs→Calls P (ρ.f 246) vs.toArray w (VR P W bs σ r.1 r.2):=by
 refine ⟨hhas,fun σ w vs hw hg hr=>?_⟩
 unfold GO at hF
 split at hF
 ·rename_i n b
  split at hF
  ·rename_i hc
   obtain ⟨rfl,h0,h1⟩:=hc
   cases hF
   obtain ⟨v1,v2,rfl,r1,r2⟩:=hr.two
   obtain rfl:=Hu r1
   obtain rfl:=Hu r2
   have hw2:=Any.internal_strconv_FormatInt_10 L n h0 h1 w (FB htab hw hbs)
   refine hw2.mono fun e w' ⟨he,k,os,hwe⟩=>?_
   subst he hwe
   have hs:Rep P σ (.string ⟨(Lib.itoa n).toArray⟩) (.str (Lib.itoa n)):=.str ⟨(Lib.itoa n).toArray⟩
   exact ⟨_,σ,rfl,Gh.Le.refl σ,hw.grown (MZ w k os),hs⟩
  ·cases hF
 ·cases hF
theorem WF.newBlock (h:WF P W bs σ st w) (hb:Below w.heap.size w w') {N:Nat} (hN:w.heap.size≤N) :
  ∃σ',σ.Le σ'∧WF P W bs σ' st w'∧∀i v,w'.cell? ⟨N,i,none⟩=some v→v.oneCell'=true→σ'.I N i=some v:=by
 let σ':Gh:={σ with I:=fun b i=>if b=N then (w'.cell? ⟨N,i,none⟩).filter (·.oneCell') else σ.I b i}
 have hle:σ.Le σ':=⟨fun b i v hv=>by
  show (if b=N then (w'.cell? ⟨N,i,none⟩).filter (·.oneCell') else σ.I b i)=some v
  have hlt:=jv (h.imm _ _ _ hv).1
  rw [if_neg (by intro e;subst e;omega)];exact hv,fun _ _ h=>h,fun _ _ _ h=>h,fun _ _ h=>h,fun _ _ _ _ h=>h,rfl⟩
 refine ⟨σ',hle,?_,?_⟩
 ·refine h.still (T:=N) hle (h.below.trans (hb.mono (Nat.le_trans h.bsle h.below.size))) (fun b _ hlt=>hb.block b hlt) (Zc h hN) (fun b i v hv=>?_) (fun i v hv=>?_) (fun _ _ hy=>.inl hy) (fun y hy=>?_) rfl rfl rfl
  ·by_cases hbN:b=N
   ·exact .inr hbN
   ·refine .inl ?_
    have hv':(if b=N then (w'.cell? ⟨N,i,none⟩).filter (·.oneCell') else σ.I b i)=some v:=hv
    rwa [if_neg hbN] at hv'
  ·have hv':(if N=N then (w'.cell? ⟨N,i,none⟩).filter (·.oneCell') else σ.I N i)=some v:=hv
   rw [if_pos rfl,Option.filter_eq_some_iff] at hv'
   exact hv'
  ·have hy':σ.sh N=some y:=hy
   rw [Cr h hN] at hy';cases hy'
 ·intro i v hc h1
  show (if N=N then (w'.cell? ⟨N,i,none⟩).filter (·.oneCell') else σ.I N i)=some v
  rw [if_pos rfl,hc]
  simp [Option.filter,h1]
theorem EG (L:LaysC.n172 P ρ) (hhas:Has P (ρ.f 172)) {te:TypeId} (hte:ρ.t 168=te) {te2:TypeId} {E2:AV} (hglob:H.glob (ρ.g 16)=some [.iface te2 E2])
  (xs:List AV) (st:St) (r:zd×St) (hF:Vv te (.iface te2 E2) xs st=some r) :
  Has P (ρ.f 172)∧∀σ w vs,WF P W bs σ st w→qx P H σ→qX P σ vs xs→Calls P (ρ.f 172) vs.toArray w (VR P W bs σ r.1 r.2):=by
 refine ⟨hhas,fun σ w vs hw hg hr=>?_⟩
 unfold Vv at hF
 split at hF
 ·rename_i l
  split at hF
  ·rename_i hc
   obtain ⟨hd,hlen⟩:=hc
   obtain ⟨v1,rfl,r1⟩:=hr.one
   obtain ⟨s,rfl,rfl⟩:=zaG r1
   obtain ⟨ha,hsat⟩:=Fy hd
   have hsz:s.size=s.data.toList.length:=rfl
   split at hF
   ·rename_i hle
    cases hF
    rw [if_pos hle] at ha
    have hw2:=Any.strconv_Atoi_ok L s (by omega) _ ha w
    refine hw2.mono fun e w' ⟨he,hwe⟩=>?_
    subst he
    have hb:Below w.heap.size w w':=by
     rcases hwe with rfl | ⟨t,rfl⟩
     ·exact Below.refl _ _
     ·exact Lib.bytesWorld_below w _ t
    refine ⟨_,σ,rfl,Gh.Le.refl σ,hw.grown hb,.tup _ _ rfl fun j v a hv ha=>?_⟩
    match j with
    | 0=>cases hv;cases ha;exact .int _ _
    | 1=>cases hv;cases ha;exact .nili
    |j+2=>simp at ha
   ·rename_i hgt
    cases hF
    rw [if_neg hgt] at ha
    have hge:=hg _ _ hglob
    obtain ⟨ev,hcell,hrep⟩:∃ev,w.cell? ⟨ρ.g 16,0,none⟩=some ev∧Rep P σ ev (.iface te2 E2):=by
     generalize hx:Value.pointer (some ⟨ρ.g 16,0,none⟩)=x at hge
     generalize hy:AV.ip [.iface te2 E2] 0=y at hge
     cases hge<;>cases hy
     rename_i b x hI hR
     cases hx
     have h0:=hI 0 _ rfl
     obtain ⟨ev,hev⟩:=Option.isSome_iff_exists.1 h0
     exact ⟨ev,(hw.imm _ _ _ hev).1,hR 0 _ ev rfl hev⟩
    have hev:∃te pe,ev = .iface te pe:=by
     generalize hy:AV.iface te2 E2=y at hrep
     cases hrep<;>cases hy
     exact ⟨_,_,rfl⟩
    have hone:ev.oneCell'=true:=by obtain ⟨a,b,rfl⟩:=hev;rfl
    have hw2:=Any.strconv_Atoi_range L s (by omega) ha ev w hcell (.inr hev)
    refine hw2.mono fun e w' ⟨N,he,hN,hcells,hb⟩=>?_
    subst he
    obtain ⟨σ',hle',hwf,hI⟩:=hw.newBlock hb hN
    have c0:w'.cell? ⟨N,0,none⟩=some (.string ⟨#[65,116,111,105]⟩):=by simp [World.cell?,hcells]
    have c1:w'.cell? ⟨N,1,none⟩=some (.string s):=by simp [World.cell?,hcells]
    have c2:w'.cell? ⟨N,2,none⟩=some ev:=by simp [World.cell?,hcells]
    have i0:=hI 0 _ c0 rfl
    have i1:=hI 1 _ c1 rfl
    have i2:=hI 2 _ c2 hone
    refine ⟨_,σ',rfl,hle',hwf,.tup _ _ rfl fun j v a hv ha=>?_⟩
    match j with
    | 0=>cases hv;cases ha;rw [hsat];exact .int _ _
    | 1 =>
     cases hv;cases ha
     rw [hte]
     refine .iface te _ _ (.ip N 0 _ 0 (fun j a hj=>?_) fun j a v hj hv=>?_)
     ·rw [Nat.zero_add]
      match j with
      | 0=>rw [i0];rfl
      | 1=>rw [i1];rfl
      | 2=>rw [i2];rfl
      |j+3=>simp at hj
     ·rw [Nat.zero_add] at hv
      match j with
      | 0=>rw [i0] at hv;cases hv;cases hj;exact .str ⟨#[65,116,111,105]⟩
      | 1=>rw [i1] at hv;cases hv;cases hj;exact .str s
      | 2=>rw [i2] at hv;cases hv;cases hj;exact hrep.mono hle'
      |j+3=>simp at hj
    |j+2=>simp at ha
  ·cases hF
 ·cases hF
end
end Go.Abs
namespace Go.Abs
open Go Go.RowKit Go.ChangeShapes Go.Proofs
section
variable {P:Program} {H:zN} {w:World} {T:Type} {enc:TypeId×Value→T}
theorem Ni (hP:JF P H) (hX:Qj P H) (hm:P.follows .mixedOrders=true) {W:World} {bs:Nat} (hM:WT P H W bs) {g:FuncId} {xs:List AV} {st:St} {r:zd×St} (h:qU P H g xs st=some r) {σ:Gh} {w:World} {vs:List Value}
  (hw:WF P W bs σ st w) (hg:qx P H σ) (hr:qX P σ vs xs):Calls P g vs.toArray w (VR P W bs σ r.1 r.2):=by
 obtain ⟨n,hn⟩:=Dx h
 exact (BS hP hX hM (It hm hX) n g xs st r hn).2 σ w vs hw hg hr
theorem BA {fn:Func} {s:ChangeSpec} {f:FuncId} {tb:TypeId} (hP:JF P H) (hX:Qj P H) (hm:P.follows .mixedOrders=true) (hM:WT P H w w.heap.size) (hg:qx P H (qO w)) (hl:laidOutB P=true)
  (hr:(fn.params.toList.all fun t=>P.readableRec t&&decide (t<P.types.size))=true) (hvars:s.vars=[]) (hres:fn.resultTypes=#[tb]) (hub:P.underlying tb=some .bool)
  {args:Array Value} {ds gs:List (DataW T)} {before:List MemPlace} (hW:DataW.Whole enc P fn.params.toList s.vars false w args.toList ds gs before) (hfn:s.fn T (ds++gs)={results:=[.lit (.bool true)],args:=ds})
  {avs:List AV} (hrep:qX P (qO w) args.toList avs) {st:St} (hrun:qU P H f avs []=some (.ret (.bool true),st)) :
  Calls P f args w fun e w'=>∃v,e = .returned v∧s.post enc P fn false true false false w args v w':=by
 have hc:=Ni hP hX hm hM hrun (w:=w) wf0 hg hrep
 rw [Array.toArray_toList] at hc
 refine hc.mono fun e w' he=>?_
 cases e with
 |panicked ch=>obtain ⟨a,v,σ',h1,_⟩:=he;cases h1
 |outgrown=>exact he.elim
 |returned v =>
  obtain ⟨a,σ',h1,h2,h3,h4⟩:=he
  cases h1
  cases h4
  have hlt:=hW.lt
  have hW':=hW
  obtain ⟨p,q,hA,hV,rfl,hfz,hnd⟩:=hW
  have hvs:gs=[]∧q=[]:=by rw [hvars] at hV;exact trodVars_none hV
  obtain ⟨rfl,rfl⟩:=hvs
  refine ⟨_,rfl,ds,[],p++[],[],p,[],hW',?_,?_,?_,h3.below.frame _,fun h=>by cases h⟩
  ·rw [hfn,hres]
   exact trodAll_mk1 (shut_bool hub _)
  ·rw [hfn]
   exact Xd hl h3.below hr hA (fun x hx=>hlt x (by simpa using hx))
  ·rw [hvars,hfn];rfl
theorem IA {name:String} {k:IntKind} {zs:List Int} {laid:List (String×DataW Unit)} {g:Nat} {t e:TypeId} {n:Nat}
  (hg:P.globalNamed name=some g) (hty:(P.globals[g]?).map (·.type)=some t) (ht:P.underlying t=some (.array n e)) (he:P.underlying e=some (.int k)) (hce:P.cellsOf e=1) (hct:P.cellsOf t=n)
  (h:laidMet P laid w) (hm:(name,Lib.tabData k zs) ∈ laid):Lib.TabIs P w name k zs:=by
 obtain ⟨ps,hl,_⟩:=h
 obtain ⟨g',t',cs,fuel,p,hg',ht',hvar,hd⟩:=LV hl _ _ hm
 obtain rfl:=Option.some.inj (hg.symm.trans hg')
 obtain rfl:=Option.some.inj (hty.symm.trans ht')
 unfold Lib.TabIs
 rw [hvar,←Lib.cells_of_tab ht he hce hct hd]
theorem Uv {S:List TypeId} (hl:laidOutB P=true) (hS:ZM P S=true) {t:TypeId} (ht:t ∈ S) (hts:t<P.types.size) {laid:List (String×DataW Unit)} {name:String} {d:DataW Unit} {g:Nat}
  (h:laidMet P laid w) (hm:(name,d) ∈ laid) (hg:P.globalNamed name=some g) (hty:(P.globals[g]?).map (·.type)=some t) {row:List AV} (hrow:∀n ds,avD P n t d=some ds→ds=row):Rep P (qO w) (.pointer (some ⟨g,0,none⟩)) (.ip row 0):=by
 obtain ⟨ps,hL,_⟩:=h
 obtain ⟨g',t',cs,fuel,p,hg',ht',hvar,hd⟩:=LV hL _ _ hm
 obtain rfl:=Option.some.inj (hg.symm.trans hg')
 obtain rfl:=Option.some.inj (hty.symm.trans ht')
 obtain ⟨ds,ha⟩:=Option.isSome_iff_exists.1 (UI hS fuel t _ d p ht hd)
 obtain ⟨h1,h2,h3⟩:=LB hl (LQ hS) fuel t _ d p ds ht hts hd ha
 obtain rfl:=hrow _ _ ha
 refine DL fun j a hj=>?_
 have hlt:j<cs.toList.length:=by rw [h1];exact (List.getElem?_eq_some_iff.1 hj).1
 have hv:cs.toList[j]?=some cs.toList[j]:=List.getElem?_eq_getElem hlt
 refine ⟨cs.toList[j],?_,h2 _ (List.getElem_mem hlt),h3 j _ a hv hj⟩
 have:=World.var?_cell hg hvar j
 rw [this]
 simp
end
end Go.Abs
namespace Go.Proofs
open Go.Shelf
def Tryz.laysM246_ren:Go.Shelf.Ren:=⟨fun | 246=>118 | 283=>129 | 284=>130 | 285=>131 | 286=>132 | 129=>137 | 317=>136 | 318=>138 | 319=>139 | 320=>140 | 337=>143 | 338=>144 | n=>n,fun | 2=>2 | 3=>3 | 9=>9 | 4=>4 | 171=>164 | 0=>0 | 53=>123 | 37=>66 | 5=>5 | 173=>167 | 212=>177 | 51=>125 | 20=>20 | 213=>178 | 46=>134 | 232=>186 | 233=>187 | n=>n,fun | 17=>7 | 18=>8 | 19=>9 | n=>n⟩
theorem Tryz.laysM246:Go.Proofs.LaysM.n246 Tryz.prog Tryz.laysM246_ren:={
  mixed:=by kernel_rfl,
  f129:=Tryz.func137.trans (congrArg some (by kernel_rfl)),
  f246:=Tryz.func118.trans (congrArg some (by kernel_rfl)),
  f283:=Tryz.func129.trans (congrArg some (by kernel_rfl)),
  f284:=Tryz.func130.trans (congrArg some (by kernel_rfl)),
  f285:=Tryz.func131.trans (congrArg some (by kernel_rfl)),
  f286:=Tryz.func132.trans (congrArg some (by kernel_rfl)),
  f317:=Tryz.func136.trans (congrArg some (by kernel_rfl)),
  f318:=Tryz.func138.trans (congrArg some (by kernel_rfl)),
  f319:=Tryz.func139.trans (congrArg some (by kernel_rfl)),
  f320:=Tryz.func140.trans (congrArg some (by kernel_rfl)),
  f337:=Tryz.func143.trans (congrArg some (by kernel_rfl)),
  f338:=Tryz.func144.trans (congrArg some (by kernel_rfl)),
  t0:=Tryz.underlying0,
  a0:=Tryz.isAgg0,
  z0:=Tryz.sizeOf0,
  v0:=Tryz.zeroValue0,
  t2:=Tryz.underlying2,
  a2:=Tryz.isAgg2,
  z2:=Tryz.sizeOf2,
  v2:=Tryz.zeroValue2,
  t3:=Tryz.underlying3,
  a3:=Tryz.isAgg3,
  z3:=Tryz.sizeOf3,
  v3:=Tryz.zeroValue3,
  t4:=Tryz.underlying4,
  a4:=Tryz.isAgg4,
  z4:=Tryz.sizeOf4,
  v4:=Tryz.zeroValue4,
  t5:=Tryz.underlying5,
  a5:=Tryz.isAgg5,
  z5:=Tryz.sizeOf5,
  v5:=Tryz.zeroValue5,
  t9:=Tryz.underlying9,
  a9:=Tryz.isAgg9,
  z9:=Tryz.sizeOf9,
  v9:=Tryz.zeroValue9,
  t20:=Tryz.underlying20,
  a20:=Tryz.isAgg20,
  z20:=Tryz.sizeOf20,
  v20:=Tryz.zeroValue20,
  t37:=Tryz.underlying66,
  a37:=Tryz.isAgg66,
  z37:=Tryz.sizeOf66,
  v37:=Tryz.zeroValue66,
  t46:=Tryz.underlying134,
  a46:=Tryz.isAgg134,
  z46:=Tryz.sizeOf134,
  v46:=Tryz.zeroValue134,
  t51:=Tryz.underlying125,
  a51:=Tryz.isAgg125,
  z51:=Tryz.sizeOf125,
  v51:=Tryz.zeroValue125,
  t53:=Tryz.underlying123,
  a53:=Tryz.isAgg123,
  z53:=Tryz.sizeOf123,
  v53:=Tryz.zeroValue123,
  t171:=Tryz.underlying164,
  a171:=Tryz.isAgg164,
  z171:=Tryz.sizeOf164,
  v171:=Tryz.zeroValue164,
  t173:=Tryz.underlying167,
  a173:=Tryz.isAgg167,
  z173:=Tryz.sizeOf167,
  v173:=Tryz.zeroValue167,
  t212:=Tryz.underlying177,
  a212:=Tryz.isAgg177,
  z212:=Tryz.sizeOf177,
  v212:=Tryz.zeroValue177,
  t213:=Tryz.underlying178,
  a213:=Tryz.isAgg178,
  z213:=Tryz.sizeOf178,
  t232:=Tryz.underlying186,
  a232:=Tryz.isAgg186,
  z232:=Tryz.sizeOf186,
  v232:=Tryz.zeroValue186,
  t233:=Tryz.underlying187,
  a233:=Tryz.isAgg187,
  z233:=Tryz.sizeOf187,
  v233:=Tryz.zeroValue187,
  g17:=by kernel_rfl,
  g18:=by kernel_rfl,
  g19:=by kernel_rfl,
  i0:=by kernel_rfl,
  i2:=by kernel_rfl,
  i3:=by kernel_rfl,
  i4:=by kernel_rfl,
  i5:=by kernel_rfl,
  i9:=by kernel_rfl,
  i20:=by kernel_rfl,
  i37:=by kernel_rfl,
  i46:=by kernel_rfl,
  i51:=by kernel_rfl,
  i53:=by kernel_rfl,
  i171:=by kernel_rfl,
  i173:=by kernel_rfl,
  i212:=by kernel_rfl,
  i232:=by kernel_rfl,
  i233:=by kernel_rfl,
  m17:=by kernel_rfl,
  m18:=by kernel_rfl,
  m19:=by kernel_rfl}
def Tryz.laysC172_ren:Go.Shelf.Ren:=⟨fun | 172=>93 | 244=>110 | 245=>111 | 247=>121 | 279=>122 | 280=>123 | 281=>124 | 282=>125 | 287=>133 | 316=>134 | 171=>88 | 205=>135 | 321=>141 | 322=>142 | 243=>104 | 246=>118 | 283=>129 | 284=>130 | 285=>131 | 286=>132 | 129=>137 | 317=>136 | 318=>138 | 319=>139 | 320=>140 | 337=>143 | 338=>144 | n=>n,fun | 9=>9 | 3=>3 | 75=>95 | 76=>97 | 4=>4 | 5=>5 | 167=>147 | 37=>66 | 0=>0 | 85=>148 | 2=>2 | 168=>150 | 53=>123 | 175=>169 | 46=>134 | 210=>172 | 127=>100 | 145=>184 | 143=>182 | 21=>21 | 171=>164 | 173=>167 | 212=>177 | 51=>125 | 20=>20 | 213=>178 | 232=>186 | 233=>187 | 80=>72 | n=>n,fun | 15=>5 | 16=>6 | 17=>7 | 18=>8 | 19=>9 | n=>n⟩
theorem Tryz.laysC172:Go.Proofs.LaysC.n172 Tryz.prog Tryz.laysC172_ren:={
  mixed:=by kernel_rfl,
  f129:=Tryz.func137.trans (congrArg some (by kernel_rfl)),
  f171:=Tryz.func88.trans (congrArg some (by kernel_rfl)),
  f172:=Tryz.func93.trans (congrArg some (by kernel_rfl)),
  f205:=Tryz.func135.trans (congrArg some (by kernel_rfl)),
  f243:=Tryz.func104.trans (congrArg some (by kernel_rfl)),
  f244:=Tryz.func110.trans (congrArg some (by kernel_rfl)),
  f245:=Tryz.func111.trans (congrArg some (by kernel_rfl)),
  f246:=Tryz.func118.trans (congrArg some (by kernel_rfl)),
  f247:=Tryz.func121.trans (congrArg some (by kernel_rfl)),
  f279:=Tryz.func122.trans (congrArg some (by kernel_rfl)),
  f280:=Tryz.func123.trans (congrArg some (by kernel_rfl)),
  f281:=Tryz.func124.trans (congrArg some (by kernel_rfl)),
  f282:=Tryz.func125.trans (congrArg some (by kernel_rfl)),
  f283:=Tryz.func129.trans (congrArg some (by kernel_rfl)),
  f284:=Tryz.func130.trans (congrArg some (by kernel_rfl)),
  f285:=Tryz.func131.trans (congrArg some (by kernel_rfl)),
  f286:=Tryz.func132.trans (congrArg some (by kernel_rfl)),
  f287:=Tryz.func133.trans (congrArg some (by kernel_rfl)),
  f316:=Tryz.func134.trans (congrArg some (by kernel_rfl)),
  f317:=Tryz.func136.trans (congrArg some (by kernel_rfl)),
  f318:=Tryz.func138.trans (congrArg some (by kernel_rfl)),
  f319:=Tryz.func139.trans (congrArg some (by kernel_rfl)),
  f320:=Tryz.func140.trans (congrArg some (by kernel_rfl)),
  f321:=Tryz.func141.trans (congrArg some (by kernel_rfl)),
  f322:=Tryz.func142.trans (congrArg some (by kernel_rfl)),
  f337:=Tryz.func143.trans (congrArg some (by kernel_rfl)),
  f338:=Tryz.func144.trans (congrArg some (by kernel_rfl)),
  t0:=Tryz.underlying0,
  a0:=Tryz.isAgg0,
  z0:=Tryz.sizeOf0,
  v0:=Tryz.zeroValue0,
  t2:=Tryz.underlying2,
  a2:=Tryz.isAgg2,
  z2:=Tryz.sizeOf2,
  v2:=Tryz.zeroValue2,
  t3:=Tryz.underlying3,
  a3:=Tryz.isAgg3,
  z3:=Tryz.sizeOf3,
  v3:=Tryz.zeroValue3,
  t4:=Tryz.underlying4,
  a4:=Tryz.isAgg4,
  z4:=Tryz.sizeOf4,
  v4:=Tryz.zeroValue4,
  t5:=Tryz.underlying5,
  a5:=Tryz.isAgg5,
  z5:=Tryz.sizeOf5,
  v5:=Tryz.zeroValue5,
  t9:=Tryz.underlying9,
  a9:=Tryz.isAgg9,
  z9:=Tryz.sizeOf9,
  v9:=Tryz.zeroValue9,
  t20:=Tryz.underlying20,
  a20:=Tryz.isAgg20,
  z20:=Tryz.sizeOf20,
  v20:=Tryz.zeroValue20,
  t21:=Tryz.underlying21,
  a21:=Tryz.isAgg21,
  z21:=Tryz.sizeOf21,
  v21:=Tryz.zeroValue21,
  t37:=Tryz.underlying66,
  a37:=Tryz.isAgg66,
  z37:=Tryz.sizeOf66,
  v37:=Tryz.zeroValue66,
  t46:=Tryz.underlying134,
  a46:=Tryz.isAgg134,
  z46:=Tryz.sizeOf134,
  v46:=Tryz.zeroValue134,
  t51:=Tryz.underlying125,
  a51:=Tryz.isAgg125,
  z51:=Tryz.sizeOf125,
  v51:=Tryz.zeroValue125,
  t53:=Tryz.underlying123,
  a53:=Tryz.isAgg123,
  z53:=Tryz.sizeOf123,
  v53:=Tryz.zeroValue123,
  t75:=Tryz.underlying95,
  a75:=Tryz.isAgg95,
  z75:=Tryz.sizeOf95,
  v75:=Tryz.zeroValue95,
  t76:=Tryz.underlying97,
  a76:=Tryz.isAgg97,
  z76:=Tryz.sizeOf97,
  v76:=Tryz.zeroValue97,
  t85:=Tryz.underlying148,
  a85:=Tryz.isAgg148,
  z85:=Tryz.sizeOf148,
  v85:=Tryz.zeroValue148,
  t127:=Tryz.underlying100,
  a127:=Tryz.isAgg100,
  z127:=Tryz.sizeOf100,
  v127:=Tryz.zeroValue100,
  t143:=Tryz.underlying182,
  a143:=Tryz.isAgg182,
  z143:=Tryz.sizeOf182,
  v143:=Tryz.zeroValue182,
  t145:=Tryz.underlying184,
  a145:=Tryz.isAgg184,
  z145:=Tryz.sizeOf184,
  v145:=Tryz.zeroValue184,
  t167:=Tryz.underlying147,
  a167:=Tryz.isAgg147,
  z167:=Tryz.sizeOf147,
  v167:=Tryz.zeroValue147,
  t168:=Tryz.underlying150,
  a168:=Tryz.isAgg150,
  z168:=Tryz.sizeOf150,
  v168:=Tryz.zeroValue150,
  t171:=Tryz.underlying164,
  a171:=Tryz.isAgg164,
  z171:=Tryz.sizeOf164,
  v171:=Tryz.zeroValue164,
  t173:=Tryz.underlying167,
  a173:=Tryz.isAgg167,
  z173:=Tryz.sizeOf167,
  v173:=Tryz.zeroValue167,
  t175:=Tryz.underlying169,
  a175:=Tryz.isAgg169,
  z175:=Tryz.sizeOf169,
  v175:=Tryz.zeroValue169,
  t210:=Tryz.underlying172,
  a210:=Tryz.isAgg172,
  z210:=Tryz.sizeOf172,
  v210:=Tryz.zeroValue172,
  t212:=Tryz.underlying177,
  a212:=Tryz.isAgg177,
  z212:=Tryz.sizeOf177,
  v212:=Tryz.zeroValue177,
  t213:=Tryz.underlying178,
  a213:=Tryz.isAgg178,
  z213:=Tryz.sizeOf178,
  t232:=Tryz.underlying186,
  a232:=Tryz.isAgg186,
  z232:=Tryz.sizeOf186,
  v232:=Tryz.zeroValue186,
  t233:=Tryz.underlying187,
  a233:=Tryz.isAgg187,
  z233:=Tryz.sizeOf187,
  v233:=Tryz.zeroValue187,
  g15:=by kernel_rfl,
  g16:=by kernel_rfl,
  g17:=by kernel_rfl,
  g18:=by kernel_rfl,
  g19:=by kernel_rfl,
  t80:=Tryz.underlying72,
  a80:=Tryz.isAgg72,
  z80:=Tryz.sizeOf72,
  v80:=Tryz.zeroValue72,
  i0:=by kernel_rfl,
  i2:=by kernel_rfl,
  i3:=by kernel_rfl,
  i4:=by kernel_rfl,
  i5:=by kernel_rfl,
  i9:=by kernel_rfl,
  i20:=by kernel_rfl,
  i21:=by kernel_rfl,
  i37:=by kernel_rfl,
  i46:=by kernel_rfl,
  i51:=by kernel_rfl,
  i53:=by kernel_rfl,
  i75:=by kernel_rfl,
  i76:=by kernel_rfl,
  i80:=by kernel_rfl,
  i85:=by kernel_rfl,
  i127:=by kernel_rfl,
  i143:=by kernel_rfl,
  i145:=by kernel_rfl,
  i167:=by kernel_rfl,
  i168:=by kernel_rfl,
  i171:=by kernel_rfl,
  i173:=by kernel_rfl,
  i175:=by kernel_rfl,
  i210:=by kernel_rfl,
  i212:=by kernel_rfl,
  i232:=by kernel_rfl,
  i233:=by kernel_rfl,
  m15:=by kernel_rfl,
  m16:=by kernel_rfl,
  m17:=by kernel_rfl,
  m18:=by kernel_rfl,
  m19:=by kernel_rfl,
  c0:=by kernel_rfl,
  c2:=by kernel_rfl,
  c3:=by kernel_rfl,
  c4:=by kernel_rfl,
  c5:=by kernel_rfl,
  c9:=by kernel_rfl,
  c20:=by kernel_rfl,
  c21:=by kernel_rfl,
  c37:=by kernel_rfl,
  c46:=by kernel_rfl,
  c51:=by kernel_rfl,
  c53:=by kernel_rfl,
  c75:=by kernel_rfl,
  c76:=by kernel_rfl,
  c80:=by kernel_rfl,
  c85:=by kernel_rfl,
  c127:=by kernel_rfl,
  c143:=by kernel_rfl,
  c145:=by kernel_rfl,
  c167:=by kernel_rfl,
  c168:=by kernel_rfl,
  c171:=by kernel_rfl,
  c173:=by kernel_rfl,
  c175:=by kernel_rfl,
  c210:=by kernel_rfl,
  c212:=by kernel_rfl,
  c213:=by kernel_rfl,
  c232:=by kernel_rfl,
  c233:=by kernel_rfl}
end Go.Proofs
namespace Go.Proofs.YtldmjmhmckogkaaGreatDoor
open Go Go.Abs Go.ChangeShapes Go.WideShapes Go.ChangeAt Go.RowKit
theorem own:ownKnob Tryz.prog.godebug=none:=by kernel_rfl
theorem XD:laidOutB Tryz.prog=true:=by kernel_rfl
theorem zaQ:JF Tryz.prog zz:=Ba (by kernel_rfl)
theorem mixed:Tryz.prog.follows .mixedOrders=true:=by kernel_rfl
set_option maxRecDepth 1000000
abbrev DP:List (String×DataW Unit):=Rows.exprPrintsRow.laid
theorem BF:ZM Tryz.prog [128,5]=true:=by kernel_rfl
theorem zaq:ZM Tryz.prog [137,136,5]=true:=by kernel_rfl
theorem zbi : "*" ++ "errors.errorString" = "*errors.errorString" := by decide
theorem zak (u:TypeId) (h:Tryz.prog.typeName? 3 u=some "*errors.errorString"):u=182 :=
 typeName_ptr_named (nm := "errors.errorString") (by rw [zbi];kernel_rfl) (by kernel_rfl) (by decide) u (by rw [zbi];exact h)
section
variable {w:World} (h:laidMet Tryz.prog DP w)
include h
theorem Iy:Lib.TabIs Tryz.prog w "internal/strconv.uint64pow10" .u64 Lib.pow10Tab :=
 IA (laid:=DP) (g:=7) (t:=177) (e:=123) (n:=20) (by kernel_rfl) (by kernel_rfl) (by kernel_rfl) (by kernel_rfl) (by kernel_rfl) (by kernel_rfl) h (.tail _ (.tail _ (.head _)))
theorem zb6 {row:List AV} (hr:zz.glob 0=some row):Rep Tryz.prog (qO w) (.pointer (some ⟨0,0,none⟩)) (.ip row 0):=by
 refine Uv XD BF (t:=128) (by simp) (of_decide_eq_true (by kernel_rfl)) h (name := "strings.asciiSpace") (d:=Rows.laid_strings_asciiSpace) (.tail _ (.tail _ (.tail _ (.tail _ (.tail _ (.tail _ (.tail _ (.head _)))))))) (by kernel_rfl) (by kernel_rfl) fun n ds hd=>?_
 match n with
 | 0=>simp [avD] at hd
 | 1 =>
  have:avD Tryz.prog 1 128 (Rows.laid_strings_asciiSpace:DataW Unit)=none:=by kernel_rfl
  rw [this] at hd;cases hd
 |n+2 =>
  have:avD Tryz.prog (n+2) 128 (Rows.laid_strings_asciiSpace:DataW Unit)=zz.glob 0:=by kernel_rfl
  rw [this,hr] at hd;cases hd;rfl
theorem zbc {row:List AV} (hr:zz.glob 2=some row):Rep Tryz.prog (qO w) (.pointer (some ⟨2,0,none⟩)) (.ip row 0):=by
 refine Uv XD BF (t:=128) (by simp) (of_decide_eq_true (by kernel_rfl)) h (name := "unicode/utf8.first") (d:=Rows.laid_unicode_utf8_first) (.tail _ (.tail _ (.tail _ (.tail _ (.tail _ (.tail _ (.tail _ (.tail _ (.head _))))))))) (by kernel_rfl) (by kernel_rfl) fun n ds hd=>?_
 match n with
 | 0=>simp [avD] at hd
 | 1 =>
  have:avD Tryz.prog 1 128 (Rows.laid_unicode_utf8_first:DataW Unit)=none:=by kernel_rfl
  rw [this] at hd;cases hd
 |n+2 =>
  have:avD Tryz.prog (n+2) 128 (Rows.laid_unicode_utf8_first:DataW Unit)=zz.glob 2:=by kernel_rfl
  rw [this,hr] at hd;cases hd;rfl
theorem zb7 {row:List AV} (hr:zz.glob 3=some row):Rep Tryz.prog (qO w) (.pointer (some ⟨3,0,none⟩)) (.ip row 0):=by
 refine Uv XD zaq (t:=137) (by simp) (of_decide_eq_true (by kernel_rfl)) h (name := "unicode/utf8.acceptRanges") (d:=Rows.laid_unicode_utf8_acceptRanges) (.tail _ (.tail _ (.tail _ (.head _)))) (by kernel_rfl) (by kernel_rfl) fun n ds hd=>?_
 match n with
 | 0=>simp [avD] at hd
 | 1 =>
  have:avD Tryz.prog 1 137 (Rows.laid_unicode_utf8_acceptRanges:DataW Unit)=none:=by kernel_rfl
  rw [this] at hd;cases hd
 | 2 =>
  have:avD Tryz.prog 2 137 (Rows.laid_unicode_utf8_acceptRanges:DataW Unit)=none:=by kernel_rfl
  rw [this] at hd;cases hd
 |n+3 =>
  have:avD Tryz.prog (n+3) 137 (Rows.laid_unicode_utf8_acceptRanges:DataW Unit)=zz.glob 3:=by kernel_rfl
  rw [this,hr] at hd;cases hd;rfl
abbrev ZI:AV:=.ip [.str [118,97,108,117,101,32,111,117,116,32,111,102,32,114,97,110,103,101]] 0
theorem zaX:Rep Tryz.prog (qO w) (.pointer (some ⟨6,0,none⟩)) (.ip [.iface 182 ZI] 0):=by
 obtain ⟨a,s,h1,h2,h3,_⟩:=laid_sentinel (P:=Tryz.prog) (g:=6) (tp:=182) h.tail.tail.tail.tail (by kernel_rfl) (by kernel_rfl) Tryz.underlying95 zak Tryz.underlying182 Tryz.underlying184 rfl rfl Tryz.underlying9 (by kernel_rfl) (by kernel_rfl)
 refine DL fun j x hj=>?_
 match j,hj with
 | 0,hj =>
  simp only [List.getElem?_cons_zero,Option.some.injEq] at hj
  subst hj
  have hg:Tryz.prog.globalNamed "strconv.ErrRange" = some 6:=by kernel_rfl
  have hc:=World.var?_cell hg h1 0
  refine ⟨.iface 182 (.pointer (some a)),by simpa using hc,rfl,.iface _ _ _ ?_⟩
  have ha:=XL h2
  have hI:=Yw (w:=w) (b:=a.block) (i:=a.off) (v:=.string s) (by rw [←ME ha];exact h2) rfl
  rw [ME ha]
  refine (Rep.ip a.block a.off _ 0 (fun j x hj=>?_) fun j x v hj hv=>?_:Rep Tryz.prog (qO w) (.pointer (some ⟨a.block,a.off+0,none⟩)) ZI)
  ·match j,hj with
   | 0,_=>rw [Nat.add_zero,hI];rfl
  ·match j,hj with
   | 0,hj =>
    simp only [List.getElem?_cons_zero,Option.some.injEq] at hj
    subst hj
    rw [Nat.add_zero,hI] at hv
    cases hv
    have:Rep Tryz.prog (qO w) (.string s) (.str s.data.toList):=.str s
    rw [h3] at this
    exact this
 |j+1,hj=>simp at hj
theorem zaw:qx Tryz.prog zz (qO w):=by
 intro g row hr
 have hmem:g=0∨g=2∨g=3∨g=6:=by
  have hr':(YM.find? (·.1==g)).map (·.2)=some row:=hr
  obtain ⟨x,hx,_⟩:=map_eq_some_iff.1 hr'
  have h1:=List.mem_of_find?_eq_some hx
  have h2:=List.find?_some hx
  have h3:x.1 ∈ YM.map (·.1):=List.mem_map_of_mem h1
  have h4:YM.map (·.1)=[0,2,3,6]:=by kernel_rfl
  rw [h4] at h3
  have h5:x.1=g:=by simpa using h2
  rw [h5] at h3
  simpa using h3
 rcases hmem with rfl | rfl | rfl | rfl
 ·exact zb6 h hr
 ·exact zbc h hr
 ·exact zb7 h hr
 ·have:zz.glob 6=some [.iface 182 ZI]:=by kernel_rfl
  rw [this] at hr
  cases hr
  exact zaX h
theorem zan:WT Tryz.prog zz w w.heap.size:=by
 intro g F hF
 have h1:(if g=93 then some (Vv 150 (.iface 182 ZI)) else if g=118 then some GO else none)=some F:=hF
 split at h1
 ·rename_i hg
  subst hg
  cases h1
  exact EG Tryz.laysC172 ⟨Tryz.f93,Tryz.func93,by kernel_rfl,by kernel_rfl⟩ (by kernel_rfl) (by kernel_rfl)
 ·split at h1
  ·rename_i hg
   subst hg
   cases h1
   exact EZ Tryz.laysM246 ⟨Tryz.f118,Tryz.func118,by kernel_rfl,by kernel_rfl⟩ (Iy h) rfl
  ·cases h1
end
theorem zaY:Qj Tryz.prog zz:=by
 intro g F hF
 have h1:(if g=103 then some JA else if g=91 then some ZN else none)=some F:=hF
 split at h1
 ·rename_i hg
  subst hg
  cases h1
  exact fun W bs σ st w vs xs a hw hr hF=>Cf Tryz.func103 (by kernel_rfl) (by kernel_rfl) (by kernel_rfl) (by kernel_rfl) hw hr hF
 ·split at h1
  ·rename_i hg
   subst hg
   cases h1
   exact fun W bs σ st w vs xs a hw hr hF=>Bh Tryz.func91 (by kernel_rfl) (by kernel_rfl) (by kernel_rfl) (by kernel_rfl) hw hr hF
  ·cases h1
end Go.Proofs.YtldmjmhmckogkaaGreatDoor
namespace Go.Proofs.YtldmjmhmckogkaaGreatDoor
open Go Go.Abs Go.ChangeShapes Go.WideShapes Go.ChangeAt Go.RowKit
def VO:Nat→DataW Unit→List Value
 |_,.lit (.int k z)=>[.int k z]
 |n+1,.agg ds=>ds.flatMap (VO n)
 |_,_=>[]
def HF:List Value:=[(9,13,1),(32,133,101),(160,5760,5600),(8192,8202,1),(8232,8233,1),(8239,8287,48),(12288,12288,1)].flatMap fun (x:Int×Int×Int)=>[.int .u16 x.1,.int .u16 x.2.1,.int .u16 x.2.2]
noncomputable def qS (os:Os):World :=
 let N:=(World.settled Tryz.prog os).heap.size
 let w0:=World.holding Tryz.prog os ⟨#[
  .cells #[.string ⟨#[105,110,118,97,108,105,100,32,115,121,110,116,97,120]⟩] 184,.cells #[.string ⟨#[118,97,108,117,101,32,111,117,116,32,111,102,32,114,97,110,103,101]⟩] 184,
  .cells #[.slice (some ⟨N+3,0,none⟩) 7 7,.slice none 0 0,.int .i64 2] 156,.cells HF.toArray 159],#[],[]⟩
 let put (h:Array Obj) (g:Nat) (cs:List Value):Array Obj:=h.modify g fun
  | .cells _ t frozen=>.cells cs.toArray t frozen
  |o=>o
 let h:=put w0.heap 5 [.iface 182 (.pointer (some ⟨N,0,none⟩))]
 let h:=put h 6 [.iface 182 (.pointer (some ⟨N+1,0,none⟩))]
 let h:=put h 4 [.pointer (some ⟨N+2,0,none⟩)]
 let h:=put h 0 (VO 9 Rows.laid_strings_asciiSpace)
 let h:=put h 2 (VO 9 Rows.laid_unicode_utf8_first)
 let h:=put h 3 (VO 9 Rows.laid_unicode_utf8_acceptRanges)
 let h:=put h 7 (VO 9 Rows.laid_internal_strconv_uint64pow10)
 let h:=put h 8 (VO 9 Rows.laid_math_bits_deBruijn32tab)
 let h:=put h 9 (VO 9 Rows.laid_math_bits_deBruijn64tab)
 {w0 with heap:=h}
set_option maxRecDepth 1000000
noncomputable abbrev N0:Nat:=(World.settled Tryz.prog default).heap.size
theorem zaa (os:Os) (args:Array Value):LaidIn Tryz.prog ((qS os).forCall (fun _ _=>0) ⟨#[],args,[]⟩).memory [("math/bits.deBruijn32tab",Rows.laid_math_bits_deBruijn32tab)] [8] :=
 LaidIn.of_run [8] 8 (by kernel_rfl) (by kernel_rfl) (by kernel_rfl) (by kernel_rfl)
theorem zae (os:Os) (args:Array Value):LaidIn Tryz.prog ((qS os).forCall (fun _ _=>0) ⟨#[],args,[]⟩).memory [("math/bits.deBruijn64tab",Rows.laid_math_bits_deBruijn64tab)] [9] :=
 LaidIn.of_run [9] 8 (by kernel_rfl) (by kernel_rfl) (by kernel_rfl) (by kernel_rfl)
theorem zaI (os:Os) (args:Array Value):LaidIn Tryz.prog ((qS os).forCall (fun _ _=>0) ⟨#[],args,[]⟩).memory [("internal/strconv.uint64pow10",Rows.laid_internal_strconv_uint64pow10)] [7] :=
 LaidIn.of_run [7] 8 (by kernel_rfl) (by kernel_rfl) (by kernel_rfl) (by kernel_rfl)
theorem zaF (os:Os) (args:Array Value):LaidIn Tryz.prog ((qS os).forCall (fun _ _=>0) ⟨#[],args,[]⟩).memory [("unicode/utf8.acceptRanges",Rows.laid_unicode_utf8_acceptRanges)] [3] :=
 LaidIn.of_run [3] 8 (by kernel_rfl) (by kernel_rfl) (by kernel_rfl) (by kernel_rfl)
theorem zat (os:Os) (args:Array Value):LaidIn Tryz.prog ((qS os).forCall (fun _ _=>0) ⟨#[],args,[]⟩).memory [("strconv.ErrRange",Rows.laid_strconv_ErrRange)] [6,N0+1] :=
 LaidIn.of_run [6,N0+1] 8 (by kernel_rfl) (by kernel_rfl) (by kernel_rfl) (by kernel_rfl)
theorem zaz (os:Os) (args:Array Value):LaidIn Tryz.prog ((qS os).forCall (fun _ _=>0) ⟨#[],args,[]⟩).memory [("strconv.ErrSyntax",Rows.laid_strconv_ErrSyntax)] [5,N0] :=
 LaidIn.of_run [5,N0] 8 (by kernel_rfl) (by kernel_rfl) (by kernel_rfl) (by kernel_rfl)
theorem zax (os:Os) (args:Array Value):LaidIn Tryz.prog ((qS os).forCall (fun _ _=>0) ⟨#[],args,[]⟩).memory [("unicode.White_Space",Rows.laid_unicode_White_Space)] [4,N0+2,N0+3] :=
 LaidIn.of_run [4,N0+2,N0+3] 8 (by kernel_rfl) (by kernel_rfl) (by kernel_rfl) (by kernel_rfl)
theorem zaJ (os:Os) (args:Array Value):LaidIn Tryz.prog ((qS os).forCall (fun _ _=>0) ⟨#[],args,[]⟩).memory [("strings.asciiSpace",Rows.laid_strings_asciiSpace)] [0] :=
 LaidIn.of_run [0] 8 (by kernel_rfl) (by kernel_rfl) (by kernel_rfl) (by kernel_rfl)
theorem zap (os:Os) (args:Array Value):LaidIn Tryz.prog ((qS os).forCall (fun _ _=>0) ⟨#[],args,[]⟩).memory [("unicode/utf8.first",Rows.laid_unicode_utf8_first)] [2] :=
 LaidIn.of_run [2] 8 (by kernel_rfl) (by kernel_rfl) (by kernel_rfl) (by kernel_rfl)
theorem BX (os:Os) (args:Array Value):laidMet Tryz.prog DP ((qS os).forCall (fun _ _=>0) ⟨#[],args,[]⟩).memory :=
 LaidIn.met (((((((((zaa os args).append (zae os args) (by kernel_rfl)).append (zaI os args) (by kernel_rfl)).append (zaF os args) (by kernel_rfl)).append (zat os args) (by kernel_rfl)).append (zaz os args) (by kernel_rfl)).append (zax os args) (by kernel_rfl)).append (zaJ os args) (by kernel_rfl)).append (zap os args) (by kernel_rfl))
end Go.Proofs.YtldmjmhmckogkaaGreatDoor
namespace Go.Proofs.YtldmjmhmckogkaaGreatDoor
open Go Go.Abs Go.ChangeShapes Go.WideShapes Go.ChangeAt Go.RowKit Go.Abs.X
section
variable {T:Type}
theorem Ct (d:DataW T):1≤Rows.uptoBulk d:=by
 cases d with
 |lit l=>cases l<;>simp [Rows.uptoBulk]
 |nil=>simp [Rows.uptoBulk]
 |ptr d=>simp [Rows.uptoBulk]
 |slice elems spare=>simp [Rows.uptoBulk]
 |agg parts=>simp [Rows.uptoBulk]
 |iface t d=>simp [Rows.uptoBulk]
 |map entries=>simp [Rows.uptoBulk]
 |held h=>simp [Rows.uptoBulk]
theorem CP (l:List (DataW T)):l.length≤Rows.uptoBulkAll l:=by
 induction l with
 |nil=>exact Nat.le_refl _
 |cons x r ih =>
  have:=Ct x
  simp only [Rows.uptoBulkAll,List.length_cons];omega
theorem HJ {P:Program} {n:Nat} {t:TypeId} {fs:Array Field} {d:DataW T} {cs:List AV} (hu:P.underlying t=some (.struct fs)) (h:avD P n t d=some cs) :
  ∃m parts rs,n=m+1∧d = .agg parts∧parts.length=fs.size∧((fs.toList.zip parts).mapM fun p=>avD P m p.1.type p.2)=some rs∧cs=rs.flatten:=by
 cases n with
 |zero=>simp [avD] at h
 |succ n =>
  unfold avD at h
  rw [hu] at h
  cases d with
  |agg parts =>
   simp only at h
   split at h
   ·rename_i hl
    obtain ⟨rs,hr,h2⟩:=map_eq_some_iff.1 h
    exact ⟨n,parts,rs,rfl,rfl,hl,hr,h2.symm⟩
   ·simp at h
  |lit l=>cases l<;>simp at h
  |_=>simp at h
end
theorem kEx:QZ Tryz.prog 24=some 4:=by kernel_rfl
theorem IJ:ZM Tryz.prog [24,3,9,22]=true:=by kernel_rfl
set_option maxRecDepth 100000 in
theorem HN {T:Type}:∀(n:Nat) (d:DataW T) (cs:List AV),avD Tryz.prog n 24 d=some cs→∃e,ExR e cs∧inR e=true∧(Rows.uptoBulk d≤1048576→Zr e=true):=by
 intro n
 induction n using Nat.strongRecOn with
 |_ n ih =>
  intro d cs h
  obtain ⟨m,parts,rs,rfl,rfl,hl,hr,rfl⟩:=HJ Tryz.underlying24 h
  have hl4:parts.length=4:=by simpa using hl
  clear hl
  match parts,hl4 with
  |[a,b,c,k],_ =>
   simp only [List.zip_cons_cons,List.zip_nil_right,List.mapM_cons,List.mapM_nil] at hr
   obtain ⟨ra,ha,h2⟩:=bind_eq_some_iff.1 hr
   obtain ⟨r2,h3,h4⟩:=bind_eq_some_iff.1 h2
   obtain ⟨rb,hb,h5⟩:=bind_eq_some_iff.1 h3
   obtain ⟨r3,h6,h7⟩:=bind_eq_some_iff.1 h5
   obtain ⟨rc,hc,h8⟩:=bind_eq_some_iff.1 h6
   obtain ⟨r4,h9,h10⟩:=bind_eq_some_iff.1 h8
   obtain ⟨rk,hk,h11⟩:=bind_eq_some_iff.1 h9
   obtain ⟨x,rfl,_,rfl⟩:=Ez Tryz.underlying3 ha
   obtain ⟨y,rfl,hy,rfl⟩:=Ez Tryz.underlying3 hb
   obtain ⟨z,rfl,rfl⟩:=HH Tryz.underlying9 hc
   simp at h4 h7 h10 h11
   subst h11;subst h10;subst h7;subst h4
   have hy':y≤9223372036854775807:=by
    simp [Lit.wf,IntKind.min,IntKind.max,IntKind.signed,IntKind.bits] at hy
    omega
   rcases Fj Tryz.underlying22 hk with ⟨rfl,rfl⟩ | ⟨m',elems,spare,kd,rows,rfl,rfl,hkd,hrows,rfl⟩
   ·refine ⟨.mk x y z [],⟨.nils,[],rfl,.nil,.inl rfl,rfl⟩,?_,fun hbk=>?_⟩
    ·show (decide (y≤9223372036854775807)&&true)=true
     rw [decide_eq_true hy'];rfl
    ·simp only [Rows.uptoBulk,Rows.uptoBulkAll] at hbk
     show (jN z []&&true)=true
     simp [jN];omega
   ·rw [kEx] at hkd
    simp only [Option.some.injEq] at hkd
    subst hkd
    have key:∀(els:List (DataW T)) (rows:List (List AV)),els.mapM (avD Tryz.prog m' 24)=some rows→∃es:List Ex,ExRs es rows∧inRs es=true∧es.length=els.length∧(Rows.uptoBulkAll els≤1048576→sanes es=true):=by
     intro els
     induction els with
     |nil=>intro rows h;simp at h;subst h;exact ⟨[],rfl,rfl,rfl,fun _=>rfl⟩
     |cons e1 els ihl =>
      intro rows h
      rw [List.mapM_cons] at h
      obtain ⟨r,hr,h2⟩:=bind_eq_some_iff.1 h
      obtain ⟨rs,hrs,h3⟩:=bind_eq_some_iff.1 h2
      simp only [Option.pure_def,Option.some.injEq] at h3
      subst h3
      obtain ⟨e,e2,e3,e4⟩:=ih m' (by omega) e1 r hr
      obtain ⟨es,f1,f2,f3,f4⟩:=ihl rs hrs
      refine ⟨e::es,⟨r,rs,rfl,e2,f1⟩,?_,by simp [f3],fun hbk=>?_⟩
      ·show (inR e&&inRs es)=true
       rw [e3,f2];rfl
      ·simp only [Rows.uptoBulkAll] at hbk
       show (Zr e&&sanes es)=true
       rw [e4 (by omega),f4 (by omega)];rfl
    obtain ⟨es,f1,f2,f3,f4⟩:=key elems rows hrows
    refine ⟨.mk x y z es,⟨_,rows,rfl,.mk,.inr ⟨rows,0,rows.length,.no,rfl,.inl rfl,f1.closed⟩,f1⟩,?_,fun hbk=>?_⟩
    ·show (decide (y≤9223372036854775807)&&inRs es)=true
     rw [decide_eq_true hy',f2];rfl
    ·have:=CP elems
     simp only [Rows.uptoBulk,Rows.uptoBulkAll] at hbk
     show (jN z es&&sanes es)=true
     rw [f4 (by omega)]
     simp [jN,f3];omega
set_option maxRecDepth 1000000 in
theorem Ck {f:FuncId} {fn:Func} {s:ChangeSpec} (hpar:fn.params=#[24]) (hvars:s.vars=[]) (hfn:∀(T:Type) (d1:DataW T),s.fn T [d1]={results:=[.lit (.bool true)],args:=[d1]}) (hres:fn.resultTypes=#[4])
  (hrun:∀(e:Ex) (cs:List AV),ExR e cs→Zr e=true→inR e=true→cw f [.agg cs] []=some (.ret (.bool true),[]))
  (T:Type) (enc:TypeId×Value→T) (W:World) (base:Nat) (args:Array Value) (ds gs:List (DataW T)) (before:List MemPlace)
  (hval:∀(j:Nat) t v,fn.params[j]?=some t→args[j]?=some v→Value.okWide Tryz.prog W .any base t v)
  (hW:DataW.Whole enc Tryz.prog fn.params.toList s.vars false W args.toList ds gs before) (hL:laidMet Tryz.prog DP W) (hk:Rows.uptoSmall T (ds++gs)=true) :
  Calls Tryz.prog f args W fun e W'=>∃v,e = .returned v∧s.post enc Tryz.prog fn false true false false W args v W':=by
 have hW':=hW
 obtain ⟨p,q,hA0,hV,rfl,hfz,hnd⟩:=hW
 have hA:DataW.TrodAll enc Tryz.prog W 0 (fun _=>true) true fn.params.toList args.toList ds p:=hA0
 rw [hpar] at hA hval
 obtain ⟨v0,vs0,d0,ds0,p0,q0,hargs,rfl,rfl,h0,r0⟩:=trodAll_cons hA
 obtain ⟨rfl,rfl,rfl⟩:=trodAll_nil r0
 obtain rfl:args=#[v0]:=by cases args;simp_all
 rw [hvars] at hV
 obtain ⟨rfl,rfl⟩:=trodVars_none hV
 obtain ⟨n,cs,ha,hrep⟩:=Ib XD IJ (by simp) (of_decide_eq_true (by kernel_rfl)) Tryz.underlying24 (hval 0 24 v0 rfl rfl) h0
 obtain ⟨e,h1,h2,h3⟩:=HN n d0 cs ha
 have hbl:Rows.uptoBulk d0≤1048576:=by
  have:=of_decide_eq_true hk
  simp only [Rows.uptoBulkAll,List.append_nil] at this
  omega
 exact BA zaQ zaY mixed (zan hL) (zaw hL) XD (by rw [hpar];kernel_rfl) hvars hres Tryz.underlying4 hW' (by simpa using hfn T d0)
  (avs:=[.agg cs]) (.cons hrep .nil) (hrun e cs h1 (h3 hbl) h2)
abbrev exV:Value:=.agg #[.int .i64 0,.int .i64 0,.string ⟨#[]⟩,.slice none 0 0]
theorem za9 (os:Os) {H:Type} (enc:TypeId×Value→H):∃places,DataW.whole enc Tryz.prog ((qS os).forCall (fun _ _=>0) ⟨#[],#[exV],[]⟩).memory Tryz.f4.params.toList Rows.exprPrintsSpec.vars false #[exV].toList 8=some ([.agg [.lit (.int .i64 0),.lit (.int .i64 0),.lit (.string []),.nil]],[],places) :=
 ⟨[],by kernel_rfl⟩
set_option maxRecDepth 1000000 in
theorem HX (os:Os) (started:os.Started) (H:Type) (enc:TypeId×Value→H) (F:Stop.Interp) :
  ReturnsInHanded {} Tryz.checked os 4 .any ((Rows.OpenSpec.upto Rows.exprPrintsSpec).preRow enc Tryz.prog Tryz.f4 Rows.exprPrintsUptoRow.domain false Rows.exprPrintsUptoRow.laid) (((Rows.OpenSpec.upto Rows.exprPrintsSpec).at F).post enc Tryz.prog Tryz.f4 false true false false):=by
 obtain ⟨places,hx⟩:=za9 os enc
 refine returnsInHanded_of_row (C:=Tryz.checked) (s:=Rows.OpenSpec.upto Rows.exprPrintsSpec) own started (by kernel_rfl) Tryz.func4
  (witness_row_atRef (enc:=enc) (C:=Tryz.checked) false (qS os) #[exV] rfl (by kernel_rfl) (by kernel_rfl) (by kernel_rfl)
   (OpenSpec.preRow_of_cond 8 hx (by kernel_rfl) (fun k hk=>by cases hk;kernel_rfl) (by kernel_rfl) (BX os _))) ?_
 intro W base args ds gs before hval hW _ hcond _ hL _ _
 exact Ck (f:=4) (fn:=Tryz.f4) (s:=Rows.exprPrintsSpec) Tryz.params4 rfl (fun _ _=>rfl) rfl (fun e cs h1 h2 h3=>ED h1 h2 h3 Cl.nil) H enc W base args ds gs before hval hW hL (hcond _ rfl)
theorem zbo:Rows.ExprPrintsUptoSaid :=
 OpenClaim.holds_of_cond 4 Tryz.f4 rfl rfl rfl rfl rfl rfl rfl ⟨rfl,rfl,rfl,rfl,rfl⟩ rfl rfl rfl rfl rfl (by kernel_rfl) Tryz.func4 (by kernel_rfl)
  (of_decide_eq_true (by kernel_rfl)) (by unfold Func.isWrapper;first | (rw [if_pos (by decide +kernel)];kernel_rfl) | (rw [if_neg (by decide +kernel)];exact ⟨rfl,rfl⟩))
  (fun os started H enc _ F=>by rw [OpenClaim.pre_eq_preRow];exact HX os started H enc F)
theorem zaO (f:FuncId) (fn:Func) (hf:Tryz.pinned.checked.prog.funcNamed "stencil/stencillaw10.ExprPrints" = some f) (hfn:Tryz.pinned.checked.prog.funcs[f]?=some fn) :
  true=Tryz.pinned.checked.prog.looks []∧∀(j:Nat) t,fn.params[j]?=some t→Tryz.pinned.checked.prog.wantsStandIn t=false:=by
 obtain rfl:f=4:=Option.some.inj ((show Tryz.prog.funcNamed "stencil/stencillaw10.ExprPrints" = some 4 by kernel_rfl).symm.trans hf) |>.symm
 obtain rfl:fn=Tryz.f4:=(Option.some.inj (Tryz.func4.symm.trans hfn)).symm
 refine ⟨by kernel_rfl,fun j t ht=>?_⟩
 rw [Tryz.params4] at ht
 obtain rfl:t=24:=by simpa using Array.mem_of_getElem? ht
 exact (show Tryz.prog.wantsStandIn 24=false by kernel_rfl)
theorem exprPrints_holds:Rows.ExprPrintsUptoCardSaid :=
 Claim7.holds_tied_plain_at .later [] _ _ _ _ zbo (fun _ h=>by cases h) (by kernel_rfl) (fun _ h=>by cases h) exprPrintsUpto_row_tie rfl ⟨rfl,rfl⟩ (by kernel_rfl) rfl zaO (by kernel_rfl)
#print axioms exprPrints_holds
end Go.Proofs.YtldmjmhmckogkaaGreatDoor
