/- ExprLeans returns true for every two whole numbers and leaves its arguments as they were: where the package-level variables that the row lists stand as it lists them. -/
import Derived.Test.YtldmjmhmckogkaaDoorZE
import Derived.Shelf.Strconv.AtoiAll
import Derived.Shelf.Strconv.Itoa3
import Derived.Test.YtldmjmhmckogkaaDoorCards
import Derived.Test.YtldmjmhmckogkaaDoorTie
import Derived.WalkKit
import Derived.ProofKit
import Derived.Deep.DeepHandedRow
import Derived.Deep.DeepWitnessRowRef
import Derived.Stop.LaidErr
import Derived.Lib.LaidIn
set_option linter.unusedVariables false
set_option linter.unusedSimpArgs false
set_option linter.unusedSectionVars false
namespace Go.Abs
open Go Go.RowKit Go.Shelf Go.Proofs
theorem digs_ge:∀(l:List UInt8) (a:Nat),a≤l.foldl (fun a c=>a*10+(c.toNat - 48)) a
 |[],a=>Nat.le_refl _
 |c::r,a=>by
  have:=digs_ge r (a*10+(c.toNat - 48))
  simp only [List.foldl_cons];omega
theorem uint_digs:∀(l:List UInt8) (a:Nat),(l.all fun c=>decide (48≤c.toNat)&&decide (c.toNat≤57))=true→a<18446744073709551616 →
  Lib.parseUint10 a l=if l.foldl (fun a c=>a*10+(c.toNat - 48)) a<18446744073709551616 then .ok (l.foldl (fun a c=>a*10+(c.toNat - 48)) a) else .range
 |[],a,_,ha=>by simp [Lib.parseUint10,ha]
 |c::r,a,h,ha=>by
  simp only [List.all_cons,Bool.and_eq_true,decide_eq_true_eq] at h
  obtain ⟨⟨h1,h2⟩,h3⟩:=h
  have hge:=digs_ge r (a*10+(c.toNat - 48))
  rw [List.foldl_cons]
  simp only [Lib.parseUint10]
  rw [if_pos ⟨h1,h2⟩]
  by_cases h4:1844674407370955162≤a
  ·rw [if_pos h4,if_neg (by omega)]
  ·rw [if_neg h4]
   by_cases h5:18446744073709551616≤a*10+(c.toNat - 48)
   ·rw [if_pos h5,if_neg (by omega)]
   ·rw [if_neg h5]
    exact uint_digs r _ (by simpa using h3) (by omega)
theorem atoi_digs {l:List UInt8} (h:isDigs l=true):Lib.atoiAll l=(if digsVal l≤9223372036854775807 then .ok (digsVal l:Int) else .range)∧Lib.atoiSat l=9223372036854775807:=by
 unfold isDigs at h
 rw [Bool.and_eq_true] at h
 obtain ⟨h0,h1⟩:=h
 match l,h0,h1 with
 |c::r,_,h1 =>
  have hc:48≤c.toNat∧c.toNat≤57:=by
   have:=List.all_eq_true.1 h1 c List.mem_cons_self
   simpa using this
  refine ⟨?_,Lib.atoiSat_other c r (by omega)⟩
  rw [Lib.atoiAll_plain c r (by omega) (by omega)]
  have hm:Lib.parseMag (c::r)=Lib.parseUint10 0 (c::r):=by unfold Lib.parseMag;rw [if_neg (by simp)]
  rw [hm,uint_digs (c::r) 0 h1 (by omega)]
  show Lib.signless (if digsVal (c::r)<18446744073709551616 then .ok (digsVal (c::r)) else .range)=_
  by_cases h2:digsVal (c::r)<18446744073709551616
  ·rw [if_pos h2]
   simp only [Lib.signless]
   by_cases h3:digsVal (c::r)≤9223372036854775807
   ·rw [if_neg (by omega),if_pos h3]
   ·rw [if_pos (by omega),if_neg h3]
  ·rw [if_neg h2,if_neg (by omega)];rfl
section
variable {P:Program} {H:Hints} {W w w':World} {bs:Nat} {σ:Gh} {st:St}
theorem WF.grown (h:WF P W bs σ st w) (hb:Below w.heap.size w w'):WF P W bs σ st w':=by
 refine h.still (T:=w.heap.size) (Gh.Le.refl σ) (h.below.trans (hb.mono (Nat.le_trans h.bsle h.below.size))) (fun b _ hlt=>hb.block b hlt) (unowned h (Nat.le_refl _)) (fun _ _ _ hv=>.inl hv) (fun i v hv=>?_) (fun _ _ hy=>.inl hy) (fun y hy=>?_) rfl rfl rfl
 ·rw [noI h (Nat.le_refl _)] at hv;cases hv
 ·rw [noSh h (Nat.le_refl _)] at hy;cases hy
theorem tab_later {name:String} {k:IntKind} {zs:List Int} (h:Lib.TabIs P W name k zs) (hw:WF P W bs σ st w) (hbs:bs=W.heap.size):Lib.TabIs P w name k zs:=by
 subst hbs
 unfold Lib.TabIs World.var? at h ⊢
 obtain ⟨g,hg,h2⟩:=Option.bind_eq_some_iff.1 h
 rw [hg,Option.bind_some]
 have hlt:g<W.heap.size:=by
  by_cases hlt:g<W.heap.size
  ·exact hlt
  ·rw [Array.getElem?_eq_none (by omega)] at h2;cases h2
 rw [hw.below.block g hlt]
 exact h2
theorem str_of {v:Value} {l:List UInt8} (h:Rep P σ v (.str l)):∃s:ByteArray,v = .string s∧s.data.toList=l:=by
 generalize hx:AV.str l=x at h
 cases h<;>cases hx
 exact ⟨_,rfl,rfl⟩
theorem int_of {v:Value} {k:IntKind} {n:Int} (h:Rep P σ v (.int k n)):v = .int k n:=by
 generalize hx:AV.int k n=x at h
 cases h<;>cases hx
 rfl
theorem below_grow' (w:World) (k:Nat) (os:Array Obj):Below w.heap.size w (Go.Sort.grow (w.drewN k) os):=by
 refine ⟨rfl,rfl,rfl,?_,fun b hb=>?_⟩
 ·show w.heap.size≤(w.heap++os).size
  rw [Array.size_append];omega
 ·show (w.heap++os)[b]?=w.heap[b]?
  exact Array.getElem?_append_left hb
variable {ρ:Ren}
theorem prim_itoa (L:LaysM.n246 P ρ) (hhas:Has P (ρ.f 246)) (htab:Lib.TabIs P W "internal/strconv.uint64pow10" .u64 Lib.pow10Tab) (hbs:bs=W.heap.size) (xs:List AV) (st:St) (r:AOut×St) (hF:itoaP xs st=some r) :
  Has P (ρ.f 246)∧∀σ w vs,WF P W bs σ st w→GlobOk P H σ→Reps P σ vs xs→Calls P (ρ.f 246) vs.toArray w (EndOk P W bs σ r.1 r.2):=by
 refine ⟨hhas,fun σ w vs hw hg hr=>?_⟩
 unfold itoaP at hF
 split at hF
 ·rename_i n b
  split at hF
  ·rename_i hc
   obtain ⟨rfl,h0,h1⟩:=hc
   cases hF
   obtain ⟨v1,v2,rfl,r1,r2⟩:=hr.two
   obtain rfl:=int_of r1
   obtain rfl:=int_of r2
   have hw2:=Any.internal_strconv_FormatInt_10 L n h0 h1 w (tab_later htab hw hbs)
   refine hw2.mono fun e w' ⟨he,k,os,hwe⟩=>?_
   subst he hwe
   have hs:Rep P σ (.string ⟨(Lib.itoa n).toArray⟩) (.str (Lib.itoa n)):=.str ⟨(Lib.itoa n).toArray⟩
   exact ⟨_,σ,rfl,Gh.Le.refl σ,hw.grown (below_grow' w k os),hs⟩
  ·cases hF
 ·cases hF
theorem WF.newBlock (h:WF P W bs σ st w) (hb:Below w.heap.size w w') {N:Nat} (hN:w.heap.size≤N) :
  ∃σ',σ.Le σ'∧WF P W bs σ' st w'∧∀i v,w'.cell? ⟨N,i,none⟩=some v→v.oneCell'=true→σ'.I N i=some v:=by
 let σ':Gh:={σ with I:=fun b i=>if b=N then (w'.cell? ⟨N,i,none⟩).filter (·.oneCell') else σ.I b i}
 have hle:σ.Le σ':=⟨fun b i v hv=>by
  show (if b=N then (w'.cell? ⟨N,i,none⟩).filter (·.oneCell') else σ.I b i)=some v
  have hlt:=lt_of_cell (h.imm _ _ _ hv).1
  rw [if_neg (by intro e;subst e;omega)];exact hv,fun _ _ h=>h,fun _ _ _ h=>h,fun _ _ h=>h,fun _ _ _ _ h=>h,rfl⟩
 refine ⟨σ',hle,?_,?_⟩
 ·refine h.still (T:=N) hle (h.below.trans (hb.mono (Nat.le_trans h.bsle h.below.size))) (fun b _ hlt=>hb.block b hlt) (unowned h hN) (fun b i v hv=>?_) (fun i v hv=>?_) (fun _ _ hy=>.inl hy) (fun y hy=>?_) rfl rfl rfl
  ·by_cases hbN:b=N
   ·exact .inr hbN
   ·refine .inl ?_
    have hv':(if b=N then (w'.cell? ⟨N,i,none⟩).filter (·.oneCell') else σ.I b i)=some v:=hv
    rwa [if_neg hbN] at hv'
  ·have hv':(if N=N then (w'.cell? ⟨N,i,none⟩).filter (·.oneCell') else σ.I N i)=some v:=hv
   rw [if_pos rfl,Option.filter_eq_some_iff] at hv'
   exact hv'
  ·have hy':σ.sh N=some y:=hy
   rw [noSh h hN] at hy';cases hy'
 ·intro i v hc h1
  show (if N=N then (w'.cell? ⟨N,i,none⟩).filter (·.oneCell') else σ.I N i)=some v
  rw [if_pos rfl,hc]
  simp [Option.filter,h1]
theorem prim_atoi (L:LaysC.n172 P ρ) (hhas:Has P (ρ.f 172)) {te:TypeId} (hte:ρ.t 168=te) {te2:TypeId} {E2:AV} (hglob:H.glob (ρ.g 16)=some [.iface te2 E2])
  (xs:List AV) (st:St) (r:AOut×St) (hF:atoiP te (.iface te2 E2) xs st=some r) :
  Has P (ρ.f 172)∧∀σ w vs,WF P W bs σ st w→GlobOk P H σ→Reps P σ vs xs→Calls P (ρ.f 172) vs.toArray w (EndOk P W bs σ r.1 r.2):=by
 refine ⟨hhas,fun σ w vs hw hg hr=>?_⟩
 unfold atoiP at hF
 split at hF
 ·rename_i l
  split at hF
  ·rename_i hc
   obtain ⟨hd,hlen⟩:=hc
   obtain ⟨v1,rfl,r1⟩:=hr.one
   obtain ⟨s,rfl,rfl⟩:=str_of r1
   obtain ⟨ha,hsat⟩:=atoi_digs hd
   have hsz:s.size=s.data.toList.length:=rfl
   split at hF
   ·rename_i hle
    cases hF
    rw [if_pos hle] at ha
    have hw2:=Any.strconv_Atoi_ok L s (by omega) _ ha w
    refine hw2.mono fun e w' ⟨he,hwe⟩=>?_
    subst he
    have hb:Below w.heap.size w w':=by
     rcases hwe with rfl | ⟨t,rfl⟩
     ·exact Below.refl _ _
     ·exact Lib.bytesWorld_below w _ t
    refine ⟨_,σ,rfl,Gh.Le.refl σ,hw.grown hb,.tup _ _ rfl fun j v a hv ha=>?_⟩
    match j with
    | 0=>cases hv;cases ha;exact .int _ _
    | 1=>cases hv;cases ha;exact .nili
    |j+2=>simp at ha
   ·rename_i hgt
    cases hF
    rw [if_neg hgt] at ha
    have hge:=hg _ _ hglob
    obtain ⟨ev,hcell,hrep⟩:∃ev,w.cell? ⟨ρ.g 16,0,none⟩=some ev∧Rep P σ ev (.iface te2 E2):=by
     generalize hx:Value.pointer (some ⟨ρ.g 16,0,none⟩)=x at hge
     generalize hy:AV.ip [.iface te2 E2] 0=y at hge
     cases hge<;>cases hy
     rename_i b x hI hR
     cases hx
     have h0:=hI 0 _ rfl
     obtain ⟨ev,hev⟩:=Option.isSome_iff_exists.1 h0
     exact ⟨ev,(hw.imm _ _ _ hev).1,hR 0 _ ev rfl hev⟩
    have hev:∃te pe,ev = .iface te pe:=by
     generalize hy:AV.iface te2 E2=y at hrep
     cases hrep<;>cases hy
     exact ⟨_,_,rfl⟩
    have hone:ev.oneCell'=true:=by obtain ⟨a,b,rfl⟩:=hev;rfl
    have hw2:=Any.strconv_Atoi_range L s (by omega) ha ev w hcell (.inr hev)
    refine hw2.mono fun e w' ⟨N,he,hN,hcells,hb⟩=>?_
    subst he
    obtain ⟨σ',hle',hwf,hI⟩:=hw.newBlock hb hN
    have c0:w'.cell? ⟨N,0,none⟩=some (.string ⟨#[65,116,111,105]⟩):=by simp [World.cell?,hcells]
    have c1:w'.cell? ⟨N,1,none⟩=some (.string s):=by simp [World.cell?,hcells]
    have c2:w'.cell? ⟨N,2,none⟩=some ev:=by simp [World.cell?,hcells]
    have i0:=hI 0 _ c0 rfl
    have i1:=hI 1 _ c1 rfl
    have i2:=hI 2 _ c2 hone
    refine ⟨_,σ',rfl,hle',hwf,.tup _ _ rfl fun j v a hv ha=>?_⟩
    match j with
    | 0=>cases hv;cases ha;rw [hsat];exact .int _ _
    | 1 =>
     cases hv;cases ha
     rw [hte]
     refine .iface te _ _ (.ip N 0 _ 0 (fun j a hj=>?_) fun j a v hj hv=>?_)
     ·rw [Nat.zero_add]
      match j with
      | 0=>rw [i0];rfl
      | 1=>rw [i1];rfl
      | 2=>rw [i2];rfl
      |j+3=>simp at hj
     ·rw [Nat.zero_add] at hv
      match j with
      | 0=>rw [i0] at hv;cases hv;cases hj;exact .str ⟨#[65,116,111,105]⟩
      | 1=>rw [i1] at hv;cases hv;cases hj;exact .str s
      | 2=>rw [i2] at hv;cases hv;cases hj;exact hrep.mono hle'
      |j+3=>simp at hj
    |j+2=>simp at ha
  ·cases hF
 ·cases hF
end
end Go.Abs
namespace Go.Abs
open Go Go.RowKit Go.ChangeShapes Go.Proofs
section
variable {P:Program} {H:Hints} {w:World} {T:Type} {enc:TypeId×Value→T}
theorem callW_prims (hP:ProgOk P H) (hX:ExtOk P H) (hm:P.follows .mixedOrders=true) {W:World} {bs:Nat} (hM:PrimOk P H W bs) {g:FuncId} {xs:List AV} {st:St} {r:AOut×St} (h:callW P H g xs st=some r) {σ:Gh} {w:World} {vs:List Value}
  (hw:WF P W bs σ st w) (hg:GlobOk P H σ) (hr:Reps P σ vs xs):Calls P g vs.toArray w (EndOk P W bs σ r.1 r.2):=by
 obtain ⟨n,hn⟩:=callW_some h
 exact (callN_ok hP hX hM (draw_ok hm hX) n g xs st r hn).2 σ w vs hw hg hr
theorem law_laid {fn:Func} {s:ChangeSpec} {f:FuncId} {tb:TypeId} (hP:ProgOk P H) (hX:ExtOk P H) (hm:P.follows .mixedOrders=true) (hM:PrimOk P H w w.heap.size) (hg:GlobOk P H (ghost0 w)) (hl:laidOutB P=true)
  (hr:(fn.params.toList.all fun t=>P.readableRec t&&decide (t<P.types.size))=true) (hvars:s.vars=[]) (hres:fn.resultTypes=#[tb]) (hub:P.underlying tb=some .bool)
  {args:Array Value} {ds gs:List (DataW T)} {before:List MemPlace} (hW:DataW.Whole enc P fn.params.toList s.vars false w args.toList ds gs before) (hfn:s.fn T (ds++gs)={results:=[.lit (.bool true)],args:=ds})
  {avs:List AV} (hrep:Reps P (ghost0 w) args.toList avs) {st:St} (hrun:callW P H f avs []=some (.ret (.bool true),st)) :
  Calls P f args w fun e w'=>∃v,e = .returned v∧s.post enc P fn false true false false w args v w':=by
 have hc:=callW_prims hP hX hm hM hrun (w:=w) wf0 hg hrep
 rw [Array.toArray_toList] at hc
 refine hc.mono fun e w' he=>?_
 cases e with
 |panicked ch=>obtain ⟨a,v,σ',h1,_⟩:=he;cases h1
 |outgrown=>exact he.elim
 |returned v =>
  obtain ⟨a,σ',h1,h2,h3,h4⟩:=he
  cases h1
  cases h4
  have hlt:=hW.lt
  have hW':=hW
  obtain ⟨p,q,hA,hV,rfl,hfz,hnd⟩:=hW
  have hvs:gs=[]∧q=[]:=by rw [hvars] at hV;exact trodVars_none hV
  obtain ⟨rfl,rfl⟩:=hvs
  refine ⟨_,rfl,ds,[],p++[],[],p,[],hW',?_,?_,?_,h3.below.frame _,fun h=>by cases h⟩
  ·rw [hfn,hres]
   exact trodAll_mk1 (shut_bool hub _)
  ·rw [hfn]
   exact trodAll_below hl h3.below hr hA (fun x hx=>hlt x (by simpa using hx))
  ·rw [hvars,hfn];rfl
theorem tab_mem {name:String} {k:IntKind} {zs:List Int} {laid:List (String×DataW Unit)} {g:Nat} {t e:TypeId} {n:Nat}
  (hg:P.globalNamed name=some g) (hty:(P.globals[g]?).map (·.type)=some t) (ht:P.underlying t=some (.array n e)) (he:P.underlying e=some (.int k)) (hce:P.cellsOf e=1) (hct:P.cellsOf t=n)
  (h:laidMet P laid w) (hm:(name,Lib.tabData k zs) ∈ laid):Lib.TabIs P w name k zs:=by
 obtain ⟨ps,hl,_⟩:=h
 obtain ⟨g',t',cs,fuel,p,hg',ht',hvar,hd⟩:=vars_mem hl _ _ hm
 obtain rfl:=Option.some.inj (hg.symm.trans hg')
 obtain rfl:=Option.some.inj (hty.symm.trans ht')
 unfold Lib.TabIs
 rw [hvar,←Lib.cells_of_tab ht he hce hct hd]
theorem glob_avd {S:List TypeId} (hl:laidOutB P=true) (hS:plainSetB P S=true) {t:TypeId} (ht:t ∈ S) (hts:t<P.types.size) {laid:List (String×DataW Unit)} {name:String} {d:DataW Unit} {g:Nat}
  (h:laidMet P laid w) (hm:(name,d) ∈ laid) (hg:P.globalNamed name=some g) (hty:(P.globals[g]?).map (·.type)=some t) {row:List AV} (hrow:∀n ds,avD P n t d=some ds→ds=row):Rep P (ghost0 w) (.pointer (some ⟨g,0,none⟩)) (.ip row 0):=by
 obtain ⟨ps,hL,_⟩:=h
 obtain ⟨g',t',cs,fuel,p,hg',ht',hvar,hd⟩:=vars_mem hL _ _ hm
 obtain rfl:=Option.some.inj (hg.symm.trans hg')
 obtain rfl:=Option.some.inj (hty.symm.trans ht')
 obtain ⟨ds,ha⟩:=Option.isSome_iff_exists.1 (trod_plain hS fuel t _ d p ht hd)
 obtain ⟨h1,h2,h3⟩:=trod_rep hl (flat_set hS) fuel t _ d p ds ht hts hd ha
 obtain rfl:=hrow _ _ ha
 refine glob_ip fun j a hj=>?_
 have hlt:j<cs.toList.length:=by rw [h1];exact (List.getElem?_eq_some_iff.1 hj).1
 have hv:cs.toList[j]?=some cs.toList[j]:=List.getElem?_eq_getElem hlt
 refine ⟨cs.toList[j],?_,h2 _ (List.getElem_mem hlt),h3 j _ a hv hj⟩
 have:=World.var?_cell hg hvar j
 rw [this]
 simp
end
end Go.Abs
namespace Go.Proofs
open Go.Shelf
def Tryd.laysM246_ren:Go.Shelf.Ren:=⟨fun | 246=>71 | 283=>78 | 284=>79 | 285=>80 | 286=>81 | 129=>88 | 317=>87 | 318=>89 | 319=>90 | 320=>91 | 337=>95 | 338=>96 | n=>n,fun | 2=>2 | 3=>3 | 9=>9 | 4=>4 | 171=>122 | 0=>0 | 53=>123 | 37=>45 | 5=>5 | 173=>126 | 212=>137 | 51=>99 | 20=>20 | 213=>138 | 46=>38 | 232=>152 | 233=>153 | n=>n,fun | 17=>5 | 18=>8 | 19=>9 | n=>n⟩
theorem Tryd.laysM246:Go.Proofs.LaysM.n246 Tryd.prog Tryd.laysM246_ren:={
  mixed:=by kernel_rfl,
  f129:=Tryd.func88.trans (congrArg some (by kernel_rfl)),
  f246:=Tryd.func71.trans (congrArg some (by kernel_rfl)),
  f283:=Tryd.func78.trans (congrArg some (by kernel_rfl)),
  f284:=Tryd.func79.trans (congrArg some (by kernel_rfl)),
  f285:=Tryd.func80.trans (congrArg some (by kernel_rfl)),
  f286:=Tryd.func81.trans (congrArg some (by kernel_rfl)),
  f317:=Tryd.func87.trans (congrArg some (by kernel_rfl)),
  f318:=Tryd.func89.trans (congrArg some (by kernel_rfl)),
  f319:=Tryd.func90.trans (congrArg some (by kernel_rfl)),
  f320:=Tryd.func91.trans (congrArg some (by kernel_rfl)),
  f337:=Tryd.func95.trans (congrArg some (by kernel_rfl)),
  f338:=Tryd.func96.trans (congrArg some (by kernel_rfl)),
  t0:=Tryd.underlying0,
  a0:=Tryd.isAgg0,
  z0:=Tryd.sizeOf0,
  v0:=Tryd.zeroValue0,
  t2:=Tryd.underlying2,
  a2:=Tryd.isAgg2,
  z2:=Tryd.sizeOf2,
  v2:=Tryd.zeroValue2,
  t3:=Tryd.underlying3,
  a3:=Tryd.isAgg3,
  z3:=Tryd.sizeOf3,
  v3:=Tryd.zeroValue3,
  t4:=Tryd.underlying4,
  a4:=Tryd.isAgg4,
  z4:=Tryd.sizeOf4,
  v4:=Tryd.zeroValue4,
  t5:=Tryd.underlying5,
  a5:=Tryd.isAgg5,
  z5:=Tryd.sizeOf5,
  v5:=Tryd.zeroValue5,
  t9:=Tryd.underlying9,
  a9:=Tryd.isAgg9,
  z9:=Tryd.sizeOf9,
  v9:=Tryd.zeroValue9,
  t20:=Tryd.underlying20,
  a20:=Tryd.isAgg20,
  z20:=Tryd.sizeOf20,
  v20:=Tryd.zeroValue20,
  t37:=Tryd.underlying45,
  a37:=Tryd.isAgg45,
  z37:=Tryd.sizeOf45,
  v37:=Tryd.zeroValue45,
  t46:=Tryd.underlying38,
  a46:=Tryd.isAgg38,
  z46:=Tryd.sizeOf38,
  v46:=Tryd.zeroValue38,
  t51:=Tryd.underlying99,
  a51:=Tryd.isAgg99,
  z51:=Tryd.sizeOf99,
  v51:=Tryd.zeroValue99,
  t53:=Tryd.underlying123,
  a53:=Tryd.isAgg123,
  z53:=Tryd.sizeOf123,
  v53:=Tryd.zeroValue123,
  t171:=Tryd.underlying122,
  a171:=Tryd.isAgg122,
  z171:=Tryd.sizeOf122,
  v171:=Tryd.zeroValue122,
  t173:=Tryd.underlying126,
  a173:=Tryd.isAgg126,
  z173:=Tryd.sizeOf126,
  v173:=Tryd.zeroValue126,
  t212:=Tryd.underlying137,
  a212:=Tryd.isAgg137,
  z212:=Tryd.sizeOf137,
  v212:=Tryd.zeroValue137,
  t213:=Tryd.underlying138,
  a213:=Tryd.isAgg138,
  z213:=Tryd.sizeOf138,
  t232:=Tryd.underlying152,
  a232:=Tryd.isAgg152,
  z232:=Tryd.sizeOf152,
  v232:=Tryd.zeroValue152,
  t233:=Tryd.underlying153,
  a233:=Tryd.isAgg153,
  z233:=Tryd.sizeOf153,
  v233:=Tryd.zeroValue153,
  g17:=by kernel_rfl,
  g18:=by kernel_rfl,
  g19:=by kernel_rfl,
  i0:=by kernel_rfl,
  i2:=by kernel_rfl,
  i3:=by kernel_rfl,
  i4:=by kernel_rfl,
  i5:=by kernel_rfl,
  i9:=by kernel_rfl,
  i20:=by kernel_rfl,
  i37:=by kernel_rfl,
  i46:=by kernel_rfl,
  i51:=by kernel_rfl,
  i53:=by kernel_rfl,
  i171:=by kernel_rfl,
  i173:=by kernel_rfl,
  i212:=by kernel_rfl,
  i232:=by kernel_rfl,
  i233:=by kernel_rfl,
  m17:=by kernel_rfl,
  m18:=by kernel_rfl,
  m19:=by kernel_rfl}
def Tryd.laysC172_ren:Go.Shelf.Ren:=⟨fun | 172=>65 | 244=>72 | 245=>73 | 247=>82 | 279=>83 | 280=>84 | 281=>85 | 282=>86 | 287=>92 | 316=>93 | 171=>48 | 205=>94 | 321=>97 | 322=>98 | 243=>62 | 246=>71 | 283=>78 | 284=>79 | 285=>80 | 286=>81 | 129=>88 | 317=>87 | 318=>89 | 319=>90 | 320=>91 | 337=>95 | 338=>96 | n=>n,fun | 9=>9 | 3=>3 | 75=>72 | 76=>74 | 4=>4 | 5=>5 | 167=>128 | 37=>45 | 0=>0 | 85=>129 | 2=>2 | 168=>131 | 53=>123 | 175=>141 | 46=>38 | 210=>145 | 127=>78 | 145=>151 | 143=>149 | 21=>21 | 171=>122 | 173=>126 | 212=>137 | 51=>99 | 20=>20 | 213=>138 | 232=>152 | 233=>153 | 80=>51 | n=>n,fun | 15=>6 | 16=>7 | 17=>5 | 18=>8 | 19=>9 | n=>n⟩
theorem Tryd.laysC172:Go.Proofs.LaysC.n172 Tryd.prog Tryd.laysC172_ren:={
  mixed:=by kernel_rfl,
  f129:=Tryd.func88.trans (congrArg some (by kernel_rfl)),
  f171:=Tryd.func48.trans (congrArg some (by kernel_rfl)),
  f172:=Tryd.func65.trans (congrArg some (by kernel_rfl)),
  f205:=Tryd.func94.trans (congrArg some (by kernel_rfl)),
  f243:=Tryd.func62.trans (congrArg some (by kernel_rfl)),
  f244:=Tryd.func72.trans (congrArg some (by kernel_rfl)),
  f245:=Tryd.func73.trans (congrArg some (by kernel_rfl)),
  f246:=Tryd.func71.trans (congrArg some (by kernel_rfl)),
  f247:=Tryd.func82.trans (congrArg some (by kernel_rfl)),
  f279:=Tryd.func83.trans (congrArg some (by kernel_rfl)),
  f280:=Tryd.func84.trans (congrArg some (by kernel_rfl)),
  f281:=Tryd.func85.trans (congrArg some (by kernel_rfl)),
  f282:=Tryd.func86.trans (congrArg some (by kernel_rfl)),
  f283:=Tryd.func78.trans (congrArg some (by kernel_rfl)),
  f284:=Tryd.func79.trans (congrArg some (by kernel_rfl)),
  f285:=Tryd.func80.trans (congrArg some (by kernel_rfl)),
  f286:=Tryd.func81.trans (congrArg some (by kernel_rfl)),
  f287:=Tryd.func92.trans (congrArg some (by kernel_rfl)),
  f316:=Tryd.func93.trans (congrArg some (by kernel_rfl)),
  f317:=Tryd.func87.trans (congrArg some (by kernel_rfl)),
  f318:=Tryd.func89.trans (congrArg some (by kernel_rfl)),
  f319:=Tryd.func90.trans (congrArg some (by kernel_rfl)),
  f320:=Tryd.func91.trans (congrArg some (by kernel_rfl)),
  f321:=Tryd.func97.trans (congrArg some (by kernel_rfl)),
  f322:=Tryd.func98.trans (congrArg some (by kernel_rfl)),
  f337:=Tryd.func95.trans (congrArg some (by kernel_rfl)),
  f338:=Tryd.func96.trans (congrArg some (by kernel_rfl)),
  t0:=Tryd.underlying0,
  a0:=Tryd.isAgg0,
  z0:=Tryd.sizeOf0,
  v0:=Tryd.zeroValue0,
  t2:=Tryd.underlying2,
  a2:=Tryd.isAgg2,
  z2:=Tryd.sizeOf2,
  v2:=Tryd.zeroValue2,
  t3:=Tryd.underlying3,
  a3:=Tryd.isAgg3,
  z3:=Tryd.sizeOf3,
  v3:=Tryd.zeroValue3,
  t4:=Tryd.underlying4,
  a4:=Tryd.isAgg4,
  z4:=Tryd.sizeOf4,
  v4:=Tryd.zeroValue4,
  t5:=Tryd.underlying5,
  a5:=Tryd.isAgg5,
  z5:=Tryd.sizeOf5,
  v5:=Tryd.zeroValue5,
  t9:=Tryd.underlying9,
  a9:=Tryd.isAgg9,
  z9:=Tryd.sizeOf9,
  v9:=Tryd.zeroValue9,
  t20:=Tryd.underlying20,
  a20:=Tryd.isAgg20,
  z20:=Tryd.sizeOf20,
  v20:=Tryd.zeroValue20,
  t21:=Tryd.underlying21,
  a21:=Tryd.isAgg21,
  z21:=Tryd.sizeOf21,
  v21:=Tryd.zeroValue21,
  t37:=Tryd.underlying45,
  a37:=Tryd.isAgg45,
  z37:=Tryd.sizeOf45,
  v37:=Tryd.zeroValue45,
  t46:=Tryd.underlying38,
  a46:=Tryd.isAgg38,
  z46:=Tryd.sizeOf38,
  v46:=Tryd.zeroValue38,
  t51:=Tryd.underlying99,
  a51:=Tryd.isAgg99,
  z51:=Tryd.sizeOf99,
  v51:=Tryd.zeroValue99,
  t53:=Tryd.underlying123,
  a53:=Tryd.isAgg123,
  z53:=Tryd.sizeOf123,
  v53:=Tryd.zeroValue123,
  t75:=Tryd.underlying72,
  a75:=Tryd.isAgg72,
  z75:=Tryd.sizeOf72,
  v75:=Tryd.zeroValue72,
  t76:=Tryd.underlying74,
  a76:=Tryd.isAgg74,
  z76:=Tryd.sizeOf74,
  v76:=Tryd.zeroValue74,
  t85:=Tryd.underlying129,
  a85:=Tryd.isAgg129,
  z85:=Tryd.sizeOf129,
  v85:=Tryd.zeroValue129,
  t127:=Tryd.underlying78,
  a127:=Tryd.isAgg78,
  z127:=Tryd.sizeOf78,
  v127:=Tryd.zeroValue78,
  t143:=Tryd.underlying149,
  a143:=Tryd.isAgg149,
  z143:=Tryd.sizeOf149,
  v143:=Tryd.zeroValue149,
  t145:=Tryd.underlying151,
  a145:=Tryd.isAgg151,
  z145:=Tryd.sizeOf151,
  v145:=Tryd.zeroValue151,
  t167:=Tryd.underlying128,
  a167:=Tryd.isAgg128,
  z167:=Tryd.sizeOf128,
  v167:=Tryd.zeroValue128,
  t168:=Tryd.underlying131,
  a168:=Tryd.isAgg131,
  z168:=Tryd.sizeOf131,
  v168:=Tryd.zeroValue131,
  t171:=Tryd.underlying122,
  a171:=Tryd.isAgg122,
  z171:=Tryd.sizeOf122,
  v171:=Tryd.zeroValue122,
  t173:=Tryd.underlying126,
  a173:=Tryd.isAgg126,
  z173:=Tryd.sizeOf126,
  v173:=Tryd.zeroValue126,
  t175:=Tryd.underlying141,
  a175:=Tryd.isAgg141,
  z175:=Tryd.sizeOf141,
  v175:=Tryd.zeroValue141,
  t210:=Tryd.underlying145,
  a210:=Tryd.isAgg145,
  z210:=Tryd.sizeOf145,
  v210:=Tryd.zeroValue145,
  t212:=Tryd.underlying137,
  a212:=Tryd.isAgg137,
  z212:=Tryd.sizeOf137,
  v212:=Tryd.zeroValue137,
  t213:=Tryd.underlying138,
  a213:=Tryd.isAgg138,
  z213:=Tryd.sizeOf138,
  t232:=Tryd.underlying152,
  a232:=Tryd.isAgg152,
  z232:=Tryd.sizeOf152,
  v232:=Tryd.zeroValue152,
  t233:=Tryd.underlying153,
  a233:=Tryd.isAgg153,
  z233:=Tryd.sizeOf153,
  v233:=Tryd.zeroValue153,
  g15:=by kernel_rfl,
  g16:=by kernel_rfl,
  g17:=by kernel_rfl,
  g18:=by kernel_rfl,
  g19:=by kernel_rfl,
  t80:=Tryd.underlying51,
  a80:=Tryd.isAgg51,
  z80:=Tryd.sizeOf51,
  v80:=Tryd.zeroValue51,
  i0:=by kernel_rfl,
  i2:=by kernel_rfl,
  i3:=by kernel_rfl,
  i4:=by kernel_rfl,
  i5:=by kernel_rfl,
  i9:=by kernel_rfl,
  i20:=by kernel_rfl,
  i21:=by kernel_rfl,
  i37:=by kernel_rfl,
  i46:=by kernel_rfl,
  i51:=by kernel_rfl,
  i53:=by kernel_rfl,
  i75:=by kernel_rfl,
  i76:=by kernel_rfl,
  i80:=by kernel_rfl,
  i85:=by kernel_rfl,
  i127:=by kernel_rfl,
  i143:=by kernel_rfl,
  i145:=by kernel_rfl,
  i167:=by kernel_rfl,
  i168:=by kernel_rfl,
  i171:=by kernel_rfl,
  i173:=by kernel_rfl,
  i175:=by kernel_rfl,
  i210:=by kernel_rfl,
  i212:=by kernel_rfl,
  i232:=by kernel_rfl,
  i233:=by kernel_rfl,
  m15:=by kernel_rfl,
  m16:=by kernel_rfl,
  m17:=by kernel_rfl,
  m18:=by kernel_rfl,
  m19:=by kernel_rfl,
  c0:=by kernel_rfl,
  c2:=by kernel_rfl,
  c3:=by kernel_rfl,
  c4:=by kernel_rfl,
  c5:=by kernel_rfl,
  c9:=by kernel_rfl,
  c20:=by kernel_rfl,
  c21:=by kernel_rfl,
  c37:=by kernel_rfl,
  c46:=by kernel_rfl,
  c51:=by kernel_rfl,
  c53:=by kernel_rfl,
  c75:=by kernel_rfl,
  c76:=by kernel_rfl,
  c80:=by kernel_rfl,
  c85:=by kernel_rfl,
  c127:=by kernel_rfl,
  c143:=by kernel_rfl,
  c145:=by kernel_rfl,
  c167:=by kernel_rfl,
  c168:=by kernel_rfl,
  c171:=by kernel_rfl,
  c173:=by kernel_rfl,
  c175:=by kernel_rfl,
  c210:=by kernel_rfl,
  c212:=by kernel_rfl,
  c213:=by kernel_rfl,
  c232:=by kernel_rfl,
  c233:=by kernel_rfl}
end Go.Proofs
namespace Go.Proofs.YtldmjmhmckogkaaDoor
open Go Go.Abs Go.ChangeShapes Go.WideShapes Go.ChangeAt Go.RowKit
theorem own:ownKnob Tryd.prog.godebug=none:=by kernel_rfl
theorem laidOut:laidOutB Tryd.prog=true:=by kernel_rfl
theorem progOk:ProgOk Tryd.prog trydhints:=progOk_of (by kernel_rfl)
theorem mixed:Tryd.prog.follows .mixedOrders=true:=by kernel_rfl
set_option maxRecDepth 1000000
abbrev laidL:List (String×DataW Unit):=Rows.exprNestsRow.laid
theorem plainA:plainSetB Tryd.prog [94,5]=true:=by kernel_rfl
theorem plainB:plainSetB Tryd.prog [109,108,5]=true:=by kernel_rfl
theorem star : "*" ++ "errors.errorString" = "*errors.errorString" := by decide
theorem rowErr (u:TypeId) (h:Tryd.prog.typeName? 3 u=some "*errors.errorString"):u=149 :=
 typeName_ptr_named (nm := "errors.errorString") (by rw [star];kernel_rfl) (by kernel_rfl) (by decide) u (by rw [star];exact h)
section
variable {w:World} (h:laidMet Tryd.prog laidL w)
include h
theorem pow_tab:Lib.TabIs Tryd.prog w "internal/strconv.uint64pow10" .u64 Lib.pow10Tab :=
 tab_mem (laid:=laidL) (g:=5) (t:=137) (e:=123) (n:=20) (by kernel_rfl) (by kernel_rfl) (by kernel_rfl) (by kernel_rfl) (by kernel_rfl) (by kernel_rfl) h (.tail _ (.tail _ (.head _)))
theorem glob0 {row:List AV} (hr:trydhints.glob 0=some row):Rep Tryd.prog (ghost0 w) (.pointer (some ⟨0,0,none⟩)) (.ip row 0):=by
 refine glob_avd laidOut plainA (t:=94) (by simp) (of_decide_eq_true (by kernel_rfl)) h (name := "strings.asciiSpace") (d:=Rows.laid_strings_asciiSpace) (.tail _ (.tail _ (.tail _ (.tail _ (.tail _ (.tail _ (.tail _ (.head _)))))))) (by kernel_rfl) (by kernel_rfl) fun n ds hd=>?_
 match n with
 | 0=>simp [avD] at hd
 | 1 =>
  have:avD Tryd.prog 1 94 (Rows.laid_strings_asciiSpace:DataW Unit)=none:=by kernel_rfl
  rw [this] at hd;cases hd
 |n+2 =>
  have:avD Tryd.prog (n+2) 94 (Rows.laid_strings_asciiSpace:DataW Unit)=trydhints.glob 0:=by kernel_rfl
  rw [this,hr] at hd;cases hd;rfl
theorem glob3 {row:List AV} (hr:trydhints.glob 3=some row):Rep Tryd.prog (ghost0 w) (.pointer (some ⟨3,0,none⟩)) (.ip row 0):=by
 refine glob_avd laidOut plainA (t:=94) (by simp) (of_decide_eq_true (by kernel_rfl)) h (name := "unicode/utf8.first") (d:=Rows.laid_unicode_utf8_first) (.tail _ (.tail _ (.tail _ (.tail _ (.tail _ (.tail _ (.tail _ (.tail _ (.head _))))))))) (by kernel_rfl) (by kernel_rfl) fun n ds hd=>?_
 match n with
 | 0=>simp [avD] at hd
 | 1 =>
  have:avD Tryd.prog 1 94 (Rows.laid_unicode_utf8_first:DataW Unit)=none:=by kernel_rfl
  rw [this] at hd;cases hd
 |n+2 =>
  have:avD Tryd.prog (n+2) 94 (Rows.laid_unicode_utf8_first:DataW Unit)=trydhints.glob 3:=by kernel_rfl
  rw [this,hr] at hd;cases hd;rfl
theorem glob4 {row:List AV} (hr:trydhints.glob 4=some row):Rep Tryd.prog (ghost0 w) (.pointer (some ⟨4,0,none⟩)) (.ip row 0):=by
 refine glob_avd laidOut plainB (t:=109) (by simp) (of_decide_eq_true (by kernel_rfl)) h (name := "unicode/utf8.acceptRanges") (d:=Rows.laid_unicode_utf8_acceptRanges) (.tail _ (.tail _ (.tail _ (.head _)))) (by kernel_rfl) (by kernel_rfl) fun n ds hd=>?_
 match n with
 | 0=>simp [avD] at hd
 | 1 =>
  have:avD Tryd.prog 1 109 (Rows.laid_unicode_utf8_acceptRanges:DataW Unit)=none:=by kernel_rfl
  rw [this] at hd;cases hd
 | 2 =>
  have:avD Tryd.prog 2 109 (Rows.laid_unicode_utf8_acceptRanges:DataW Unit)=none:=by kernel_rfl
  rw [this] at hd;cases hd
 |n+3 =>
  have:avD Tryd.prog (n+3) 109 (Rows.laid_unicode_utf8_acceptRanges:DataW Unit)=trydhints.glob 4:=by kernel_rfl
  rw [this,hr] at hd;cases hd;rfl
abbrev rangeA:AV:=.ip [.str [118,97,108,117,101,32,111,117,116,32,111,102,32,114,97,110,103,101]] 0
theorem glob7:Rep Tryd.prog (ghost0 w) (.pointer (some ⟨7,0,none⟩)) (.ip [.iface 149 rangeA] 0):=by
 obtain ⟨a,s,h1,h2,h3,_⟩:=laid_sentinel (P:=Tryd.prog) (g:=7) (tp:=149) h.tail.tail.tail.tail (by kernel_rfl) (by kernel_rfl) Tryd.underlying72 rowErr Tryd.underlying149 Tryd.underlying151 rfl rfl Tryd.underlying9 (by kernel_rfl) (by kernel_rfl)
 refine glob_ip fun j x hj=>?_
 match j,hj with
 | 0,hj =>
  simp only [List.getElem?_cons_zero,Option.some.injEq] at hj
  subst hj
  have hg:Tryd.prog.globalNamed "strconv.ErrRange" = some 7:=by kernel_rfl
  have hc:=World.var?_cell hg h1 0
  refine ⟨.iface 149 (.pointer (some a)),by simpa using hc,rfl,.iface _ _ _ ?_⟩
  have ha:=addr_of_cell h2
  have hI:=ghost0_I (w:=w) (b:=a.block) (i:=a.off) (v:=.string s) (by rw [←addr_eta ha];exact h2) rfl
  rw [addr_eta ha]
  refine (Rep.ip a.block a.off _ 0 (fun j x hj=>?_) fun j x v hj hv=>?_:Rep Tryd.prog (ghost0 w) (.pointer (some ⟨a.block,a.off+0,none⟩)) rangeA)
  ·match j,hj with
   | 0,_=>rw [Nat.add_zero,hI];rfl
  ·match j,hj with
   | 0,hj =>
    simp only [List.getElem?_cons_zero,Option.some.injEq] at hj
    subst hj
    rw [Nat.add_zero,hI] at hv
    cases hv
    have:Rep Tryd.prog (ghost0 w) (.string s) (.str s.data.toList):=.str s
    rw [h3] at this
    exact this
 |j+1,hj=>simp at hj
theorem globOk:GlobOk Tryd.prog trydhints (ghost0 w):=by
 intro g row hr
 have hmem:g=0∨g=3∨g=4∨g=7:=by
  have hr':(trydglobs.find? (·.1==g)).map (·.2)=some row:=hr
  obtain ⟨x,hx,_⟩:=Option.map_eq_some_iff.1 hr'
  have h1:=List.mem_of_find?_eq_some hx
  have h2:=List.find?_some hx
  have h3:x.1 ∈ trydglobs.map (·.1):=List.mem_map_of_mem h1
  have h4:trydglobs.map (·.1)=[0,3,4,7]:=by kernel_rfl
  rw [h4] at h3
  have h5:x.1=g:=by simpa using h2
  rw [h5] at h3
  simpa using h3
 rcases hmem with rfl | rfl | rfl | rfl
 ·exact glob0 h hr
 ·exact glob3 h hr
 ·exact glob4 h hr
 ·have:trydhints.glob 7=some [.iface 149 rangeA]:=by kernel_rfl
  rw [this] at hr
  cases hr
  exact glob7 h
theorem primOk:PrimOk Tryd.prog trydhints w w.heap.size:=by
 intro g F hF
 have h1:(if g=65 then some (atoiP 131 (.iface 149 rangeA)) else if g=71 then some itoaP else none)=some F:=hF
 split at h1
 ·rename_i hg
  subst hg
  cases h1
  exact prim_atoi Tryd.laysC172 ⟨Tryd.f65,Tryd.func65,by kernel_rfl,by kernel_rfl⟩ (by kernel_rfl) (by kernel_rfl)
 ·split at h1
  ·rename_i hg
   subst hg
   cases h1
   exact prim_itoa Tryd.laysM246 ⟨Tryd.f71,Tryd.func71,by kernel_rfl,by kernel_rfl⟩ (pow_tab h) rfl
  ·cases h1
end
theorem extOk:ExtOk Tryd.prog trydhints:=by
 intro g F hF
 have h1:(if g=61 then some sameX else if g=63 then some indexX else none)=some F:=hF
 split at h1
 ·rename_i hg
  subst hg
  cases h1
  exact fun W bs σ st w vs xs a hw hr hF=>ext_same Tryd.func61 (by kernel_rfl) (by kernel_rfl) (by kernel_rfl) (by kernel_rfl) hw hr hF
 ·split at h1
  ·rename_i hg
   subst hg
   cases h1
   exact fun W bs σ st w vs xs a hw hr hF=>ext_index Tryd.func63 (by kernel_rfl) (by kernel_rfl) (by kernel_rfl) (by kernel_rfl) hw hr hF
  ·cases h1
end Go.Proofs.YtldmjmhmckogkaaDoor
namespace Go.Proofs.YtldmjmhmckogkaaDoor
open Go Go.Abs Go.ChangeShapes Go.WideShapes Go.ChangeAt Go.RowKit
def flatV:Nat→DataW Unit→List Value
 |_,.lit (.int k z)=>[.int k z]
 |n+1,.agg ds=>ds.flatMap (flatV n)
 |_,_=>[]
def rangesV:List Value:=[(9,13,1),(32,133,101),(160,5760,5600),(8192,8202,1),(8232,8233,1),(8239,8287,48),(12288,12288,1)].flatMap fun (x:Int×Int×Int)=>[.int .u16 x.1,.int .u16 x.2.1,.int .u16 x.2.2]
noncomputable def laidWorld (os:Os):World :=
 let N:=(World.settled Tryd.prog os).heap.size
 let w0:=World.holding Tryd.prog os ⟨#[
  .cells #[.string ⟨#[105,110,118,97,108,105,100,32,115,121,110,116,97,120]⟩] 151,.cells #[.string ⟨#[118,97,108,117,101,32,111,117,116,32,111,102,32,114,97,110,103,101]⟩] 151,
  .cells #[.slice (some ⟨N+3,0,none⟩) 7 7,.slice none 0 0,.int .i64 2] 114,.cells rangesV.toArray 117],#[],[]⟩
 let put (h:Array Obj) (g:Nat) (cs:List Value):Array Obj:=h.modify g fun
  | .cells _ t frozen=>.cells cs.toArray t frozen
  |o=>o
 let h:=put w0.heap 6 [.iface 149 (.pointer (some ⟨N,0,none⟩))]
 let h:=put h 7 [.iface 149 (.pointer (some ⟨N+1,0,none⟩))]
 let h:=put h 1 [.pointer (some ⟨N+2,0,none⟩)]
 let h:=put h 0 (flatV 9 Rows.laid_strings_asciiSpace)
 let h:=put h 3 (flatV 9 Rows.laid_unicode_utf8_first)
 let h:=put h 4 (flatV 9 Rows.laid_unicode_utf8_acceptRanges)
 let h:=put h 5 (flatV 9 Rows.laid_internal_strconv_uint64pow10)
 let h:=put h 8 (flatV 9 Rows.laid_math_bits_deBruijn32tab)
 let h:=put h 9 (flatV 9 Rows.laid_math_bits_deBruijn64tab)
 {w0 with heap:=h}
set_option maxRecDepth 1000000
noncomputable abbrev N0:Nat:=(World.settled Tryd.prog default).heap.size
theorem piece0 (os:Os) (args:Array Value):LaidIn Tryd.prog ((laidWorld os).forCall (fun _ _=>0) ⟨#[],args,[]⟩).memory [("math/bits.deBruijn32tab",Rows.laid_math_bits_deBruijn32tab)] [8] :=
 LaidIn.of_run [8] 8 (by kernel_rfl) (by kernel_rfl) (by kernel_rfl) (by kernel_rfl)
theorem piece1 (os:Os) (args:Array Value):LaidIn Tryd.prog ((laidWorld os).forCall (fun _ _=>0) ⟨#[],args,[]⟩).memory [("math/bits.deBruijn64tab",Rows.laid_math_bits_deBruijn64tab)] [9] :=
 LaidIn.of_run [9] 8 (by kernel_rfl) (by kernel_rfl) (by kernel_rfl) (by kernel_rfl)
theorem piece2 (os:Os) (args:Array Value):LaidIn Tryd.prog ((laidWorld os).forCall (fun _ _=>0) ⟨#[],args,[]⟩).memory [("internal/strconv.uint64pow10",Rows.laid_internal_strconv_uint64pow10)] [5] :=
 LaidIn.of_run [5] 8 (by kernel_rfl) (by kernel_rfl) (by kernel_rfl) (by kernel_rfl)
theorem piece3 (os:Os) (args:Array Value):LaidIn Tryd.prog ((laidWorld os).forCall (fun _ _=>0) ⟨#[],args,[]⟩).memory [("unicode/utf8.acceptRanges",Rows.laid_unicode_utf8_acceptRanges)] [4] :=
 LaidIn.of_run [4] 8 (by kernel_rfl) (by kernel_rfl) (by kernel_rfl) (by kernel_rfl)
theorem piece4 (os:Os) (args:Array Value):LaidIn Tryd.prog ((laidWorld os).forCall (fun _ _=>0) ⟨#[],args,[]⟩).memory [("strconv.ErrRange",Rows.laid_strconv_ErrRange)] [7,N0+1] :=
 LaidIn.of_run [7,N0+1] 8 (by kernel_rfl) (by kernel_rfl) (by kernel_rfl) (by kernel_rfl)
theorem piece5 (os:Os) (args:Array Value):LaidIn Tryd.prog ((laidWorld os).forCall (fun _ _=>0) ⟨#[],args,[]⟩).memory [("strconv.ErrSyntax",Rows.laid_strconv_ErrSyntax)] [6,N0] :=
 LaidIn.of_run [6,N0] 8 (by kernel_rfl) (by kernel_rfl) (by kernel_rfl) (by kernel_rfl)
theorem piece6 (os:Os) (args:Array Value):LaidIn Tryd.prog ((laidWorld os).forCall (fun _ _=>0) ⟨#[],args,[]⟩).memory [("unicode.White_Space",Rows.laid_unicode_White_Space)] [1,N0+2,N0+3] :=
 LaidIn.of_run [1,N0+2,N0+3] 8 (by kernel_rfl) (by kernel_rfl) (by kernel_rfl) (by kernel_rfl)
theorem piece7 (os:Os) (args:Array Value):LaidIn Tryd.prog ((laidWorld os).forCall (fun _ _=>0) ⟨#[],args,[]⟩).memory [("strings.asciiSpace",Rows.laid_strings_asciiSpace)] [0] :=
 LaidIn.of_run [0] 8 (by kernel_rfl) (by kernel_rfl) (by kernel_rfl) (by kernel_rfl)
theorem piece8 (os:Os) (args:Array Value):LaidIn Tryd.prog ((laidWorld os).forCall (fun _ _=>0) ⟨#[],args,[]⟩).memory [("unicode/utf8.first",Rows.laid_unicode_utf8_first)] [3] :=
 LaidIn.of_run [3] 8 (by kernel_rfl) (by kernel_rfl) (by kernel_rfl) (by kernel_rfl)
theorem laid_met (os:Os) (args:Array Value):laidMet Tryd.prog laidL ((laidWorld os).forCall (fun _ _=>0) ⟨#[],args,[]⟩).memory :=
 LaidIn.met (((((((((piece0 os args).append (piece1 os args) (by kernel_rfl)).append (piece2 os args) (by kernel_rfl)).append (piece3 os args) (by kernel_rfl)).append (piece4 os args) (by kernel_rfl)).append (piece5 os args) (by kernel_rfl)).append (piece6 os args) (by kernel_rfl)).append (piece7 os args) (by kernel_rfl)).append (piece8 os args) (by kernel_rfl))
end Go.Proofs.YtldmjmhmckogkaaDoor
namespace Go.Proofs.YtldmjmhmckogkaaDoor
open Go Go.Abs Go.ChangeShapes Go.WideShapes Go.ChangeAt Go.RowKit
set_option maxRecDepth 1000000 in
theorem two_ints {f:FuncId} {fn:Func} {s:ChangeSpec} (hpar:fn.params=#[3,3]) (hvars:s.vars=[]) (hfn:∀(T:Type) (d1 d2:DataW T),s.fn T [d1,d2]={results:=[.lit (.bool true)],args:=[d1,d2]}) (hres:fn.resultTypes=#[4])
  (hrun:∀a b:Int,cw f [.int .i64 a,.int .i64 b] []=some (.ret (.bool true),[]))
  (T:Type) (enc:TypeId×Value→T) (W:World) (base:Nat) (args:Array Value) (ds gs:List (DataW T)) (before:List MemPlace)
  (hval:∀(j:Nat) t v,fn.params[j]?=some t→args[j]?=some v→Value.okWide Tryd.prog W .any base t v)
  (hW:DataW.Whole enc Tryd.prog fn.params.toList s.vars false W args.toList ds gs before) (hL:laidMet Tryd.prog laidL W) :
  Calls Tryd.prog f args W fun e W'=>∃v,e = .returned v∧s.post enc Tryd.prog fn false true false false W args v W':=by
 have hW':=hW
 obtain ⟨p,q,hA0,hV,rfl,hfz,hnd⟩:=hW
 have hA:DataW.TrodAll enc Tryd.prog W 0 (fun _=>true) true fn.params.toList args.toList ds p:=hA0
 rw [hpar] at hA hval
 obtain ⟨v0,vs0,d0,ds0,p0,q0,hargs,rfl,rfl,h0,r0⟩:=trodAll_cons hA
 obtain ⟨v1,vs1,d1,ds1,p1,q1,rfl,rfl,rfl,h1,r1⟩:=trodAll_cons r0
 obtain ⟨rfl,rfl,rfl⟩:=trodAll_nil r1
 obtain rfl:args=#[v0,v1]:=by cases args;simp_all
 rw [hvars] at hV
 obtain ⟨rfl,rfl⟩:=trodVars_none hV
 obtain ⟨a,rfl,rfl,rfl,wa⟩:=open_int Tryd.underlying3 (hval 0 3 v0 rfl rfl) h0
 obtain ⟨b,rfl,rfl,rfl,wb⟩:=open_int Tryd.underlying3 (hval 1 3 v1 rfl rfl) h1
 exact law_laid progOk extOk mixed (primOk hL) (globOk hL) laidOut (by rw [hpar];kernel_rfl) hvars hres Tryd.underlying4 hW' (by simpa using hfn T (.lit (.int .i64 a)) (.lit (.int .i64 b)))
  (avs:=[.int .i64 a,.int .i64 b]) (.cons (.int _ _) (.cons (.int _ _) .nil)) (hrun a b)
theorem reads6 (os:Os) {H:Type} (enc:TypeId×Value→H):∃places,DataW.whole enc Tryd.prog ((laidWorld os).forCall (fun _ _=>0) ⟨#[],#[.int .i64 0,.int .i64 0],[]⟩).memory Tryd.f6.params.toList Rows.exprNestsSpec.vars false #[Value.int .i64 0,Value.int .i64 0].toList 8=some ([.lit (.int .i64 0),.lit (.int .i64 0)],[],places) :=
 ⟨[],by kernel_rfl⟩
set_option maxRecDepth 1000000 in
theorem lifted6 (os:Os) (started:os.Started) (H:Type) (enc:TypeId×Value→H) (F:Stop.Interp) :
  ReturnsInHanded {} Tryd.checked os 6 .any ((OpenSpec.ofChange Rows.exprNestsSpec).preRow enc Tryd.prog Tryd.f6 Rows.exprNestsRow.domain false Rows.exprNestsRow.laid) (((OpenSpec.ofChange Rows.exprNestsSpec).at F).post enc Tryd.prog Tryd.f6 false true false false):=by
 obtain ⟨places,hx⟩:=reads6 os enc
 refine returnsInHanded_of_row (C:=Tryd.checked) (s:=OpenSpec.ofChange Rows.exprNestsSpec) own started (by kernel_rfl) Tryd.func6
  (witness_row_atRef (enc:=enc) (C:=Tryd.checked) false (laidWorld os) #[.int .i64 0,.int .i64 0] rfl (by kernel_rfl) (by kernel_rfl) (by kernel_rfl)
   (OpenSpec.preRow_of_cond 8 hx (by kernel_rfl) (fun k hk=>by cases hk) (by kernel_rfl) (laid_met os _))) ?_
 intro W base args ds gs before hval hW _ _ _ hL _ _
 exact two_ints (f:=6) (fn:=Tryd.f6) (s:=Rows.exprNestsSpec) Tryd.params6 rfl (fun _ _ _=>rfl) rfl (fun a b=>nests_ok a b Cl.nil) H enc W base args ds gs before hval hW hL
theorem said6:Rows.ExprNestsSaid :=
 OpenClaim.holds_of_cond 6 Tryd.f6 rfl rfl rfl rfl rfl rfl rfl ⟨rfl,rfl,rfl,rfl,rfl⟩ rfl rfl rfl rfl rfl (by kernel_rfl) Tryd.func6 (by kernel_rfl)
  (of_decide_eq_true (by kernel_rfl)) (by unfold Func.isWrapper;first | (rw [if_pos (by decide +kernel)];kernel_rfl) | (rw [if_neg (by decide +kernel)];exact ⟨rfl,rfl⟩))
  (fun os started H enc _ F=>by rw [OpenClaim.pre_eq_preRow];exact lifted6 os started H enc F)
theorem plain6 (f:FuncId) (fn:Func) (hf:Tryd.pinned.checked.prog.funcNamed "stencil/stencillaw10.ExprNests" = some f) (hfn:Tryd.pinned.checked.prog.funcs[f]?=some fn) :
  true=Tryd.pinned.checked.prog.looks []∧∀(j:Nat) t,fn.params[j]?=some t→Tryd.pinned.checked.prog.wantsStandIn t=false:=by
 obtain rfl:f=6:=Option.some.inj ((show Tryd.prog.funcNamed "stencil/stencillaw10.ExprNests" = some 6 by kernel_rfl).symm.trans hf) |>.symm
 obtain rfl:fn=Tryd.f6:=(Option.some.inj (Tryd.func6.symm.trans hfn)).symm
 refine ⟨by kernel_rfl,fun j t ht=>?_⟩
 rw [Tryd.params6] at ht
 obtain rfl:t=3:=by simpa using Array.mem_of_getElem? ht
 exact (show Tryd.prog.wantsStandIn 3=false by kernel_rfl)
theorem exprNests_holds:Rows.ExprNestsCardSaid :=
 Claim7.holds_tied_plain_at .later [] _ _ _ _ said6 (fun _ h=>by cases h) (by kernel_rfl) (fun _ h=>by cases h) exprNests_row_tie rfl ⟨rfl,rfl⟩ (by kernel_rfl) rfl plain6 (by kernel_rfl)
#print axioms exprNests_holds
end Go.Proofs.YtldmjmhmckogkaaDoor
namespace Go.Proofs.YtldmjmhmckogkaaDoor
open Go Go.Abs Go.ChangeShapes Go.WideShapes Go.ChangeAt Go.RowKit
set_option maxRecDepth 1000000 in
theorem reads5 (os:Os) {H:Type} (enc:TypeId×Value→H):∃places,DataW.whole enc Tryd.prog ((laidWorld os).forCall (fun _ _=>0) ⟨#[],#[.int .i64 0,.int .i64 0],[]⟩).memory Tryd.f5.params.toList Rows.exprLeansSpec.vars false #[Value.int .i64 0,Value.int .i64 0].toList 8=some ([.lit (.int .i64 0),.lit (.int .i64 0)],[],places) :=
 ⟨[],by kernel_rfl⟩
set_option maxRecDepth 1000000 in
theorem lifted5 (os:Os) (started:os.Started) (H:Type) (enc:TypeId×Value→H) (F:Stop.Interp) :
  ReturnsInHanded {} Tryd.checked os 5 .any ((OpenSpec.ofChange Rows.exprLeansSpec).preRow enc Tryd.prog Tryd.f5 Rows.exprLeansRow.domain false Rows.exprLeansRow.laid) (((OpenSpec.ofChange Rows.exprLeansSpec).at F).post enc Tryd.prog Tryd.f5 false true false false):=by
 obtain ⟨places,hx⟩:=reads5 os enc
 refine returnsInHanded_of_row (C:=Tryd.checked) (s:=OpenSpec.ofChange Rows.exprLeansSpec) own started (by kernel_rfl) Tryd.func5
  (witness_row_atRef (enc:=enc) (C:=Tryd.checked) false (laidWorld os) #[.int .i64 0,.int .i64 0] rfl (by kernel_rfl) (by kernel_rfl) (by kernel_rfl)
   (OpenSpec.preRow_of_cond 8 hx (by kernel_rfl) (fun k hk=>by cases hk) (by kernel_rfl) (laid_met os _))) ?_
 intro W base args ds gs before hval hW _ _ _ hL _ _
 exact two_ints (f:=5) (fn:=Tryd.f5) (s:=Rows.exprLeansSpec) Tryd.params5 rfl (fun _ _ _=>rfl) rfl (fun a b=>leans_ok a b Cl.nil) H enc W base args ds gs before hval hW hL
theorem said5:Rows.ExprLeansSaid :=
 OpenClaim.holds_of_cond 5 Tryd.f5 rfl rfl rfl rfl rfl rfl rfl ⟨rfl,rfl,rfl,rfl,rfl⟩ rfl rfl rfl rfl rfl (by kernel_rfl) Tryd.func5 (by kernel_rfl)
  (of_decide_eq_true (by kernel_rfl)) (by unfold Func.isWrapper;first | (rw [if_pos (by decide +kernel)];kernel_rfl) | (rw [if_neg (by decide +kernel)];exact ⟨rfl,rfl⟩))
  (fun os started H enc _ F=>by rw [OpenClaim.pre_eq_preRow];exact lifted5 os started H enc F)
theorem plain5 (f:FuncId) (fn:Func) (hf:Tryd.pinned.checked.prog.funcNamed "stencil/stencillaw10.ExprLeans" = some f) (hfn:Tryd.pinned.checked.prog.funcs[f]?=some fn) :
  true=Tryd.pinned.checked.prog.looks []∧∀(j:Nat) t,fn.params[j]?=some t→Tryd.pinned.checked.prog.wantsStandIn t=false:=by
 obtain rfl:f=5:=Option.some.inj ((show Tryd.prog.funcNamed "stencil/stencillaw10.ExprLeans" = some 5 by kernel_rfl).symm.trans hf) |>.symm
 obtain rfl:fn=Tryd.f5:=(Option.some.inj (Tryd.func5.symm.trans hfn)).symm
 refine ⟨by kernel_rfl,fun j t ht=>?_⟩
 rw [Tryd.params5] at ht
 obtain rfl:t=3:=by simpa using Array.mem_of_getElem? ht
 exact (show Tryd.prog.wantsStandIn 3=false by kernel_rfl)
theorem exprLeans_holds:Rows.ExprLeansCardSaid :=
 Claim7.holds_tied_plain_at .later [] _ _ _ _ said5 (fun _ h=>by cases h) (by kernel_rfl) (fun _ h=>by cases h) exprLeans_row_tie rfl ⟨rfl,rfl⟩ (by kernel_rfl) rfl plain5 (by kernel_rfl)
#print axioms exprLeans_holds
end Go.Proofs.YtldmjmhmckogkaaDoor
