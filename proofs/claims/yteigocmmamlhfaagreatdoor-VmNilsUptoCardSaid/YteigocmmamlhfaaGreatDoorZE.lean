/- VmNils returns true for every value of bulk at most 1048576 and leaves it as it was: where the package-level variables that the row lists stand as it lists them. -/
import Derived.Test.YteigocmmamlhfaaGreatDoorZD
import Derived.Test.YteigocmmamlhfaaGreatDoorCards
import Derived.Test.YteigocmmamlhfaaGreatDoorTie
import Derived.WalkKit
import Derived.ProofKit
import Derived.Deep.DeepHandedRow
import Derived.Deep.DeepWitnessRowRef
import Derived.Lib.LaidIn
set_option linter.unusedVariables false
set_option linter.unusedSimpArgs false
set_option linter.unusedSectionVars false
namespace Go.Proofs.YteigocmmamlhfaaGreatDoor
open Go Go.Abs Go.ChangeShapes Go.WideShapes Go.ChangeAt Go.RowKit
set_option maxRecDepth 1000000
theorem own:ownKnob Tryz.prog.godebug=none:=by kernel_rfl
theorem laidOut:laidOutB Tryz.prog=true:=by kernel_rfl
theorem progOkRun:ProgOk Tryz.prog runH:=progOk_of (by kernel_rfl)
theorem progOk:ProgOk Tryz.prog lawH:=progOk_of (by kernel_rfl)
theorem mixed:Tryz.prog.follows .mixedOrders=true:=by kernel_rfl
theorem extOk:ExtOk Tryz.prog lawH:=extOk_none fun _=>rfl
theorem globOk {w:World}:GlobOk Tryz.prog lawH (ghost0 w):=globOk_none fun _=>rfl
abbrev laidL:List (String×DataW Unit):=Rows.vmNilsRow.laid
theorem primOk {w:World}:PrimOk Tryz.prog lawH w w.heap.size:=by
 intro g F hF xa st r hr
 have hF':(if g=13 then some (sayB true) else if g=44∨g=110∨g=146 then some (fun _ _=>none) else none)=some F:=hF
 split at hF'
 ·rename_i hg
  subst hg
  cases hF'
  obtain ⟨s,hs⟩:=runOk
  exact prim_sayB (H0:=runH) progOkRun (extOk_none fun _=>rfl) mixed (primAll_none fun _=>rfl) (fun g row h=>by cases h) hs ⟨Tryz.f13,Tryz.func13,by kernel_rfl,by kernel_rfl⟩ w w.heap.size xa st r hr
 ·split at hF'
  ·cases hF';cases hr
  ·cases hF'
def flatV:Nat→DataW Unit→List Value
 |_,.lit (.int k z)=>[.int k z]
 |n+1,.agg ds=>ds.flatMap (flatV n)
 |_,_=>[]
noncomputable def laidWorld (os:Os):World :=
 let w0:=World.settled Tryz.prog os
 let put (h:Array Obj) (g:Nat) (cs:List Value):Array Obj:=h.modify g fun
  | .cells _ t frozen=>.cells cs.toArray t frozen
  |o=>o
 let h:=put w0.heap 0 (flatV 9 Rows.laid_unicode_utf8_first)
 let h:=put h 1 (flatV 9 Rows.laid_unicode_utf8_acceptRanges)
 let h:=put h 3 (flatV 9 Rows.laid_internal_strconv_uint64pow10)
 let h:=put h 4 (flatV 9 Rows.laid_math_bits_deBruijn32tab)
 let h:=put h 5 (flatV 9 Rows.laid_math_bits_deBruijn64tab)
 {w0 with heap:=h}
theorem piece0 (os:Os) (args:Array Value):LaidIn Tryz.prog ((laidWorld os).forCall (fun _ _=>0) ⟨#[],args,[]⟩).memory [("math/bits.deBruijn32tab",Rows.laid_math_bits_deBruijn32tab)] [4] :=
 LaidIn.of_run [4] 8 (by kernel_rfl) (by kernel_rfl) (by kernel_rfl) (by kernel_rfl)
theorem piece1 (os:Os) (args:Array Value):LaidIn Tryz.prog ((laidWorld os).forCall (fun _ _=>0) ⟨#[],args,[]⟩).memory [("math/bits.deBruijn64tab",Rows.laid_math_bits_deBruijn64tab)] [5] :=
 LaidIn.of_run [5] 8 (by kernel_rfl) (by kernel_rfl) (by kernel_rfl) (by kernel_rfl)
theorem piece2 (os:Os) (args:Array Value):LaidIn Tryz.prog ((laidWorld os).forCall (fun _ _=>0) ⟨#[],args,[]⟩).memory [("internal/strconv.uint64pow10",Rows.laid_internal_strconv_uint64pow10)] [3] :=
 LaidIn.of_run [3] 8 (by kernel_rfl) (by kernel_rfl) (by kernel_rfl) (by kernel_rfl)
theorem piece3 (os:Os) (args:Array Value):LaidIn Tryz.prog ((laidWorld os).forCall (fun _ _=>0) ⟨#[],args,[]⟩).memory [("unicode/utf8.acceptRanges",Rows.laid_unicode_utf8_acceptRanges)] [1] :=
 LaidIn.of_run [1] 8 (by kernel_rfl) (by kernel_rfl) (by kernel_rfl) (by kernel_rfl)
theorem piece4 (os:Os) (args:Array Value):LaidIn Tryz.prog ((laidWorld os).forCall (fun _ _=>0) ⟨#[],args,[]⟩).memory [("unicode/utf8.first",Rows.laid_unicode_utf8_first)] [0] :=
 LaidIn.of_run [0] 8 (by kernel_rfl) (by kernel_rfl) (by kernel_rfl) (by kernel_rfl)
theorem laid_met (os:Os) (args:Array Value):laidMet Tryz.prog laidL ((laidWorld os).forCall (fun _ _=>0) ⟨#[],args,[]⟩).memory :=
 LaidIn.met (((((piece0 os args).append (piece1 os args) (by kernel_rfl)).append (piece2 os args) (by kernel_rfl)).append (piece3 os args) (by kernel_rfl)).append (piece4 os args) (by kernel_rfl))
end Go.Proofs.YteigocmmamlhfaaGreatDoor
namespace Go.Proofs.YteigocmmamlhfaaGreatDoor
open Go Go.Abs Go.ChangeShapes Go.WideShapes Go.ChangeAt Go.RowKit
section
variable {T:Type}
theorem bulk_one (d:DataW T):1≤Rows.uptoBulk d:=by
 cases d with
 |lit l=>cases l<;>simp [Rows.uptoBulk]
 |nil=>simp [Rows.uptoBulk]
 |ptr d=>simp [Rows.uptoBulk]
 |slice elems spare=>simp [Rows.uptoBulk]
 |agg parts=>simp [Rows.uptoBulk]
 |iface t d=>simp [Rows.uptoBulk]
 |map entries=>simp [Rows.uptoBulk]
 |held h=>simp [Rows.uptoBulk]
theorem bulk_len (l:List (DataW T)):l.length≤Rows.uptoBulkAll l:=by
 induction l with
 |nil=>exact Nat.le_refl _
 |cons x r ih =>
  have:=bulk_one x
  simp only [Rows.uptoBulkAll,List.length_cons];omega
theorem avD_agg {P:Program} {n:Nat} {t:TypeId} {fs:Array Field} {d:DataW T} {cs:List AV} (hu:P.underlying t=some (.struct fs)) (h:avD P n t d=some cs) :
  ∃m parts rs,n=m+1∧d = .agg parts∧parts.length=fs.size∧((fs.toList.zip parts).mapM fun p=>avD P m p.1.type p.2)=some rs∧cs=rs.flatten:=by
 cases n with
 |zero=>simp [avD] at h
 |succ n =>
  unfold avD at h
  rw [hu] at h
  cases d with
  |agg parts =>
   simp only at h
   split at h
   ·rename_i hl
    obtain ⟨rs,hr,h2⟩:=Option.map_eq_some_iff.1 h
    exact ⟨n,parts,rs,rfl,rfl,hl,hr,h2.symm⟩
   ·simp at h
  |lit l=>cases l<;>simp at h
  |_=>simp at h
end
theorem kVa:kdOf Tryz.prog 25=some 6:=by kernel_rfl
theorem plainVa:plainSetB Tryz.prog [25,3,4,9,22,23]=true:=by kernel_rfl
theorem VaRs_closed:∀(n:Nat) {vs:List Va} {R:List (List AV)},VaRs vs R→∀m,AV.closedss m R=true
 |n,[],_,h,m=>by cases h;rfl
 |n,v::vs,_,⟨c,r,h1,h2,h3⟩,m=>by
  subst h1
  obtain ⟨ks⟩:=v
  obtain ⟨k,b,i,s,na,la,rows,rfl,g1,_,g2,_⟩:=h2
  simp only [AV.closedss,Bool.and_eq_true]
  exact ⟨cs6_closed g1 g2 m,VaRs_closed n h3 m⟩
theorem strs_closed {P:Program} {T:Type} {t:TypeId} (hu:P.underlying t=some .string) {n:Nat}:∀(els:List (DataW T)) (rows:List (List AV)),els.mapM (avD P n t)=some rows→∀m,AV.closedss m rows=true:=by
 intro els
 induction els with
 |nil=>intro rows h m;simp at h;subst h;rfl
 |cons e els ih =>
  intro rows h m
  rw [List.mapM_cons] at h
  obtain ⟨r,hr,h2⟩:=Option.bind_eq_some_iff.1 h
  obtain ⟨rs,hrs,h3⟩:=Option.bind_eq_some_iff.1 h2
  simp only [Option.pure_def,Option.some.injEq] at h3
  subst h3
  obtain ⟨s,rfl,rfl⟩:=avD_str hu hr
  simp only [AV.closedss,Bool.and_eq_true]
  exact ⟨rfl,ih rs hrs m⟩
theorem sl_closed {kd m:Nat} {R:List (List AV)} (h:AV.closedss m R=true):AV.closed m (.sl kd R 0 R.length .no)=true:=by simp [AV.closed,h]
set_option maxRecDepth 100000 in
theorem value_of {T:Type}:∀(n:Nat) (d:DataW T) (cs:List AV),avD Tryz.prog n 25 d=some cs→Rows.uptoBulk d≤1048576→∃e,VaR e cs:=by
 intro n
 induction n using Nat.strongRecOn with
 |_ n ih =>
  intro d cs h hbk
  obtain ⟨m,parts,rs,rfl,rfl,hl,hr,rfl⟩:=avD_agg Tryz.underlying25 h
  have hl6:parts.length=6:=by simpa using hl
  clear hl
  match parts,hl6 with
  |[a,b,c,s,na,la],_ =>
   simp only [List.zip_cons_cons,List.zip_nil_right,List.mapM_cons,List.mapM_nil] at hr
   obtain ⟨ra,ha,h2⟩:=Option.bind_eq_some_iff.1 hr
   obtain ⟨r2,h3,h4⟩:=Option.bind_eq_some_iff.1 h2
   obtain ⟨rb,hb,h5⟩:=Option.bind_eq_some_iff.1 h3
   obtain ⟨r3,h6,h7⟩:=Option.bind_eq_some_iff.1 h5
   obtain ⟨rc,hc,h8⟩:=Option.bind_eq_some_iff.1 h6
   obtain ⟨r4,h9,h10⟩:=Option.bind_eq_some_iff.1 h8
   obtain ⟨rd,hd,h11⟩:=Option.bind_eq_some_iff.1 h9
   obtain ⟨r5,h12,h13⟩:=Option.bind_eq_some_iff.1 h11
   obtain ⟨re,he,h14⟩:=Option.bind_eq_some_iff.1 h12
   obtain ⟨r6,h15,h16⟩:=Option.bind_eq_some_iff.1 h14
   obtain ⟨rf,hf,h17⟩:=Option.bind_eq_some_iff.1 h15
   obtain ⟨x,rfl,_,rfl⟩:=avD_int Tryz.underlying3 ha
   obtain ⟨y,rfl,rfl⟩:=avD_bool Tryz.underlying4 hb
   obtain ⟨z,rfl,_,rfl⟩:=avD_int Tryz.underlying3 hc
   obtain ⟨u,rfl,rfl⟩:=avD_str Tryz.underlying9 hd
   simp at h4 h7 h10 h13 h16 h17
   subst h17;subst h16;subst h13;subst h10;subst h7;subst h4
   have hna:∃nv,re=[nv]∧∀m,AV.closed m nv=true:=by
    rcases avD_slice Tryz.underlying22 he with ⟨rfl,rfl⟩ | ⟨m',elems,spare,kd,rows,rfl,rfl,hkd,hrows,rfl⟩
    ·exact ⟨.nils,rfl,fun _=>rfl⟩
    ·exact ⟨_,rfl,fun m=>sl_closed (strs_closed Tryz.underlying9 elems rows hrows m)⟩
   obtain ⟨nv,rfl,hnv⟩:=hna
   simp only [Rows.uptoBulk,Rows.uptoBulkAll] at hbk
   rcases avD_slice Tryz.underlying23 hf with ⟨rfl,rfl⟩ | ⟨m',elems,spare,kd,rows,rfl,rfl,hkd,hrows,rfl⟩
   ·exact ⟨.mk [],x,y,z,u,nv,.nils,[],rfl,hnv,.nil,fun _=>rfl,by simp,rfl⟩
   ·rw [kVa] at hkd
    simp only [Option.some.injEq] at hkd
    subst hkd
    have key:∀(els:List (DataW T)) (rows:List (List AV)),els.mapM (avD Tryz.prog m' 25)=some rows→Rows.uptoBulkAll els≤1048576→∃es:List Va,VaRs es rows∧es.length=els.length:=by
     intro els
     induction els with
     |nil=>intro rows h _;simp at h;subst h;exact ⟨[],rfl,rfl⟩
     |cons e1 els ihl =>
      intro rows h hbk
      rw [List.mapM_cons] at h
      obtain ⟨r,hr,h2⟩:=Option.bind_eq_some_iff.1 h
      obtain ⟨rs,hrs,h3⟩:=Option.bind_eq_some_iff.1 h2
      simp only [Option.pure_def,Option.some.injEq] at h3
      subst h3
      simp only [Rows.uptoBulkAll] at hbk
      obtain ⟨e,e2⟩:=ih m' (by omega) e1 r hr (by omega)
      obtain ⟨es,f1,f3⟩:=ihl rs hrs (by omega)
      exact ⟨e::es,⟨r,rs,rfl,e2,f1⟩,by simp [f3]⟩
    simp only [Rows.uptoBulk] at hbk
    obtain ⟨es,f1,f3⟩:=key elems rows hrows (by omega)
    have:=bulk_len elems
    exact ⟨.mk es,x,y,z,u,nv,_,rows,rfl,hnv,.mk,fun m=>sl_closed (VaRs_closed 0 f1 m),by omega,f1⟩
set_option maxRecDepth 1000000 in
theorem one_value {T:Type} (enc:TypeId×Value→T) (W:World) (base:Nat) (args:Array Value) (ds gs:List (DataW T)) (before:List MemPlace)
  (hval:∀(j:Nat) t v,Tryz.f3.params[j]?=some t→args[j]?=some v→Value.okWide Tryz.prog W .any base t v)
  (hW:DataW.Whole enc Tryz.prog Tryz.f3.params.toList Rows.vmNilsSpec.vars false W args.toList ds gs before) (hk:Rows.uptoSmall T (ds++gs)=true) :
  Calls Tryz.prog 3 args W fun e W'=>∃v,e = .returned v∧Rows.vmNilsSpec.post enc Tryz.prog Tryz.f3 false true false false W args v W':=by
 have hW':=hW
 obtain ⟨p,q,hA0,hV,rfl,hfz,hnd⟩:=hW
 have hA:DataW.TrodAll enc Tryz.prog W 0 (fun _=>true) true Tryz.f3.params.toList args.toList ds p:=hA0
 rw [Tryz.params3] at hA hval
 obtain ⟨v0,vs0,d0,ds0,p0,q0,hargs,rfl,rfl,h0,r0⟩:=trodAll_cons hA
 obtain ⟨rfl,rfl,rfl⟩:=trodAll_nil r0
 obtain rfl:args=#[v0]:=by cases args;simp_all
 have hvars:Rows.vmNilsSpec.vars=[]:=rfl
 rw [hvars] at hV
 obtain ⟨rfl,rfl⟩:=trodVars_none hV
 obtain ⟨n,cs,ha,hrep⟩:=arg_agg laidOut plainVa (by simp) (of_decide_eq_true (by kernel_rfl)) Tryz.underlying25 (hval 0 25 v0 rfl rfl) h0
 have hbl:Rows.uptoBulk d0≤1048576:=by
  have:=of_decide_eq_true hk
  simp only [Rows.uptoBulkAll,List.append_nil] at this
  omega
 obtain ⟨e,he⟩:=value_of n d0 cs ha hbl
 have he':=he
 obtain ⟨ks⟩:=e
 obtain ⟨k,b,i,s,na,la,rows,rfl,g1,_,g2,_⟩:=he
 exact law_laid progOk extOk mixed primOk globOk laidOut (by rw [Tryz.params3];kernel_rfl) hvars rfl Tryz.underlying4 hW' rfl
  (avs:=[.agg (cs6 k b i s na la)]) (.cons hrep .nil) (nils_ok he' g1 g2 Cl.nil)
abbrev vaV:Value:=.agg #[.int .i64 0,.bool false,.int .i64 0,.string ⟨#[]⟩,.slice none 0 0,.slice none 0 0]
theorem reads3 (os:Os) {H:Type} (enc:TypeId×Value→H):∃places,DataW.whole enc Tryz.prog ((laidWorld os).forCall (fun _ _=>0) ⟨#[],#[vaV],[]⟩).memory Tryz.f3.params.toList Rows.vmNilsSpec.vars false #[vaV].toList 8=some ([.agg [.lit (.int .i64 0),.lit (.bool false),.lit (.int .i64 0),.lit (.string []),.nil,.nil]],[],places) :=
 ⟨[],by kernel_rfl⟩
set_option maxRecDepth 1000000 in
theorem lifted3 (os:Os) (started:os.Started) (H:Type) (enc:TypeId×Value→H) (F:Stop.Interp) :
  ReturnsInHanded {} Tryz.checked os 3 .any ((Rows.OpenSpec.upto Rows.vmNilsSpec).preRow enc Tryz.prog Tryz.f3 Rows.vmNilsUptoRow.domain false Rows.vmNilsUptoRow.laid) (((Rows.OpenSpec.upto Rows.vmNilsSpec).at F).post enc Tryz.prog Tryz.f3 false true false false):=by
 obtain ⟨places,hx⟩:=reads3 os enc
 refine returnsInHanded_of_row (C:=Tryz.checked) (s:=Rows.OpenSpec.upto Rows.vmNilsSpec) own started (by kernel_rfl) Tryz.func3
  (witness_row_atRef (enc:=enc) (C:=Tryz.checked) false (laidWorld os) #[vaV] rfl (by kernel_rfl) (by kernel_rfl) (by kernel_rfl)
   (OpenSpec.preRow_of_cond 8 hx (by kernel_rfl) (fun k hk=>by cases hk;kernel_rfl) (by kernel_rfl) (laid_met os _))) ?_
 intro W base args ds gs before hval hW _ hcond _ hL _ _
 exact one_value enc W base args ds gs before hval hW (hcond _ rfl)
theorem said3:Rows.VmNilsUptoSaid :=
 OpenClaim.holds_of_cond 3 Tryz.f3 rfl rfl rfl rfl rfl rfl rfl ⟨rfl,rfl,rfl,rfl,rfl⟩ rfl rfl rfl rfl rfl (by kernel_rfl) Tryz.func3 (by kernel_rfl)
  (of_decide_eq_true (by kernel_rfl)) (by unfold Func.isWrapper;first | (rw [if_pos (by decide +kernel)];kernel_rfl) | (rw [if_neg (by decide +kernel)];exact ⟨rfl,rfl⟩))
  (fun os started H enc _ F=>by rw [OpenClaim.pre_eq_preRow];exact lifted3 os started H enc F)
theorem plain3 (f:FuncId) (fn:Func) (hf:Tryz.pinned.checked.prog.funcNamed "stencil/stencillaw23.VmNils" = some f) (hfn:Tryz.pinned.checked.prog.funcs[f]?=some fn) :
  true=Tryz.pinned.checked.prog.looks []∧∀(j:Nat) t,fn.params[j]?=some t→Tryz.pinned.checked.prog.wantsStandIn t=false:=by
 obtain rfl:f=3:=Option.some.inj ((show Tryz.prog.funcNamed "stencil/stencillaw23.VmNils" = some 3 by kernel_rfl).symm.trans hf) |>.symm
 obtain rfl:fn=Tryz.f3:=(Option.some.inj (Tryz.func3.symm.trans hfn)).symm
 refine ⟨by kernel_rfl,fun j t ht=>?_⟩
 rw [Tryz.params3] at ht
 obtain rfl:t=25:=by simpa using Array.mem_of_getElem? ht
 exact (show Tryz.prog.wantsStandIn 25=false by kernel_rfl)
theorem vmNils_holds:Rows.VmNilsUptoCardSaid :=
 Claim7.holds_tied_plain_at .later [] _ _ _ _ said3 (fun _ h=>by cases h) (by kernel_rfl) (fun _ h=>by cases h) vmNilsUpto_row_tie rfl ⟨rfl,rfl⟩ (by kernel_rfl) rfl plain3 (by kernel_rfl)
#print axioms vmNils_holds
end Go.Proofs.YteigocmmamlhfaaGreatDoor
