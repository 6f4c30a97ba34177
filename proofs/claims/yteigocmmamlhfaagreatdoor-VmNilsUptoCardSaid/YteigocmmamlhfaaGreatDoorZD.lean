/- VmNils returns true for every value of bulk at most 1048576 and leaves it as it was: where the package-level variables that the row lists stand as it lists them. -/
import Derived.Test.YteigocmmamlhfaaGreatDoorZC
import Derived.SizedLaws
import Derived.JoinedOf
import Derived.ChangeBears
import Derived.Carry
import Derived.JoinedCond
import Derived.Deep.CondSized
import Derived.OpenShut
import Derived.Laws.StandIn
import Derived.Lib.Bytealg
import Derived.Lib.LaidTab
import Derived.Lib.ItoaNum
import Derived.Shelf.Strconv.AtoiAll
import Derived.Shelf.Strconv.Itoa3
import Derived.Test.YteigocmmamlhfaaGreatDoorProg
import Derived.KernelRfl
set_option linter.unusedVariables false
set_option linter.unusedSimpArgs false
set_option linter.unusedSectionVars false
namespace Go.Abs
open Go Go.RowKit
section
variable {P:Program} {H:Hints} {w:World}
def ghost0 (w:World):Gh:={I:=fun b i=>(w.cell? ⟨b,i,none⟩).filter (·.oneCell'),sh:=w.shape?,R:=fun _ _=>none,B:=fun _=>none,L:=fun _ _ _=>none,lo:=w.heap.size}
theorem wf0:WF P w w.heap.size (ghost0 w) [] w:=by
 refine ⟨Below.refl _ _,Nat.le_refl _,fun b i v hv=>?_,fun b x hx=>hx,fun o x hx=>by simp [St.get] at hx,fun o x hx=>by simp [St.get] at hx,fun o o' x x' b hx=>by simp [St.get] at hx,fun _ _ _=>rfl,fun _ _=>rfl,fun _ _ _ _=>rfl,rfl,fun b ob hb=>by (cases hb),fun o b hb=>by (cases hb)⟩
 have hv':(w.cell? ⟨b,i,none⟩).filter (·.oneCell')=some v:=hv
 rw [Option.filter_eq_some_iff] at hv'
 exact hv'
theorem ghost0_I {b i:Nat} {v:Value} (h:w.cell? ⟨b,i,none⟩=some v) (h1:v.oneCell'=true):(ghost0 w).I b i=some v:=by
 show (w.cell? ⟨b,i,none⟩).filter (·.oneCell')=some v
 rw [h];simp [Option.filter,h1]
def avD {T:Type} (P:Program):Nat→TypeId→DataW T→Option (List AV)
 | 0,_,_=>none
 |n+1,t,d =>
  match P.underlying t,d with
  |some .bool,.lit (.bool b)=>some [.bool b]
  |some (.int k),.lit (.int k' n)=>if k'=k∧(Lit.int k n).wf=true then some [.int k n] else none
  |some .string,.lit (.string s)=>some [.str s]
  |some (.pointer _),.nil=>some [.nilp]
  |some (.slice _),.nil=>some [.nils]
  |some (.slice e),.slice elems _=>(kdOf P e).bind fun kd=>(elems.mapM (avD P n e)).map fun rows=>[.sl kd rows 0 rows.length .no]
  |some (.struct fs),.agg parts=>if parts.length=fs.size then ((fs.toList.zip parts).mapM fun p=>avD P n p.1.type p.2).map List.flatten else none
  |some (.array m e),.agg parts=>if parts.length=m then (parts.mapM (avD P n e)).map List.flatten else none
  |some (.map _ _),.nil=>some [.nilm]
  |some (.func ..),.nil=>some [.nilf]
  |some (.interface _),.nil=>some [.nili]
  |_,_=>none
theorem addr_of_cell {a:Addr} {v:Value} (h:w.cell? a=some v):a.spot=none:=by
 unfold World.cell? at h
 split at h
 ·split at h
  ·simp at h
  ·rename_i hs;simpa using hs
 ·simp at h
theorem mapM_len {α β:Type} {g:α→Option β} {l:List α} {l':List β} (h:l.mapM g=some l'):l'.length=l.length:=by
 induction l generalizing l' with
 |nil=>simp at h;subst h;rfl
 |cons a l ih =>
  rw [List.mapM_cons] at h
  obtain ⟨b,hb,h2⟩:=Option.bind_eq_some_iff.1 h
  obtain ⟨bs,hbs,h3⟩:=Option.bind_eq_some_iff.1 h2
  simp only [Option.pure_def,Option.some.injEq] at h3
  subst h3
  simp [ih hbs]
theorem cells_get {base b o n:Nat} {cs:List Value} (h:w.cells? base ⟨b,o,none⟩ n=some cs):cs.length=n∧∀j,j<n→w.cell? ⟨b,o+j,none⟩=cs[j]?:=by
 unfold World.cells? at h
 split at h
 ·have hl:=mapM_len h
  rw [List.length_range] at hl
  refine ⟨hl,fun j hj=>?_⟩
  have:=mapM_get h j
  rw [this,List.getElem?_range hj]
  simp only [Option.bind_some,addr_add]
 ·simp at h
theorem size_of_cell {b i:Nat} {v:Value} (h:w.cell? ⟨b,i,none⟩=some v):∃e n,w.shape? b=some (e,n)∧i<n:=by
 unfold World.cell? at h
 unfold World.shape?
 split at h
 ·rename_i c e fz hc
  rw [show (⟨b,i,none⟩:Addr).block=b from rfl] at hc
  simp only [Option.isSome_none,Bool.false_eq_true,if_false] at h
  rw [hc]
  exact ⟨e,c.size,rfl,(Array.getElem?_eq_some_iff.1 h).1⟩
 ·simp at h
theorem sizeof_of {t:TypeId} {n:Nat} (h:szOf P t=some n):P.cellsOf t=n:=by
 unfold szOf at h
 unfold Program.cellsOf
 rw [h];rfl
variable {T:Type} {enc:TypeId×Value→T} {base:Nat} {held:Bool}
theorem flatten_at {α β:Type} {f:α→β→Prop}:∀{xs:List (List α)} {ys:List (List β)},xs.length=ys.length→(∀(i:Nat) x y,xs[i]?=some x→ys[i]?=some y→x.length=y.length∧∀(j:Nat) a b,x[j]?=some a→y[j]?=some b→f a b) →
  xs.flatten.length=ys.flatten.length∧∀(j:Nat) a b,xs.flatten[j]?=some a→ys.flatten[j]?=some b→f a b
 |[],[],_,_=>⟨rfl,fun j a b h=>by simp at h⟩
 |x::xs,y::ys,hl,h=>by
  obtain ⟨h1,h2⟩:=h 0 x y rfl rfl
  obtain ⟨h3,h4⟩:=flatten_at (xs:=xs) (ys:=ys) (by simpa using hl) fun i x y hx hy=>h (i+1) x y (by simpa using hx) (by simpa using hy)
  refine ⟨by simp only [List.flatten_cons,List.length_append];omega,fun j a b ha hb=>?_⟩
  simp only [List.flatten_cons] at ha hb
  by_cases hj:j<x.length
  ·rw [List.getElem?_append_left hj] at ha
   rw [List.getElem?_append_left (by omega)] at hb
   exact h2 j a b ha hb
  ·rw [List.getElem?_append_right (by omega)] at ha
   rw [List.getElem?_append_right (by omega)] at hb
   rw [←h1] at hb
   exact h4 _ a b ha hb
 |[],_::_,hl,_=>by simp at hl
 |_::_,[],hl,_=>by simp at hl
def cuts {α:Type}:List Nat→List α→List (List α)
 |[],_=>[]
 |n::ns,l=>l.take n::cuts ns (l.drop n)
theorem cuts_flatten {α:Type}:∀{ns:List Nat} {l:List α},l.length=ns.sum→(cuts ns l).flatten=l
 |[],l,h=>by simp at h;simp [cuts,h]
 |n::ns,l,h=>by
  simp only [List.sum_cons] at h
  simp only [cuts,List.flatten_cons]
  rw [cuts_flatten (by simp;omega),List.take_append_drop]
theorem cuts_length {α:Type}:∀{ns:List Nat} {l:List α},(cuts ns l).length=ns.length
 |[],l=>rfl
 |n::ns,l=>by simp [cuts,cuts_length]
theorem cuts_get {α:Type}:∀{ns:List Nat} {l:List α} {i n:Nat},ns[i]?=some n→(cuts ns l)[i]?=some ((l.drop (ns.take i).sum).take n)
 |[],l,i,n,h=>by simp at h
 |m::ns,l,0,n,h=>by simp at h;subst h;simp [cuts]
 |m::ns,l,i+1,n,h=>by
  have:=cuts_get (ns:=ns) (l:=l.drop m) (i:=i) (n:=n) (by simpa using h)
  simpa [cuts,List.drop_drop] using this
theorem ChangeBears_slice (hl:laidOutB P=true) {t e:TypeId} (ht:t<P.types.size) (hu:P.underlying t=some (.slice e)):e<P.types.size:=kid_slice hl ht hu
theorem trod_rep (hl:laidOutB P=true) {S:List TypeId} (hS:∀t ∈ S,(∀e,P.underlying t=some (.slice e)→e ∈ S)∧(∀fs,P.underlying t=some (.struct fs)→∀f ∈ fs.toList,f.type ∈ S)∧∀n e,P.underlying t=some (.array n e)→e ∈ S) :
  ∀(fuel:Nat) (t:TypeId) (cs:List Value) (d:DataW T) (ps:List MemPlace) (xa0:List AV),t ∈ S→t<P.types.size→DataW.trod enc P w base (fun _=>true) held fuel t cs=some (d,ps)→avD P fuel t d=some xa0 →
   cs.length=xa0.length∧(∀v ∈ cs,v.oneCell'=true)∧∀(j:Nat) v a,cs[j]?=some v→xa0[j]?=some a→Rep P (ghost0 w) v a:=by
 intro fuel
 induction fuel with
 |zero=>intro t cs d ps xa0 hts ht h;simp [DataW.trod] at h
 |succ fuel ih =>
  intro t cs d ps xa0 hts ht h ha
  have one:∀{v:Value} {a:AV},cs=[v]→xa0=[a]→v.oneCell'=true→Rep P (ghost0 w) v a→cs.length=xa0.length∧(∀v ∈ cs,v.oneCell'=true)∧∀(j:Nat) v a,cs[j]?=some v→xa0[j]?=some a→Rep P (ghost0 w) v a:=by
   intro v a h1 h2 h3 h4
   subst h1;subst h2
   refine ⟨rfl,by simpa using h3,fun j v' a' hj hj'=>?_⟩
   cases j with
   |zero=>simp at hj hj';subst hj;subst hj';exact h4
   |succ j=>simp at hj
  unfold DataW.trod at h
  unfold avD at ha
  split at h
  ·
   rename_i b hu
   simp only [Option.some.injEq,Prod.mk.injEq] at h
   obtain ⟨rfl,rfl⟩:=h
   rw [hu] at ha
   simp only [Option.some.injEq] at ha
   exact one rfl ha.symm rfl (.bool b)
  ·
   rename_i k k' n hu
   split at h
   ·rename_i hk
    simp only [Option.some.injEq,Prod.mk.injEq] at h
    obtain ⟨rfl,rfl⟩:=h
    rw [hu] at ha
    simp only [hk.2,and_self,if_true,Option.some.injEq] at ha
    rw [←hk.1] at ha
    exact one rfl ha.symm rfl (.int k' n)
   ·simp at h
  ·
   rename_i hu
   split at h
   ·simp only [Option.some.injEq,Prod.mk.injEq] at h
    obtain ⟨rfl,rfl⟩:=h
    rw [hu] at ha
    simp at ha
   ·simp at h
  ·
   rename_i s hu
   split at h
   ·simp only [Option.some.injEq,Prod.mk.injEq] at h
    obtain ⟨rfl,rfl⟩:=h
    rw [hu] at ha
    simp only [Option.some.injEq] at ha
    exact one rfl ha.symm rfl (.str s)
   ·simp at h
  ·
   rename_i e hu
   simp only [Option.some.injEq,Prod.mk.injEq] at h
   obtain ⟨rfl,rfl⟩:=h
   rw [hu] at ha
   simp only [Option.some.injEq] at ha
   exact one rfl ha.symm rfl .nilp
  ·rename_i e a hu
   obtain ⟨x,_,h2⟩:=Option.map_eq_some_iff.1 h
   simp only [Prod.mk.injEq] at h2
   obtain ⟨rfl,_⟩:=h2
   rw [hu] at ha
   simp at ha
  ·
   rename_i e hu
   simp only [Option.some.injEq,Prod.mk.injEq] at h
   obtain ⟨rfl,rfl⟩:=h
   rw [hu] at ha
   simp only [Option.some.injEq] at ha
   exact one rfl ha.symm rfl .nils
  ·
   rename_i e a len cap hu
   simp only at h
   split at h
   ·rename_i hb
    obtain ⟨elems,he,h2⟩:=Option.bind_eq_some_iff.1 h
    obtain ⟨rest,hr,h3⟩:=Option.map_eq_some_iff.1 h2
    simp only [if_true] at hr
    simp only [Prod.mk.injEq] at h3
    obtain ⟨rfl,_⟩:=h3
    rw [hu] at ha
    simp only at ha
    obtain ⟨kd,hkd,ha2⟩:=Option.bind_eq_some_iff.1 ha
    obtain ⟨rows,hrows,ha3⟩:=Option.map_eq_some_iff.1 ha2
    obtain ⟨hsz,hu8⟩:=kdOf_sz hkd
    have hce:=sizeof_of hsz
    have hpos:=szk_pos kd
    have hel:elems.length=len:=by simpa using mapM_len he
    have hrl:rest.length=cap - len:=by simpa using mapM_len hr
    have hrwl:rows.length=len:=by have:=mapM_len hrows;simpa [hel] using this
    have elem:∀i,i<cap→∃x ci,w.cells? base (a.add (i*P.cellsOf e)) (P.cellsOf e)=some ci∧DataW.trod enc P w base (fun _=>true) held fuel e ci=some x∧(i<len→elems[i]?=some x):=by
     intro i hi
     by_cases hil:i<len
     ·have:=mapM_get he i
      rw [List.getElem?_range hil] at this
      simp only [Option.bind_some] at this
      have h4:elems[i]?=some (elems[i]'(by omega)):=List.getElem?_eq_getElem _
      rw [h4] at this
      obtain ⟨ci,h5,h6⟩:=Option.bind_eq_some_iff.1 this.symm
      exact ⟨_,ci,h5,h6,fun _=>h4⟩
     ·have:=mapM_get hr (i - len)
      rw [List.getElem?_range (by omega)] at this
      simp only [Option.bind_some] at this
      have h4:rest[i - len]?=some (rest[i - len]'(by omega)):=List.getElem?_eq_getElem _
      rw [h4,show len+(i - len)=i by omega] at this
      obtain ⟨ci,h5,h6⟩:=Option.bind_eq_some_iff.1 this.symm
      exact ⟨_,ci,h5,h6,fun h=>absurd h hil⟩
    by_cases hc:cap=0
    ·subst hc
     have hl0:len=0:=by omega
     subst hl0
     have:rows=[]:=List.eq_nil_of_length_eq_zero (by omega)
     subst this
     exact one rfl ha3.symm rfl (.slz a kd)
    have hspot:a.spot=none:=by
     obtain ⟨x,ci,h5,_,_⟩:=elem 0 (by omega)
     rw [Nat.zero_mul,show a.add 0=a from rfl] at h5
     unfold World.cells? at h5
     split at h5
     ·have:=mapM_get h5 0
      rw [List.getElem?_range (by omega)] at this
      simp only [Option.bind_some,show a.add 0=a from rfl] at this
      have hl5:=mapM_len h5
      rw [List.length_range] at hl5
      rw [List.getElem?_eq_getElem (by omega)] at this
      exact addr_of_cell this.symm
     ·simp at h5
    obtain ⟨b,o,sp⟩:=a
    simp only at hspot
    subst hspot
    have cell:∀i,i<cap→∃x ci,ci.length=szk kd∧(∀j,j<szk kd→w.cell? ⟨b,o+i*szk kd+j,none⟩=ci[j]?)∧DataW.trod enc P w base (fun _=>true) held fuel e ci=some x∧(i<len→elems[i]?=some x):=by
     intro i hi
     obtain ⟨x,ci,h5,h6,h7⟩:=elem i hi
     rw [addr_add,hce] at h5
     obtain ⟨h8,h9⟩:=cells_get h5
     exact ⟨x,ci,h8,h9,h6,h7⟩
    have row:∀(i:Nat) r,rows[i]?=some r→r.length=szk kd∧∀(j:Nat) z,r[j]?=some z→∃v,w.cell? ⟨b,o+i*szk kd+j,none⟩=some v∧v.oneCell'=true∧Rep P (ghost0 w) v z:=by
     intro i r hi
     have hil:i<len:=by rw [←hrwl];exact (List.getElem?_eq_some_iff.1 hi).1
     obtain ⟨x,ci,c1,c2,c3,c4⟩:=cell i (by omega)
     have hxr:avD P fuel e x.1=some r:=by
      have:=mapM_get hrows i
      rw [hi,List.getElem?_map,c4 hil] at this
      simpa using this.symm
     obtain ⟨q1,q2,q3⟩:=ih e ci x.1 x.2 r ((hS t hts).1 e hu) (ChangeBears_slice hl ht hu) c3 hxr
     refine ⟨by omega,fun j z hz=>?_⟩
     have hjl:=(List.getElem?_eq_some_iff.1 hz).1
     have hv:ci[j]?=some (ci[j]'(by omega)):=List.getElem?_eq_getElem _
     exact ⟨_,by rw [c2 j (by omega)];exact hv,q2 _ (List.getElem_mem _),q3 j _ z hv hz⟩
    refine one rfl ha3.symm rfl ?_
    have hlen:rows.length=len:=hrwl
    subst hlen
    refine .sl b o o rows.length cap kd rows 0 .no (by omega) (fun r hr=>?_) (by omega) (fun _=>by simp) ?_ trivial (fun i r j z h1 h2=>?_) (fun i r j z v h1 h2 h3=>?_)
    ·obtain ⟨i,hi⟩:=List.getElem?_of_mem hr
     exact (row i r hi).1
    ·first
     |done
     |obtain ⟨x,ci,c1,c2,_,_⟩:=cell (cap - 1) (by omega)
      have:=c2 (szk kd - 1) (by omega)
      rw [List.getElem?_eq_getElem (by omega)] at this
      obtain ⟨se,sn,s1,s2⟩:=size_of_cell this
      refine .inr ⟨se,sn,s1,?_,fun h=>by cases h⟩
      have e1:(cap - 1)*szk kd+szk kd=cap*szk kd:=by rw [←Nat.succ_mul];congr 1;omega
      have e2:rows.length*szk kd≤cap*szk kd:=Nat.mul_le_mul_right _ hb.2.1
      refine Nat.max_le.2 ⟨by omega,?_⟩
      rw [if_neg hc];omega
    ·obtain ⟨v,v1,v2,_⟩:=(row i r h1).2 j z h2
     rw [ghost0_I v1 v2];rfl
    ·obtain ⟨v',v1,v2,v3⟩:=(row i r h1).2 j z h2
     rw [ghost0_I v1 v2] at h3
     cases h3
     exact v3
   ·simp at h
  ·
   rename_i cs _ _ fs hu
   split at h
   ·rename_i hcl
    obtain ⟨xs,hxs,h2⟩:=Option.map_eq_some_iff.1 h
    simp only [Prod.mk.injEq] at h2
    obtain ⟨rfl,_⟩:=h2
    rw [hu] at ha
    simp only at ha
    split at ha
    ·rename_i hpl
     obtain ⟨ys,hys,ha2⟩:=Option.map_eq_some_iff.1 ha
     obtain ⟨k1,k2,k3⟩:=kid_struct hl ht hu
     have hxl:xs.length=fs.size:=by simpa using mapM_len hxs
     have hyl:ys.length=fs.size:=by have:=mapM_len hys;simp at this;omega
     have hfl:(cuts (fs.toList.map fun f=>P.cellsOf f.type) cs).flatten=cs:=cuts_flatten (by rw [hcl,k2])
     have piece:∀(i:Nat) x y,(cuts (fs.toList.map fun f=>P.cellsOf f.type) cs)[i]?=some x→ys[i]?=some y→x.length=y.length∧(∀v ∈ x,v.oneCell'=true)∧∀(j:Nat) a b,x[j]?=some a→y[j]?=some b→Rep P (ghost0 w) a b:=by
      intro i x y hx hy
      have hi:i<fs.size:=by rw [←hyl];exact (List.getElem?_eq_some_iff.1 hy).1
      have hf:fs.toList[i]?=some fs[i]:=by simp [hi]
      have hxi:xs[i]?=some (xs[i]'(by omega)):=List.getElem?_eq_getElem _
      have t1:=mapM_get hxs i
      rw [hf,hxi] at t1
      simp only [Option.bind_some] at t1
      have t2:=mapM_get hys i
      have hz:(fs.toList.zip (xs.map (·.1)))[i]?=some (fs[i],(xs[i]'(by omega)).1):=List.getElem?_zip_eq_some.2 ⟨hf,by simp [hxi]⟩
      rw [hy,hz] at t2
      simp only [Option.bind_some] at t2
      have t3:=cuts_get (ns:=fs.toList.map fun f=>P.cellsOf f.type) (l:=cs) (i:=i) (n:=P.cellsOf fs[i].type) (by simp [hf])
      rw [hx] at t3
      simp only [Option.some.injEq] at t3
      rw [←List.map_take,←k3 i fs[i] hf] at t3
      rw [←t3] at t1
      exact ih _ x _ _ y ((hS t hts).2.1 fs hu _ (List.mem_of_getElem? hf)) (k1 _ (List.mem_of_getElem? hf)) t1.symm t2.symm
     have hfa:=flatten_at (f:=fun a b=>Rep P (ghost0 w) a b) (xs:=cuts (fs.toList.map fun f=>P.cellsOf f.type) cs) (ys:=ys) (by rw [cuts_length];simp [hyl]) fun i x y hx hy=>⟨(piece i x y hx hy).1,(piece i x y hx hy).2.2⟩
     rw [hfl,ha2] at hfa
     refine ⟨hfa.1,fun v hv=>?_,hfa.2⟩
     rw [←hfl] at hv
     obtain ⟨x,hx,hvx⟩:=List.mem_flatten.1 hv
     obtain ⟨i,hi⟩:=List.getElem?_of_mem hx
     have hil:=(List.getElem?_eq_some_iff.1 hi).1
     rw [cuts_length] at hil
     simp at hil
     exact (piece i x _ hi (List.getElem?_eq_getElem (by omega))).2.1 v hvx
    ·simp at ha
   ·simp at h
  ·
   rename_i cs _ _ m e hu
   split at h
   ·rename_i hcl
    obtain ⟨xs,hxs,h2⟩:=Option.map_eq_some_iff.1 h
    simp only [Prod.mk.injEq] at h2
    obtain ⟨rfl,_⟩:=h2
    rw [hu] at ha
    simp only at ha
    split at ha
    ·rename_i hpl
     obtain ⟨ys,hys,ha2⟩:=Option.map_eq_some_iff.1 ha
     obtain ⟨k1,k2⟩:=kid_array hl ht hu
     have hxl:xs.length=m:=by simpa using mapM_len hxs
     have hyl:ys.length=m:=by have:=mapM_len hys;simp at this;omega
     have hfl:(cuts (List.replicate m (P.cellsOf e)) cs).flatten=cs:=cuts_flatten (by rw [hcl,k2];simp)
     have piece:∀(i:Nat) x y,(cuts (List.replicate m (P.cellsOf e)) cs)[i]?=some x→ys[i]?=some y→x.length=y.length∧(∀v ∈ x,v.oneCell'=true)∧∀(j:Nat) a b,x[j]?=some a→y[j]?=some b→Rep P (ghost0 w) a b:=by
      intro i x y hx hy
      have hi:i<m:=by rw [←hyl];exact (List.getElem?_eq_some_iff.1 hy).1
      have hxi:xs[i]?=some (xs[i]'(by omega)):=List.getElem?_eq_getElem _
      have t1:=mapM_get hxs i
      rw [List.getElem?_range hi,hxi] at t1
      simp only [Option.bind_some] at t1
      have t2:=mapM_get hys i
      rw [hy,List.getElem?_map,hxi] at t2
      simp only [Option.map_some,Option.bind_some] at t2
      have t3:=cuts_get (ns:=List.replicate m (P.cellsOf e)) (l:=cs) (i:=i) (n:=P.cellsOf e) (by simp [hi])
      rw [hx] at t3
      simp only [Option.some.injEq] at t3
      have e1:((List.replicate m (P.cellsOf e)).take i).sum=i*P.cellsOf e:=by simp [List.take_replicate,Nat.min_eq_left (Nat.le_of_lt hi)]
      rw [e1] at t3
      rw [←t3] at t1
      exact ih _ x _ _ y ((hS t hts).2.2 m e hu) k1 t1.symm t2.symm
     have hfa:=flatten_at (f:=fun a b=>Rep P (ghost0 w) a b) (xs:=cuts (List.replicate m (P.cellsOf e)) cs) (ys:=ys) (by rw [cuts_length];simp [hyl]) fun i x y hx hy=>⟨(piece i x y hx hy).1,(piece i x y hx hy).2.2⟩
     rw [hfl,ha2] at hfa
     refine ⟨hfa.1,fun v hv=>?_,hfa.2⟩
     rw [←hfl] at hv
     obtain ⟨x,hx,hvx⟩:=List.mem_flatten.1 hv
     obtain ⟨i,hi⟩:=List.getElem?_of_mem hx
     have hil:=(List.getElem?_eq_some_iff.1 hi).1
     rw [cuts_length] at hil
     simp at hil
     exact (piece i x _ hi (List.getElem?_eq_getElem (by omega))).2.1 v hvx
    ·simp at ha
   ·simp at h
  ·
   rename_i hu
   simp only [Option.some.injEq,Prod.mk.injEq] at h
   obtain ⟨rfl,rfl⟩:=h
   rw [hu] at ha
   simp only [Option.some.injEq] at ha
   exact one rfl ha.symm rfl .nili
  ·
   rename_i hu
   split at h
   ·simp only [Option.some.injEq,Prod.mk.injEq] at h
    obtain ⟨rfl,rfl⟩:=h
    rw [hu] at ha
    simp at ha
   ·obtain ⟨x,_,h2⟩:=Option.map_eq_some_iff.1 h
    simp only [Prod.mk.injEq] at h2
    obtain ⟨rfl,_⟩:=h2
    rw [hu] at ha
    simp at ha
   ·simp at h
  ·
   rename_i hu
   simp only [Option.some.injEq,Prod.mk.injEq] at h
   obtain ⟨rfl,rfl⟩:=h
   rw [hu] at ha
   simp only [Option.some.injEq] at ha
   exact one rfl ha.symm rfl .nilm
  ·
   rename_i hu
   split at h
   ·split at h
    ·obtain ⟨x,_,h2⟩:=Option.bind_eq_some_iff.1 h
     simp only at h2
     split at h2
     ·simp only [Option.some.injEq,Prod.mk.injEq] at h2
      obtain ⟨rfl,_⟩:=h2
      rw [hu] at ha
      simp at ha
     ·simp at h2
    ·simp at h
   ·simp at h
  ·
   rename_i hu
   simp only [Option.some.injEq,Prod.mk.injEq] at h
   obtain ⟨rfl,rfl⟩:=h
   rw [hu] at ha
   simp only [Option.some.injEq] at ha
   exact one rfl ha.symm rfl .nilf
  all_goals first
   |(simp at h;done)
   |(rename_i hu;simp only [Option.some.injEq,Prod.mk.injEq] at h;obtain ⟨rfl,rfl⟩:=h;rw [hu] at ha;simp at ha;done)
   |(rename_i hu;split at h<;>first | (simp only [Option.some.injEq,Prod.mk.injEq] at h;obtain ⟨rfl,rfl⟩:=h;rw [hu] at ha;simp at ha;done) | (simp at h;done))
end
end Go.Abs
namespace Go.Abs
open Go Go.RowKit Go.ChangeShapes
section
variable {P:Program} {H:Hints} {w:World} {T:Type} {enc:TypeId×Value→T}
def progOkB (P:Program) (H:Hints):Bool:=(List.range P.funcs.size).all fun g=>match P.funcs[g]? with
 |some fn=>(match fn.body with
  |some c=>!(fn.name == "runtime.NumGoroutine")&&((H.prim g).isSome||(codeOk H g fn.ntmps c&&(List.range (fn.params.size+fn.nfree)).all fun i=>(H.keep g).contains i))
  |none=>true)
 |none=>true
theorem progOk_of (h:progOkB P H=true):ProgOk P H:=by
 intro g fn c hf hb
 have:=List.all_eq_true.1 h g (List.mem_range.2 (Array.getElem?_eq_some_iff.1 hf).1)
 simp only [hf,hb,Bool.and_eq_true,Bool.not_eq_true',Bool.or_eq_true] at this
 refine ⟨this.1,fun hp=>?_⟩
 rcases this.2 with h | h
 ·rw [hp] at h;cases h
 ·exact ⟨h.1,fun i hi=>List.all_eq_true.1 h.2 i (List.mem_range.2 hi)⟩
theorem extOk_none (h:∀g,H.ext g=none):ExtOk P H:=fun g F hF=>by rw [h g] at hF;cases hF
theorem globOk_none {σ:Gh} (h:∀g,H.glob g=none):GlobOk P H σ:=fun g row hr=>by rw [h g] at hr;cases hr
def plainSetB (P:Program) (S:List TypeId):Bool:=S.all fun t=>match P.underlying t with
 |some .bool=>true
 |some (.int _)=>true
 |some .string=>true
 |some (.slice e)=>S.contains e&&(kdOf P e).isSome
 |some (.struct fs)=>fs.toList.all fun f=>S.contains f.type
 |some (.array _ e)=>S.contains e
 |_=>false
theorem mapM_isSome {α β:Type} {g:α→Option β} {l:List α} (h:∀x ∈ l,(g x).isSome=true):(l.mapM g).isSome=true:=by
 induction l with
 |nil=>rfl
 |cons a l ih =>
  obtain ⟨b,hb⟩:=Option.isSome_iff_exists.1 (h a List.mem_cons_self)
  obtain ⟨bs,hbs⟩:=Option.isSome_iff_exists.1 (ih fun x hx=>h x (List.mem_cons_of_mem _ hx))
  rw [List.mapM_cons,hb]
  simp [hbs]
theorem trod_plain {S:List TypeId} (hS:plainSetB P S=true) {base:Nat} {sp:Nat→Bool} {held:Bool}:∀(fuel:Nat) (t:TypeId) (cs:List Value) (d:DataW T) (ps:List MemPlace),t ∈ S→DataW.trod enc P w base sp held fuel t cs=some (d,ps)→(avD P fuel t d).isSome=true:=by
 intro fuel
 induction fuel with
 |zero=>intro t cs d ps ht h;simp [DataW.trod] at h
 |succ fuel ih =>
  intro t cs d ps ht h
  have hp:=List.all_eq_true.1 hS t ht
  unfold avD
  unfold DataW.trod at h
  split at h
  ·rename_i hu
   simp only [Option.some.injEq,Prod.mk.injEq] at h
   obtain ⟨rfl,rfl⟩:=h
   rw [hu];rfl
  ·rename_i hu
   split at h
   ·rename_i hk
    simp only [Option.some.injEq,Prod.mk.injEq] at h
    obtain ⟨rfl,rfl⟩:=h
    rw [hu];simp [hk.2]
   ·simp at h
  ·rename_i hu;rw [hu] at hp;simp at hp
  ·rename_i hu
   split at h
   ·simp only [Option.some.injEq,Prod.mk.injEq] at h
    obtain ⟨rfl,rfl⟩:=h
    rw [hu];rfl
   ·simp at h
  ·rename_i hu;rw [hu] at hp;simp at hp
  ·rename_i hu;rw [hu] at hp;simp at hp
  ·rename_i hu
   simp only [Option.some.injEq,Prod.mk.injEq] at h
   obtain ⟨rfl,rfl⟩:=h
   rw [hu];rfl
  ·rename_i e a len cap hu
   rw [hu] at hp
   simp only [Bool.and_eq_true] at hp
   obtain ⟨he,hk⟩:=hp
   obtain ⟨kd,hkd⟩:=Option.isSome_iff_exists.1 hk
   simp only at h
   split at h
   ·obtain ⟨elems,hel,h2⟩:=Option.bind_eq_some_iff.1 h
    obtain ⟨rest,_,h3⟩:=Option.map_eq_some_iff.1 h2
    simp only [Prod.mk.injEq] at h3
    obtain ⟨rfl,_⟩:=h3
    rw [hu]
    simp only [hkd,Option.bind_some,Option.isSome_map]
    refine mapM_isSome fun x hx=>?_
    obtain ⟨y,hy,rfl⟩:=List.mem_map.1 hx
    obtain ⟨i,hi⟩:=List.getElem?_of_mem hy
    have:=mapM_get hel i
    rw [hi] at this
    obtain ⟨j,hj,h4⟩:=Option.bind_eq_some_iff.1 this.symm
    obtain ⟨ci,_,h6⟩:=Option.bind_eq_some_iff.1 h4
    exact ih e ci y.1 y.2 (by simpa using he) h6
   ·simp at h
  ·rename_i cs _ _ fs hu
   rw [hu] at hp
   split at h
   ·obtain ⟨xs,hxs,h2⟩:=Option.map_eq_some_iff.1 h
    simp only [Prod.mk.injEq] at h2
    obtain ⟨rfl,_⟩:=h2
    have hxl:xs.length=fs.size:=by simpa using mapM_len hxs
    rw [hu]
    simp only [List.length_map,hxl,if_true,Option.isSome_map]
    refine mapM_isSome fun x hx=>?_
    obtain ⟨i,hi⟩:=List.getElem?_of_mem hx
    obtain ⟨h3,h4⟩:=List.getElem?_zip_eq_some.1 hi
    rw [List.getElem?_map] at h4
    obtain ⟨y,hy,h5⟩:=Option.map_eq_some_iff.1 h4
    have:=mapM_get hxs i
    rw [hy,h3] at this
    simp only [Option.bind_some] at this
    have h6:=List.all_eq_true.1 hp x.1 (List.mem_of_getElem? h3)
    rw [←h5]
    exact ih _ _ _ _ (by simpa using h6) this.symm
   ·simp at h
  ·rename_i cs _ _ m e hu
   rw [hu] at hp
   split at h
   ·obtain ⟨xs,hxs,h2⟩:=Option.map_eq_some_iff.1 h
    simp only [Prod.mk.injEq] at h2
    obtain ⟨rfl,_⟩:=h2
    have hxl:xs.length=m:=by simpa using mapM_len hxs
    rw [hu]
    simp only [List.length_map,hxl,if_true,Option.isSome_map]
    refine mapM_isSome fun x hx=>?_
    obtain ⟨y,hy,rfl⟩:=List.mem_map.1 hx
    obtain ⟨i,hi⟩:=List.getElem?_of_mem hy
    have:=mapM_get hxs i
    rw [hi] at this
    obtain ⟨j,hj,h4⟩:=Option.bind_eq_some_iff.1 this.symm
    exact ih e _ y.1 y.2 (by simpa using hp) h4
   ·simp at h
  all_goals first
   |(simp at h;done)
   |(rename_i hu;rw [hu] at hp;simp at hp;done)
theorem trodAll_below (hl:laidOutB P=true) {W W':World} (hb:Below W.heap.size W W'):∀{ts:List TypeId} {vs:List Value} {ds:List (DataW T)} {ps:List MemPlace},
  (ts.all fun t=>P.readableRec t&&decide (t<P.types.size))=true→DataW.TrodAll enc P W 0 (fun _=>true) true ts vs ds ps→(∀x ∈ ps,x.block<W.heap.size)→DataW.TrodAll enc P W' 0 (fun b=>decide (b<W.heap.size)) true ts vs ds ps
 |[],[],[],ps,_,h,_=>h
 |t::ts,v::vs,d::ds,ps,hr,h,hlt=>by
  obtain ⟨p,q,h1,h2,rfl⟩:=h
  simp only [List.all_cons,Bool.and_eq_true,decide_eq_true_eq] at hr
  exact ⟨p,q,Below.trod hl hr.1.1 hr.1.2 h1 hb (fun x hx=>hlt x (List.mem_append_left _ hx)),trodAll_below hl hb hr.2 h2 (fun x hx=>hlt x (List.mem_append_right _ hx)),rfl⟩
 |[],_::_,_,_,_,h,_=>h.elim
 |[],[],_::_,_,_,h,_=>h.elim
 |_::_,[],_,_,_,h,_=>h.elim
 |_::_,_::_,[],_,_,h,_=>h.elim
theorem avD_int {n:Nat} {t:TypeId} {k:IntKind} {d:DataW T} {xa0:List AV} (hu:P.underlying t=some (.int k)) (h:avD P n t d=some xa0):∃m,d = .lit (.int k m)∧(Lit.int k m).wf=true∧xa0=[.int k m]:=by
 cases n with
 |zero=>simp [avD] at h
 |succ n =>
  unfold avD at h
  rw [hu] at h
  cases d with
  |lit l =>
   cases l with
   |int k' m =>
    simp only at h
    split at h
    ·rename_i hc
     simp only [Option.some.injEq] at h
     obtain ⟨rfl,hw⟩:=hc
     exact ⟨m,rfl,hw,h.symm⟩
    ·simp at h
   |_=>simp at h
  |_=>simp at h
theorem avD_str {n:Nat} {t:TypeId} {d:DataW T} {xa0:List AV} (hu:P.underlying t=some .string) (h:avD P n t d=some xa0):∃s,d = .lit (.string s)∧xa0=[.str s]:=by
 cases n with
 |zero=>simp [avD] at h
 |succ n =>
  unfold avD at h
  rw [hu] at h
  cases d with
  |lit l =>
   cases l with
   |string s=>simp only [Option.some.injEq] at h;exact ⟨s,rfl,h.symm⟩
   |_=>simp at h
  |_=>simp at h
theorem avD_bool {n:Nat} {t:TypeId} {d:DataW T} {xa0:List AV} (hu:P.underlying t=some .bool) (h:avD P n t d=some xa0):∃b,d = .lit (.bool b)∧xa0=[.bool b]:=by
 cases n with
 |zero=>simp [avD] at h
 |succ n =>
  unfold avD at h
  rw [hu] at h
  cases d with
  |lit l =>
   cases l with
   |bool s=>simp only [Option.some.injEq] at h;exact ⟨s,rfl,h.symm⟩
   |_=>simp at h
  |_=>simp at h
theorem avD_slice {n:Nat} {t e:TypeId} {d:DataW T} {xa0:List AV} (hu:P.underlying t=some (.slice e)) (h:avD P n t d=some xa0) :
  (d = .nil∧xa0=[.nils])∨∃m elems spare kd rows,n=m+1∧d = .slice elems spare∧kdOf P e=some kd∧elems.mapM (avD P m e)=some rows∧xa0=[.sl kd rows 0 rows.length .no]:=by
 cases n with
 |zero=>simp [avD] at h
 |succ n =>
  unfold avD at h
  rw [hu] at h
  cases d with
  |nil=>simp only [Option.some.injEq] at h;exact .inl ⟨rfl,h.symm⟩
  |slice elems spare =>
   simp only at h
   obtain ⟨kd,hk,h2⟩:=Option.bind_eq_some_iff.1 h
   obtain ⟨rows,hr,h3⟩:=Option.map_eq_some_iff.1 h2
   exact .inr ⟨n,elems,spare,kd,rows,rfl,rfl,hk,hr,h3.symm⟩
  |lit l=>cases l<;>simp at h
  |_=>simp at h
theorem flat_set {S:List TypeId} (hS:plainSetB P S=true):∀t ∈ S,(∀e,P.underlying t=some (.slice e)→e ∈ S)∧(∀fs,P.underlying t=some (.struct fs)→∀f ∈ fs.toList,f.type ∈ S)∧∀n e,P.underlying t=some (.array n e)→e ∈ S:=by
 intro t ht
 have hp:=List.all_eq_true.1 hS t ht
 refine ⟨fun e he=>?_,fun fs hfs f hf=>?_,fun n e he=>?_⟩
 ·rw [he] at hp
  simp only [Bool.and_eq_true] at hp
  simpa using hp.1
 ·rw [hfs] at hp
  simpa using List.all_eq_true.1 hp f hf
 ·rw [he] at hp
  simpa using hp
theorem arg_agg {S:List TypeId} (hl:laidOutB P=true) (hS:plainSetB P S=true) {t:TypeId} {fs:Array Field} (ht:t ∈ S) (hts:t<P.types.size) (hu:P.underlying t=some (.struct fs)) {r:Reach} {b0:Nat} {v:Value} {d:DataW T} {ps:List MemPlace}
  (hok:Value.okWide P w r b0 t v) (h:DataW.Trod enc P w 0 (fun _=>true) true t v d ps):∃n cs,avD P n t d=some cs∧Rep P (ghost0 w) v (.agg cs):=by
 obtain ⟨fuel,hf⟩:=h
 obtain ⟨cs,ha⟩:=Option.isSome_iff_exists.1 (trod_plain hS fuel t _ d ps ht hf)
 have hv:∃vs,v = .agg vs:=by
  unfold Value.okWide at hok
  rw [hu] at hok
  obtain ⟨vs,rfl,_⟩:=hok
  exact ⟨vs,rfl⟩
 obtain ⟨vs,rfl⟩:=hv
 obtain ⟨h1,h2,h3⟩:=trod_rep hl (flat_set hS) fuel t _ d ps cs ht hts hf ha
 have hc:(Value.agg vs).cells=vs:=rfl
 rw [hc] at h1 h2 h3
 refine ⟨fuel,cs,ha,.agg vs cs (by simpa using h1) (fun j v hj=>h2 v ?_) (fun j v a hj hja=>h3 j v a (by simpa using hj) hja)⟩
 have:=List.mem_of_getElem? (show vs.toList[j]?=some v by simpa using hj)
 exact this
end
end Go.Abs
namespace Go.Abs
open Go Go.RowKit
section
variable {P:Program} {H:Hints} {w:World}
end
end Go.Abs
namespace Go.Abs
open Go
def itoaP:List AV→St→Option (AOut×St)
 |[.int .i64 n,.int .i64 b],st=>if b=10∧-9223372036854775808≤n∧n≤9223372036854775807 then some (.ret (.str (Lib.itoa n)),st) else none
 |_,_=>none
end Go.Abs
namespace Go.Abs
open Go Go.RowKit Go.Shelf Go.Proofs
section
variable {P:Program} {H:Hints} {W w w':World} {bs:Nat} {σ:Gh} {st:St}
theorem WF.grown (h:WF P W bs σ st w) (hb:Below w.heap.size w w'):WF P W bs σ st w':=by
 refine h.still (T:=w.heap.size) (Gh.Le.refl σ) (h.below.trans (hb.mono (Nat.le_trans h.bsle h.below.size))) (fun b _ hlt=>hb.block b hlt) (unowned h (Nat.le_refl _)) (fun _ _ _ hv=>.inl hv) (fun i v hv=>?_) (fun _ _ hy=>.inl hy) (fun y hy=>?_) rfl rfl rfl (noK h (Nat.le_refl _))
 ·rw [noI h (Nat.le_refl _)] at hv;cases hv
 ·rw [noSh h (Nat.le_refl _)] at hy;cases hy
variable {ρ:Ren}
end
end Go.Abs
namespace Go.Abs
open Go Go.RowKit Go.ChangeShapes Go.Proofs
section
variable {P:Program} {H:Hints} {w:World} {T:Type} {enc:TypeId×Value→T}
theorem callW_prims (hP:ProgOk P H) (hX:ExtOk P H) (hm:P.follows .mixedOrders=true) {W:World} {bs:Nat} (hM:PrimOk P H W bs) {g:FuncId} {xs:List AV} {st:St} {r:AOut×St} (h:callW P H g xs st=some r) {σ:Gh} {w:World} {vs:List Value}
  (hw:WF P W bs σ st w) (hg:GlobOk P H σ) (hr:Reps P σ vs xs) (hsp:spId g=false:=by first | rfl | assumption):Calls P g vs.toArray w (EndOk P W bs σ r.1 r.2):=by
 obtain ⟨n,hn⟩:=callW_some h
 exact (callN_ok hP hX hM (draw_ok hm hX) n g xs st r hn |>.1 hsp).2 σ w vs hw hg hr
theorem law_laid {fn:Func} {s:ChangeSpec} {f:FuncId} {tb:TypeId} (hP:ProgOk P H) (hX:ExtOk P H) (hm:P.follows .mixedOrders=true) (hM:PrimOk P H w w.heap.size) (hg:GlobOk P H (ghost0 w)) (hl:laidOutB P=true)
  (hr:(fn.params.toList.all fun t=>P.readableRec t&&decide (t<P.types.size))=true) (hvars:s.vars=[]) (hres:fn.resultTypes=#[tb]) (hub:P.underlying tb=some .bool)
  {args:Array Value} {ds gs:List (DataW T)} {before:List MemPlace} (hW:DataW.Whole enc P fn.params.toList s.vars false w args.toList ds gs before) (hfn:s.fn T (ds++gs)={results:=[.lit (.bool true)],args:=ds})
  {avs:List AV} (hrep:Reps P (ghost0 w) args.toList avs) {st:St} (hrun:callW P H f avs []=some (.ret (.bool true),st)) (hsp:spId f=false:=by first | rfl | assumption) :
  Calls P f args w fun e w'=>∃v,e = .returned v∧s.post enc P fn false true false false w args v w':=by
 have hc:=callW_prims hP hX hm hM hrun (w:=w) wf0 hg hrep
 rw [Array.toArray_toList] at hc
 refine hc.mono fun e w' he=>?_
 cases e with
 |panicked ch=>obtain ⟨a,v,σ',h1,_⟩:=he;cases h1
 |outgrown=>exact he.elim
 |returned v =>
  obtain ⟨a,σ',h1,h2,h3,h4⟩:=he
  cases h1
  cases h4
  have hlt:=hW.lt
  have hW':=hW
  obtain ⟨p,q,hA,hV,rfl,hfz,hnd⟩:=hW
  have hvs:gs=[]∧q=[]:=by rw [hvars] at hV;exact trodVars_none hV
  obtain ⟨rfl,rfl⟩:=hvs
  refine ⟨_,rfl,ds,[],p++[],[],p,[],hW',?_,?_,?_,h3.below.frame _,fun h=>by cases h⟩
  ·rw [hfn,hres]
   exact trodAll_mk1 (shut_bool hub _)
  ·rw [hfn]
   exact trodAll_below hl h3.below hr hA (fun x hx=>hlt x (by simpa using hx))
  ·rw [hvars,hfn];rfl
end
end Go.Abs
namespace Go.Abs
open Go Go.RowKit Go.ChangeShapes Go.Proofs
def AObj.beq:AObj→AObj→Bool
 | .free a,.free b=>Nat.beq a b
 | .box t r,.box u s=>Nat.beq t u&&AV.beqs r s
 | .rows z e r,.rows z' e' r'=>Nat.beq z z'&&Nat.beq e e'&&AV.beqss r r'
 | .spare e n,.spare e' n'=>Nat.beq e e'&&Nat.beq n n'
 |_,_=>false
theorem AObj.beq_eq {a b:AObj} (h:AObj.beq a b=true):a=b:=by
 cases a<;>cases b<;>simp only [AObj.beq,Bool.and_eq_true,Bool.false_eq_true] at h
 ·rw [Nat.eq_of_beq_eq_true h]
 ·rw [Nat.eq_of_beq_eq_true h.1,AV.beqs_eq _ _ h.2]
 ·rw [Nat.eq_of_beq_eq_true h.1.1,Nat.eq_of_beq_eq_true h.1.2,AV.beqss_eq _ _ h.2]
 ·rw [Nat.eq_of_beq_eq_true h.1,Nat.eq_of_beq_eq_true h.2]
def St.beq:St→St→Bool
 |[],[]=>true
 |a::r,b::s=>AObj.beq a b&&St.beq r s
 |_,_=>false
theorem St.beq_eq:∀{a b:St},St.beq a b=true→a=b
 |[],[],_=>rfl
 |a::r,b::s,h=>by
  simp only [St.beq,Bool.and_eq_true] at h
  rw [AObj.beq_eq h.1,St.beq_eq h.2]
 |[],b::s,h=>by simp [St.beq] at h
 |a::r,[],h=>by simp [St.beq] at h
structure Known where
 g:FuncId
 args:List AV
 st:St
 out:AOut×St
section
variable {P:Program} {H:Hints}
def PrimAll (P:Program) (H:Hints):Prop:=∀W bs,PrimOk P H W bs
theorem primAll_none (h:∀g,H.prim g=none):PrimAll P H:=fun W bs g F hF=>by rw [h g] at hF;cases hF
mutual
def AV.plain:AV→Bool
 | .agg cs=>AV.plains cs
 | .tup cs=>AV.plains cs
 | .ip row _=>AV.plains row
 | .iface _ a=>AV.plain a
 | .bool _ | .int .. | .str _ | .nilp | .nilm | .nilf | .nili | .nils=>true
 |_=>false
termination_by structural x=>x
def AV.plains:List AV→Bool
 |[]=>true
 |a::r=>AV.plain a&&AV.plains r
termination_by structural x=>x
end
theorem plains_get:∀{xa:List AV} {j:Nat} {a:AV},AV.plains xa=true→xa[j]?=some a→AV.plain a=true
 |[],j,a,h,ha=>by simp at ha
 |x::xa,0,a,h,ha=>by
  have h:(AV.plain x&&AV.plains xa)=true:=h
  rw [Bool.and_eq_true] at h
  simp at ha;subst ha;exact h.1
 |x::xa,j+1,a,h,ha=>by
  have h:(AV.plain x&&AV.plains xa)=true:=h
  rw [Bool.and_eq_true] at h
  exact plains_get h.2 (by simpa using ha)
theorem rep_plain {σ τ:Gh} (hI:τ.I=σ.I) {v:Value} {a:AV} (h:Rep P σ v a):AV.plain a=true→Rep P τ v a:=by
 induction h with
 |bool b=>exact fun _=>.bool b
 |int k n=>exact fun _=>.int k n
 |str s=>exact fun _=>.str s
 |nilp=>exact fun _=>.nilp
 |nilm=>exact fun _=>.nilm
 |nilf=>exact fun _=>.nilf
 |nili=>exact fun _=>.nili
 |nils=>exact fun _=>.nils
 |agg cs xa hs h1 h ih =>
  intro hp
  have hp:AV.plains xa=true:=hp
  exact .agg cs xa hs h1 fun j v a hv ha=>ih j v a hv ha (plains_get hp ha)
 |tup cs xa hs h ih =>
  intro hp
  have hp:AV.plains xa=true:=hp
  exact .tup cs xa hs fun j v a hv ha=>ih j v a hv ha (plains_get hp ha)
 |ip b x row c h1 h2 ih =>
  intro hp
  have hp:AV.plains row=true:=hp
  exact .ip b x row c (fun j a ha=>by rw [hI];exact h1 j a ha) fun j a v ha hv=>ih j a v ha (by rw [←hI];exact hv) (plains_get hp ha)
 |iface t v a h ih=>exact fun hp=>.iface t v a (ih hp)
 |sl=>intro hp;cases hp
 |ms=>intro hp;cases hp
 |ptr=>intro hp;cases hp
 |bp=>intro hp;cases hp
 |fn=>intro hp;cases hp
 |yld=>intro hp;cases hp
 |mp=>intro hp;cases hp
 |it=>intro hp;cases hp
 |dp=>intro hp;cases hp
 |slz=>intro hp;cases hp
theorem prim_closed {H0:Hints} (hP:ProgOk P H0) (hX:ExtOk P H0) (hm:P.follows .mixedOrders=true) (hM:PrimAll P H0) (hglob:∀g row,H0.glob g=some row→H.glob g=some row∧AV.plains row=true) {g:FuncId} {b:Bool} {s:St}
  (hrun:callW P H0 g [] []=some (.ret (.bool b),s)) {W:World} {bs:Nat} {σ:Gh} {st:St} {w:World} (hw:WF P W bs σ st w) (hg:GlobOk P H σ) (hsp:spId g=false:=by first | rfl | assumption):Calls P g #[] w (EndOk P W bs σ (.ret (.bool b)) st):=by
 let τ:Gh:={I:=σ.I,sh:=σ.sh,R:=fun _ _=>none,B:=fun _=>none,L:=fun _ _ _=>none,lo:=w.heap.size}
 have hτ:WF P w w.heap.size τ [] w:=by
  refine ⟨Below.refl _ _,Nat.le_refl _,hw.imm,hw.shp,fun o x hx=>by simp [St.get] at hx,fun o x hx=>by simp [St.get] at hx,fun o o' x x' b hx=>by simp [St.get] at hx,fun _ _ _=>rfl,fun _ _=>rfl,fun _ _ _ _=>rfl,rfl,fun b ob hb=>by (cases hb),fun o b hb=>by (cases hb)⟩
 have hgτ:GlobOk P H0 τ:=fun g row hr=>by
  obtain ⟨h1,h2⟩:=hglob g row hr
  exact rep_plain (σ:=σ) (τ:=τ) rfl (hg g row h1) h2
 have hc:=callW_prims hP hX hm (hM w w.heap.size) hrun hτ hgτ (vs:=[]) .nil
 refine hc.mono fun e w' he=>?_
 cases e with
 |panicked ch=>obtain ⟨a,v,σ',h1,_⟩:=he;cases h1
 |outgrown=>exact he.elim
 |returned v =>
  obtain ⟨a,σ',h1,h2,h3,h4⟩:=he
  cases h1
  cases h4
  exact ⟨_,σ,rfl,Gh.Le.refl σ,hw.grown h3.below,.bool b⟩
def sayB (b:Bool):List AV→St→Option (AOut×St)
 |[],st=>some (.ret (.bool b),st)
 |_,_=>none
theorem prim_sayB {H0:Hints} (hP:ProgOk P H0) (hX:ExtOk P H0) (hm:P.follows .mixedOrders=true) (hM:PrimAll P H0) (hglob:∀g row,H0.glob g=some row→H.glob g=some row∧AV.plains row=true) {g:FuncId} {b:Bool} {s:St}
  (hrun:callW P H0 g [] []=some (.ret (.bool b),s)) (hhas:Has P g) (W:World) (bs:Nat) (xa:List AV) (st:St) (r:AOut×St) (hr:sayB b xa st=some r) (hsp:spId g=false:=by first | rfl | assumption) :
  Has P g∧∀σ w vs,WF P W bs σ st w→GlobOk P H σ→Reps P σ vs xa→Calls P g vs.toArray w (EndOk P W bs σ r.1 r.2):=by
 refine ⟨hhas,fun σ w vs hw hg hs=>?_⟩
 cases xa with
 |cons a xa=>cases hr
 |nil =>
  cases hr
  have:vs=[]:=List.length_eq_zero_iff.1 hs.1
  subst this
  exact prim_closed hP hX hm hM hglob hrun hw hg
end
end Go.Abs
namespace Go.Abs
open Go
structure tryzFH where
 keep:List Nat
 homes:List (List Nat×Bool)
 ats:List (Nat×Nat×Bool)
 comps:List (Nat×Nat)
 keepObj:Bool
 frz:List Nat
 rck:List (Nat×List (Nat×Nat×Nat)×Bool)
 recov:Bool
 live:List (Nat×List Nat)
 loopKeep:Bool
 dyn:List Nat
 swp:List (Nat×Nat×Nat)
def tryzfh0:tryzFH:=⟨[],[],[],[],false,[],[],false,[],false,[],[]⟩
def tryzfhs:List tryzFH:=[
 tryzfh0,
 tryzfh0,
 ⟨[],[],[],[],false,[],[],false,[],true,[],[]⟩,
 ⟨[0,1,2,3,4,5,6,9],[],[],[(1,2)],false,[],[],false,[(3,[1])],true,[],[]⟩,
 ⟨[0,1,2],[],[],[(1,2)],false,[],[],false,[],true,[],[]⟩,
 ⟨[0,1,3,4,5,8],[],[],[(3,2)],false,[],[],false,[(5,[0,3])],true,[],[]⟩,
 ⟨[0,1,3,4,5,8],[],[],[(3,2)],false,[],[],false,[(5,[0,3])],true,[],[]⟩,
 ⟨[0,2,3,6,7,10,24,25,26,27],[],[],[],false,[],[],false,[(5,[0]),(7,[0,24,25,26]),(8,[0,24,25,26]),(10,[0,24,25,26]),(11,[0])],true,[],[]⟩,
 ⟨[0,2],[],[],[],false,[],[],false,[],true,[],[]⟩,
 ⟨[0,2,4],[],[],[],false,[2],[],false,[(3,[0])],true,[],[]⟩,
 ⟨[0,2,4],[],[],[],false,[2],[],false,[(3,[0])],true,[],[]⟩,
 ⟨[0,2,4],[],[],[],false,[],[],false,[(3,[0,2])],true,[],[]⟩,
 ⟨[0,2,4],[],[],[],false,[2],[],false,[(3,[0])],true,[],[]⟩,
 ⟨[0,1,2,3,4,5,17],[],[],[],false,[],[],false,[(4,[1])],true,[],[]⟩,
 ⟨[0,1,2,4,5,7,12,23],[],[],[(2,2)],false,[],[],false,[(3,[1,2]),(4,[1,2,5]),(6,[1,2,5]),(5,[1,2,5]),(8,[])],true,[],[]⟩,
 ⟨[0,1,3,4,5,6,7,8,12,33,38],[],[],[(3,2)],false,[],[(7,([],true)),(12,([],true))],false,[(4,[0,3,4]),(9,[0,4,6,7]),(12,[0,4,6,7,8])],true,[],[]⟩,
 ⟨[0,1,4,5,6,7,8,11,26],[([38],false)],[],[],false,[4],[],false,[(5,[0,1]),(7,[0,6,7]),(9,[0,6,7]),(8,[0,6,7]),(10,[6])],true,[],[]⟩,
 ⟨[0,1,4,5,7,8,11,17,28,37,38,39,40],[],[(57,(54,false))],[],false,[],[],false,[(7,[0,1]),(9,[0,1]),(12,[0,5,37,38,39]),(13,[0,5,37,38,39]),(15,[0,5,37,38,39]),(16,[0,5])],true,[],[]⟩,
 ⟨[0,2,3,4,6,13,14,15],[],[],[],false,[2],[],false,[(3,[0]),(5,[3,13,14]),(6,[3,13,14]),(8,[3,13,14]),(9,[3])],true,[],[]⟩,
 ⟨[0,2,3,5],[],[],[],false,[2],[],false,[(3,[0])],true,[],[]⟩,
 ⟨[0,2,4],[],[],[],false,[],[],false,[(3,[0,2])],true,[],[]⟩,
 ⟨[0,2,4],[],[],[],false,[2],[],false,[(3,[0])],true,[],[]⟩,
 ⟨[0,1,2,4,5,8,9,10,11,12,13,14,16,24,32,44,45,46,64,65,66,67],[],[(81,(77,false))],[(2,4),(38,5)],true,[],[],false,[(4,[1,2]),(7,[1,2,9]),(9,[11,44,45]),(10,[11,44,45]),(14,[11,14,44,45,64,65,66]),(15,[11,14,44,45,64,65,66]),(17,[11,14,44,45,64,65,66]),(18,[11,14,44,45]),(19,[11,44,45]),(20,[11])],false,[],[]⟩,
 ⟨[0],[],[],[(0,4)],false,[],[],false,[],true,[],[]⟩,
 ⟨[0,2],[],[],[(2,2)],false,[],[],false,[],true,[],[]⟩,
 ⟨[0,1,2,3,4,5,6,7,8,11,14,17,30],[],[],[(1,2)],false,[],[],false,[(3,[2,3]),(5,[2,3,4,5]),(14,[2])],true,[],[]⟩,
 ⟨[0],[],[],[],false,[],[],true,[],true,[],[]⟩,
 ⟨[0,1,4,5,6,8,15],[],[],[],false,[],[],false,[(3,[0,1]),(6,[1,5])],true,[],[]⟩,
 ⟨[0,1,3,4],[],[],[(3,2),(16,3)],true,[],[(1,([(5,(0,1)),(6,(0,1))],true))],false,[],true,[],[]⟩,
 ⟨[0,1,2,6,7,8,9,10,11,12,51,52,53,56],[],[],[(31,2),(33,2),(36,2)],true,[],[(3,([],true)),(10,([],true)),(13,([(3,(0,1)),(7,(0,1)),(16,(0,1))],false))],false,[(5,[0,1,2,7,8,9,10,51,52]),(6,[0,1,2,7,8,9,10,51,52]),(10,[0,1,2,7,8,9,10,11,12,51,52]),(11,[0,1,2,7,8,9,10,51,52]),(12,[0,8,9,10])],true,[],[]⟩,
 ⟨[0,1,2,3,8,9],[],[],[],false,[],[],false,[],true,[],[]⟩,
 ⟨[0,1,4,6,7,8,9,10,34],[],[],[],false,[],[],false,[(2,[0,7,8,9]),(3,[0,7,8,9]),(6,[0,7,8,9]),(7,[])],true,[],[]⟩,
 ⟨[0,1,4,5,25,51],[],[],[],false,[],[(1,([],true)),(3,([],true)),(6,([],true))],false,[(5,[0,4,5]),(8,[4])],true,[],[]⟩,
 ⟨[0,1,2,6,7,21],[([11],false)],[],[],false,[6],[],false,[(3,[0,2,7]),(5,[0,2,7]),(4,[0,2,7]),(6,[2])],true,[],[]⟩,
 ⟨[0,2,3,9],[],[],[],false,[],[(3,([],true))],false,[(1,[0,2,3]),(3,[0,2,3]),(2,[0,2,3])],true,[],[]⟩,
 ⟨[0,2,4],[([7],false)],[],[],false,[2],[],false,[(3,[0])],true,[],[]⟩,
 ⟨[0,2,4],[([7],false)],[],[],false,[2],[],false,[(3,[0])],true,[],[]⟩,
 ⟨[0,2,4],[([7],false)],[],[],false,[2],[],false,[(3,[0])],true,[],[]⟩,
 ⟨[0,1,4,5,6,7,17],[([51],false)],[],[],false,[4],[(6,([(4,(0,2)),(8,(0,2))],false))],false,[(3,[0,5,6]),(5,[0,5,6]),(4,[0,5,6]),(7,[5])],true,[],[]⟩,
 ⟨[0,1,2,3,4,5,6,7,8,9,10,11,20,32,48,49,50,82],[],[],[(1,4),(13,1),(75,1)],false,[],[(12,([],true))],false,[(5,[1,5]),(7,[1,5]),(10,[1,5,48,49]),(11,[1,5,48,49]),(16,[1,5,48,49]),(17,[])],false,[],[]⟩,
 ⟨[0,2,3,4,5,11,25],[],[(35,(31,false))],[(15,2)],true,[],[(4,([(3,(0,1))],true))],false,[(3,[0]),(6,[4,5]),(8,[4,5]),(7,[4,5]),(9,[4])],true,[],[]⟩,
 ⟨[0,1,2,3,5,7,8,17,18,19,20,32,33,34,35,48,49,50],[],[(28,(23,false)),(69,(65,false))],[(1,4),(2,4),(3,4),(7,2)],false,[],[(1,([(4,(0,2))],false)),(5,([(1,(0,1))],true)),(10,([(4,(0,1))],false)),(14,([(1,(0,1))],true))],false,[(3,[1,2,3,17,18,19]),(4,[1,2,3,17,18,19]),(6,[1,2,3,17,18,19]),(7,[1,2,3]),(8,[2,3,32,33,34]),(9,[2,3,32,33,34]),(12,[2,3,7,32,33,34,48,49]),(13,[2,3,7,32,33,34,48,49]),(15,[2,3,7,32,33,34,48,49]),(16,[2,3,7,32,33,34]),(17,[2,3,32,33,34]),(18,[2,3])],false,[],[]⟩,
 ⟨[0,1,2,3,4],[],[],[],true,[],[],false,[],true,[],[]⟩,
 ⟨[0,2,3,5,6,75,98,99,100,101,116],[],[],[],false,[],[(7,([],true))],false,[(6,[0,6]),(9,[0]),(11,[0,3,98,99,100]),(12,[0,3,98,99,100]),(16,[0,3,98,99,100]),(17,[0])],true,[],[]⟩,
 ⟨[0,1,2,3,4,10,11,12,13,15,28,38,39,40,41,51,92,101,112,132,167,194,222,266,289,322,338,397,400,445,448,465,466,468,499],[],[(210,(206,false)),(217,(213,false)),(335,(328,false)),(468,(455,false)),(495,(483,false))],[(157,2),(71,2),(192,2)],false,[],[(19,([],true)),(11,([],true)),(12,([],true)),(15,([],true)),(23,([],true)),(26,([(12,(0,1))],false)),(29,([],true)),(32,([],true)),(34,([],true)),(30,([],true)),(37,([],true)),(40,([],true)),(41,([],true)),(46,([],true)),(47,([(3,(0,1))],true)),(50,([],true)),(51,([(3,(0,1)),(7,(0,1)),(17,(0,1))],false)),(53,([(3,(0,2)),(7,(0,1)),(11,(0,1))],true)),(55,([],true))],false,[(10,[0,1,2,3,4,10,28,51]),(29,[0,2,3,4,10,28,222]),(4,[0,38,39,40]),(5,[0,38,39,40]),(7,[0,38,39,40]),(47,[0,10]),(35,[0,10]),(26,[0,1,11]),(20,[0,10])],true,[],[(50,(1,2))]⟩,
 ⟨[0,2],[],[],[],true,[],[(1,([],true))],false,[],true,[],[]⟩,
 ⟨[0,1,5,6,7,8,9,12,23],[],[],[],false,[],[(6,([],true))],false,[(1,[0,6,7,8]),(2,[0,6,7,8]),(8,[0,6,7,8])],true,[],[]⟩,
 ⟨[0,1,5,6,7,8,9,10,11,23,35],[],[],[],false,[],[(5,([],true))],false,[(1,[0,8,9,10]),(2,[0,8,9,10]),(8,[0,8,9,10])],true,[],[]⟩,
 ⟨[0,1,2,7,8,10,11,12,13,33,38],[],[],[],false,[],[(3,([(3,(0,1))],true))],false,[(1,[0,2,10,11,12]),(2,[0,2,10,11,12]),(9,[0,2,10,11,12])],true,[],[]⟩,
 ⟨[0,1,2,3,8,9,10,12,14,19,30,47,68,87],[],[],[],false,[],[(9,([],true)),(12,([],true)),(15,([],true))],false,[(2,[0,1,2,3,8,9]),(4,[0,1,2,3,8,9]),(7,[0,1,2,3,8,9,10]),(13,[0,1,2,3,9,10]),(3,[0,1,2,3,8,9])],true,[],[]⟩,
 ⟨[0,1,5,6,7,9,11,12,13,15,17,18,19,20,21,29,38,56,57,58,59,71,72,73,74,91,112,113,114,115,125],[],[],[],false,[],[(5,([],true)),(6,([],true)),(18,([],true)),(26,([],true))],false,[(1,[0,18,19,20]),(2,[0,18,19,20]),(5,[0,5,6,18,19,20]),(7,[0,5,6,18,19,20]),(9,[0,5,6,7,18,19,20,56,57,58]),(10,[0,5,6,7,18,19,20,56,57,58]),(12,[0,5,6,7,18,19,20,56,57,58]),(13,[0,5,6,7,18,19,20]),(14,[0,5,6,7,18,19,20,71,72,73]),(15,[0,5,6,7,18,19,20,71,72,73]),(19,[0,5,6,7,11,18,19,20,71,72,73]),(20,[0,5,6,7,18,19,20,71,72,73]),(21,[0,5,6,7,18,19,20]),(22,[0,5,7,18,19,20,112,113,114]),(23,[0,5,7,18,19,20,112,113,114]),(27,[0,5,7,18,19,20,112,113,114]),(28,[0,5,18,19,20]),(30,[0,18,19,20])],false,[],[]⟩,
 ⟨[0,2,3,4,5,6,7,8,9,16,17,18,19,29,38,39,40,41,59,68,69,70,71,87],[],[],[(9,2)],false,[],[],false,[(2,[0,16,17,18]),(3,[0,16,17,18]),(6,[0,16,17,18]),(7,[0]),(8,[0,38,39,40]),(9,[0,38,39,40]),(12,[0,38,39,40]),(13,[0]),(14,[68,69,70]),(15,[68,69,70]),(18,[68,69,70]),(19,[])],false,[],[]⟩,
 ⟨[0,2,3,4,5,6,7,8,22,43,44,45,60,64,86,103,104,105,106,139],[],[],[],false,[],[(3,([],true))],false,[(5,[0]),(6,[0,43,44]),(7,[0,43,44]),(11,[0,43,44]),(12,[0]),(16,[0]),(17,[0,103,104,105]),(18,[0,103,104,105]),(21,[0,103,104,105]),(22,[])],true,[],[]⟩,
 ⟨[0],[],[],[(0,1)],false,[],[],false,[],true,[],[]⟩,
 ⟨[0,2,4],[([7],false)],[],[],false,[2],[],false,[(3,[0])],true,[],[]⟩,
 ⟨[0,2,3,5,6,7,8,9],[([23],false)],[],[(5,2)],false,[2],[(5,([(4,(0,1))],false))],false,[(3,[3,6,7,8]),(4,[3,6,7,8]),(7,[3,6,7,8]),(8,[3])],false,[],[]⟩,
 ⟨[0,2,4],[([7],false)],[],[],false,[2],[],false,[(3,[0])],true,[],[]⟩,
 ⟨[0,2,4],[([7],true)],[],[],true,[],[],false,[(3,[0])],true,[],[]⟩,
 ⟨[0,1,2,4,5,6,10,19,40,68],[([76,16],true)],[],[],false,[],[(4,([],true)),(6,([],true))],false,[(1,[0,1,2]),(2,[0,2,4]),(3,[0,2,4]),(6,[0,2,4,5]),(9,[0,2,4,6])],false,[],[]⟩,
 ⟨[0,2,4],[],[],[],false,[],[],false,[],true,[],[]⟩,
 ⟨[0,1,16],[],[],[],false,[],[],false,[],true,[],[]⟩,
 ⟨[0,1,2,3,4,11],[],[],[(1,2)],false,[],[],false,[(4,[3])],true,[],[]⟩,
 ⟨[0,1,4],[],[],[(4,2)],false,[],[(1,([],true))],false,[],true,[],[]⟩,
 ⟨[0,1,4],[],[(13,(10,false))],[],false,[],[],false,[],true,[],[]⟩,
 ⟨[0,1,2,3,4,16],[],[],[(1,2)],false,[],[],false,[(3,[1,4]),(6,[1])],true,[],[]⟩,
 ⟨[0,2,3,31],[],[],[],true,[],[(2,([],true))],false,[(4,[0])],true,[],[]⟩,
 ⟨[0,2,3,4,23,24,25],[],[(40,(30,false))],[(18,2)],true,[],[(1,([],true)),(5,([(4,(0,1))],true))],false,[(3,[0,3,23,24]),(4,[0,3,23,24]),(6,[0,3,23,24]),(7,[3])],false,[],[]⟩,
 ⟨[0,2,3,5,9,10,11,12],[],[],[],false,[],[],false,[(3,[3,9,10,11]),(4,[3,9,10,11]),(6,[3,9,10,11]),(7,[3])],true,[],[]⟩,
 ⟨[0,1,2,3,4,5,6,7,10,11,12,14,15,32,41,42,60,80,85,101,106,107,108,109,129],[([120],false)],[],[(10,1)],false,[],[(2,([],true)),(3,([(0,(0,1)),(3,(0,1))],true)),(10,([],true)),(11,([],true)),(12,([],true)),(13,([],true)),(16,([(0,(0,2)),(1,(0,1)),(4,(0,1)),(5,(0,1)),(8,(0,1))],true))],false,[(4,[3,5,6,7]),(7,[3,5,6,7,10]),(20,[5,6,7,11,12,106,107,108]),(21,[5,6,7,11,12,106,107,108]),(23,[5,6,7,11,12,106,107,108]),(24,[5,6,7,11,12]),(13,[3,5,6,10,11]),(15,[5,6,11])],true,[],[]⟩,
 ⟨[0,1,3,4,5,6,8,13,21],[],[],[(3,2)],false,[],[(6,([(5,(0,1)),(6,(0,1))],false))],false,[(3,[0,3]),(6,[0,3,6]),(8,[0,3])],true,[],[]⟩,
 ⟨[0,2,3,5,22,23,24,25],[],[(33,(28,false))],[(2,2),(3,2)],false,[],[(1,([(3,(0,1)),(7,(0,1)),(11,(0,1))],true)),(5,([(1,(0,1))],true))],false,[(3,[2,3,22,23,24]),(4,[2,3,22,23,24]),(6,[2,3,22,23,24]),(7,[2,3])],true,[],[]⟩,
 ⟨[0,1,2,6,8,9,26,27,28,29],[],[],[],false,[],[],false,[(3,[0,1,26,27,28]),(4,[0,1,26,27,28]),(6,[0,1,26,27,28])],true,[],[]⟩,
 ⟨[0,1,2,3,8,9,10,13,31,35,38,50,61,66],[],[],[],false,[],[],false,[(11,[0,1,2,3]),(12,[0,1,2,3,9]),(14,[0,1,2,3,9]),(13,[0,1,2,3,9]),(16,[0,1,2,3]),(18,[0,1,2,3])],true,[],[]⟩,
 ⟨[0,1,2,6,7,8,11,28,39,42,48],[],[],[],false,[],[],false,[(7,[0,1,2]),(15,[0])],true,[],[]⟩,
 ⟨[0,1,2,6,7,10,16,21],[],[],[],false,[],[],false,[(9,[0,1,2])],true,[],[]⟩,
 ⟨[0,1,2,3,8,9,10,11,12,17,26,40],[],[],[],false,[],[],false,[(4,[0,1,2,3]),(6,[0,1,2,3]),(11,[0])],true,[],[]⟩,
 ⟨[0,1,2,6,7,8,9,10,15,25],[],[],[],false,[],[],false,[(4,[0,1,2]),(7,[0,1,8])],true,[],[]⟩,
 ⟨[0,2,4],[],[],[],false,[],[],false,[],true,[],[]⟩,
 ⟨[0,1,2,6,7,8,9,10,13,27,28,29,44,45,46,52,63],[],[],[(22,2)],false,[],[],false,[(3,[0,1,2]),(5,[0,7,27,28]),(6,[0,7,27,28]),(8,[0,7,27,28]),(9,[0,7]),(11,[0,7,44,45]),(12,[0,7,44,45]),(16,[0,7,44,45]),(17,[0,7]),(19,[])],true,[],[]⟩,
 ⟨[0,2],[],[],[],false,[],[],false,[],true,[],[]⟩,
 ⟨[0,1,2,6,8,13,15,16,17,18,54,56,62,67,71],[],[],[],false,[],[(6,([],true))],false,[(3,[0,1,2]),(4,[0,1,2,15,16,17]),(5,[0,1,2,15,16,17]),(8,[0,1,2,15,16,17]),(9,[0,1,2]),(17,[0,1,2])],false,[],[]⟩,
 ⟨[0,2],[],[],[],true,[],[(1,([],true))],false,[],true,[],[]⟩,
 ⟨[0,2,3,11,20],[],[],[],false,[],[],false,[(6,[0,3])],true,[],[]⟩,
 ⟨[0,1,4],[],[],[],false,[],[],false,[],true,[],[]⟩,
 ⟨[0,2,3,4,5,7,9,10,11,15,24],[],[],[],false,[],[],false,[(2,[0,9]),(3,[0,9,10]),(8,[])],true,[],[]⟩,
 ⟨[0],[],[],[],false,[],[],false,[],true,[],[]⟩,
 ⟨[0,1,2,3,5,6,8,11,12,17],[],[],[(1,2)],false,[],[],false,[(7,[]),(12,[])],true,[],[]⟩,
 ⟨[0,1,4,5,6,7,8,9,21,29,42,47,56,63,76,88,103,112,119,128,133,144,147,153,155],[],[],[(4,2),(8,2),(9,2)],false,[],[(19,([],true)),(21,([],true)),(23,([(6,(0,1)),(8,(0,1)),(9,(0,1)),(10,(0,1))],false)),(25,([(2,(0,1))],true)),(34,([(4,(0,2))],false)),(10,([(4,(0,1)),(5,(0,1))],false))],false,[(3,[0,1,4,5]),(5,[0,1,4,5]),(15,[0,1,4,5,6,7,29,47]),(34,[0,1,4,5,6,7,29,133]),(41,[0,1,4,5,6,7]),(4,[0,1,4,5]),(43,[0,4])],false,[],[]⟩,
 ⟨[0,1,4,5,10,12,13,14,24],[],[],[],false,[],[(6,([],true))],false,[(3,[0,1]),(4,[0,1,12,13]),(5,[0,1,12,13]),(8,[0,1,12,13]),(9,[])],true,[],[]⟩,
 ⟨[0,1,4,5,10,12,13,14,24],[],[],[],false,[],[(6,([],true))],false,[(3,[0,1]),(4,[0,1,12,13]),(5,[0,1,12,13]),(8,[0,1,12,13]),(9,[])],true,[],[]⟩,
 ⟨[0,2,3,5,6,7,8,9],[],[],[],false,[],[],false,[(3,[3,6,7,8]),(4,[3,6,7,8]),(6,[3,6,7,8]),(7,[3])],true,[],[]⟩,
 ⟨[0,1,4],[],[],[],true,[],[],false,[(3,[])],true,[],[]⟩,
 ⟨[0,1,2,5],[],[],[(1,2)],false,[],[],false,[(3,[1])],true,[],[]⟩,
 ⟨[0,1,2,6],[],[(20,(17,false))],[],false,[],[],false,[],true,[],[]⟩,
 ⟨[0,1,2,3],[],[],[],false,[],[(0,([(0,(0,2)),(1,(0,1)),(4,(0,1)),(5,(0,1)),(8,(0,1))],true))],false,[],true,[],[]⟩,
 ⟨[0,1,2,3,4,5,6,8,9,10,11,12,13,14,15,16,17,18,19,20,21,22,23,24,36,40,41,42,43,60,64,65,66,67,76,77,78,79,95,113,136,137,138,139,152],[([117],false),([132],false)],[],[(8,2),(11,2),(18,2)],false,[],[(8,([(0,(0,1)),(3,(0,1)),(4,(0,1))],false)),(26,([(0,(0,1)),(3,(0,1)),(4,(0,1))],false))],false,[(4,[3,4,5,6,8]),(6,[3,4,5,6,8,9,40,41,42]),(7,[3,4,5,6,8,9,40,41,42]),(9,[3,4,5,6,8,9,40,41,42]),(10,[3,4,5,6,8]),(13,[3,4,5,6,8,12,64,65,66]),(14,[3,4,5,6,8,12,64,65,66]),(16,[3,4,5,6,8,12,64,65,66]),(17,[3,4,5,6,8,12]),(20,[3,4,5,6,12,15,16,76,77,78]),(21,[3,4,5,6,12,15,16,76,77,78]),(26,[3,4,5,6,12,15,16,17,18,19,20,21,76,77,78]),(30,[3,4,5,6,12,15,16,76,77,78]),(31,[4,15,16]),(33,[4,22,136,137,138]),(34,[4,22,136,137,138]),(38,[4,22,136,137,138])],false,[],[]⟩,
 ⟨[0,2],[],[],[],false,[],[],false,[],true,[],[]⟩,
 ⟨[0,1,4,5,6,7,88,89,90],[],[],[],false,[],[(1,([],true)),(2,([],true)),(3,([(3,(0,1))],true)),(4,([(3,(0,1)),(8,(0,1)),(13,(0,1)),(18,(0,1)),(22,(0,1))],true))],false,[(7,[0,1,5,88,89]),(8,[0,1,5,88,89]),(11,[0,1,5,88,89]),(12,[5])],true,[],[]⟩,
 ⟨[0,1,4],[],[],[],false,[],[],false,[],true,[],[]⟩,
 ⟨[0,1,2,6],[],[],[],false,[],[],false,[],true,[],[]⟩,
 ⟨[0,1,2,3,8,9,38,66],[],[],[],false,[],[(0,([],true)),(7,([],true))],false,[(6,[0,2,8,9])],true,[],[]⟩,
 ⟨[0,2,4],[],[],[],false,[],[],false,[],true,[],[]⟩,
 ⟨[0,1,4,5,8,14],[],[],[],false,[],[],false,[(7,[])],true,[],[]⟩,
 ⟨[0,2],[],[],[],false,[],[],false,[],true,[],[]⟩,
 ⟨[0,1,2,6,7],[],[],[],false,[],[],false,[],true,[],[]⟩,
 ⟨[0,1,2,6,7,8,9,16,22,31,68],[([25,40],false)],[],[],false,[6],[(11,([],true)),(15,([],true))],false,[(5,[0,1,2,7]),(8,[0,1,2,7,8]),(13,[0,1,2,7,8]),(18,[0,1,2,7,8])],true,[],[]⟩,
 ⟨[0,1,2,6,7,16],[([26],false)],[],[],false,[6],[(5,([],true))],false,[(4,[0,1,2])],true,[],[]⟩,
 ⟨[0,1,4,5,6,7,8,9,30,33,37,77,97,102,103,111,119,128,140],[],[],[],false,[],[(1,([(3,(0,1)),(5,(0,1)),(6,(0,1)),(10,(0,2)),(12,(0,2)),(13,(0,2))],true)),(7,([],true)),(8,([],true)),(10,([],true))],false,[(9,[0,1,5,6,7,8,37]),(14,[0,1,5,6,8]),(18,[0,1,5,6,8,9,102,103]),(23,[0,1,5,6,8,9]),(25,[9]),(27,[])],true,[],[]⟩,
 ⟨[0,2,3,6],[],[],[],false,[],[],false,[(4,[2,3])],true,[],[]⟩,
 ⟨[0,1,2,5,6,7,9,20,22,23,24,25,42,47,48,72,96,127,147,164,195,215,229,234],[],[],[],false,[],[(7,([],true)),(12,([],true)),(14,([],true)),(16,([],true)),(18,([],true)),(20,([],true)),(22,([],true)),(24,([],true)),(27,([],true)),(32,([],true))],false,[(4,[0,5,7]),(5,[0,5,7,22,23,24]),(6,[0,5,7,22,23,24]),(9,[0,5,7,22,23,24]),(10,[0,5,7]),(27,[5,7,47,215]),(30,[5,7,47,229]),(33,[])],false,[],[]⟩,
 ⟨[0,2,3,5,9,10,20,28,41,46,47,48,49],[([56],false)],[],[],false,[2],[(9,([],true))],false,[(5,[0,9,10]),(13,[3,46,47,48]),(14,[3,46,47,48]),(16,[3,46,47,48]),(17,[3]),(18,[])],true,[],[]⟩,
 ⟨[0,1,2,6,7,8,24,25,30,56,100,101,116],[],[],[],false,[],[(1,([],true)),(9,([],true)),(15,([(3,(0,1))],true))],false,[(9,[0,1,2,24,56]),(16,[])],true,[],[]⟩,
 ⟨[0,1,4,5,6,7,10,11,12,13,66],[],[],[],false,[],[(5,([],true))],false,[(3,[0,5,10,11,12]),(4,[0,5,10,11,12]),(7,[0,5,10,11,12]),(8,[])],false,[],[]⟩,
 ⟨[0,1,4,6,11,19,20,21,22,32],[],[],[],false,[],[(6,([],true))],false,[(3,[0,1]),(4,[0,19,20,21]),(5,[0,19,20,21]),(8,[0,19,20,21]),(9,[])],false,[],[]⟩,
 ⟨[0,1,2,7,8,10,11,12,13,45,66,67,85,111,139,144,159],[],[(75,(72,false))],[],false,[],[(3,([(3,(0,1)),(4,(0,1)),(5,(0,1)),(11,(0,1)),(15,(0,1)),(16,(0,1)),(23,(0,1))],true)),(7,([],true)),(15,([],true)),(17,([],true)),(24,([],true)),(25,([(7,(0,1))],false))],false,[(1,[0,1,2,10,11,12]),(2,[0,1,2,10,11,12]),(7,[0,1,2,7,8,10,11,12]),(8,[0,1,2,10,11,12]),(9,[0,1,2]),(15,[0,1,2,66,85])],false,[],[]⟩,
 ⟨[0,2,3,10],[],[],[],false,[],[],false,[],true,[],[]⟩,
 ⟨[0,2],[],[],[],false,[],[],false,[],true,[],[]⟩,
 ⟨[0,1,3],[],[(11,(6,true))],[(3,2)],false,[],[(1,([(8,(1,2))],true))],false,[],true,[],[(1,(9,12))]⟩,
 ⟨[0,2],[],[],[(2,2)],false,[],[],false,[],true,[],[]⟩,
 ⟨[0,2],[],[],[(2,2)],false,[],[],false,[],true,[],[]⟩,
 ⟨[0,2],[],[],[(2,2)],false,[],[],false,[],true,[],[]⟩,
 ⟨[0,1,2,4,7],[],[],[(2,2),(4,2)],false,[],[],false,[(3,[1,2,4])],true,[],[]⟩,
 ⟨[0,2,3],[],[],[(2,2),(3,2)],false,[],[(2,([],true))],false,[],true,[],[]⟩,
 ⟨[0,1,3,4,5,6,7,8,11,12,19,26],[],[],[(3,2),(4,2)],false,[],[],false,[(6,[0,3,4,11,12]),(9,[0,3,4]),(12,[0,3,4])],true,[],[]⟩,
 ⟨[0,1,2,3,4],[],[],[(1,2),(2,2)],false,[],[],false,[],true,[],[]⟩,
 ⟨[0,2],[],[],[(2,2)],false,[],[(1,([],true))],false,[],true,[],[]⟩,
 ⟨[0,1,2,4,5,6,7,8,9,10,11,12,14,16,18,20,22,24,26,28,30,32,41,45,52,59,66,73,79,86],[],[],[(4,2),(5,2),(6,2)],false,[],[(24,([(2,(0,1))],false))],false,[(27,[6,8]),(42,[4,5,6,7])],true,[],[]⟩,
 ⟨[0,2,3,6],[],[],[],false,[],[],false,[(5,[])],true,[],[]⟩,
 ⟨[0,1,2,3],[],[(21,(7,false))],[],false,[],[(0,([(0,(0,3)),(1,(0,2)),(4,(0,2)),(14,(0,1))],false))],false,[],true,[],[]⟩,
 ⟨[0,1,2,4],[],[],[(2,2)],false,[],[],false,[],true,[],[]⟩,
 ⟨[0,1,2,3],[],[(20,(7,false))],[],false,[],[(0,([(0,(0,2)),(1,(0,1)),(4,(0,1))],true))],false,[],true,[],[]⟩,
 ⟨[0,2,3,4,6,7,8,9,12,13,14,15,22,23,24,25,56],[([60],false)],[],[],false,[2],[(12,([],true))],false,[(4,[0,3,4,12,13,14]),(5,[0,3,4,12,13,14]),(7,[0,3,4,12,13,14]),(8,[0,3,4]),(10,[0,4,7,22,23,24]),(11,[0,4,7,22,23,24]),(15,[0,4,7,22,23,24]),(16,[7])],true,[],[]⟩,
 ⟨[0,1,4,5,6,7,9,10,11,40],[],[],[],false,[],[],false,[(2,[0,1,9,10]),(3,[0,1,9,10]),(8,[0,1,9,10]),(9,[0])],true,[],[]⟩,
 ⟨[0,1,2,6,7,8,9,10,11,17,31],[],[],[],false,[],[],false,[(3,[0,1,2,8,9,10]),(4,[0,1,2,8,9,10]),(8,[0,1,2,8,9])],false,[],[]⟩,
 ⟨[0,1,2,4],[],[],[],false,[],[],false,[],true,[],[]⟩,
 ⟨[0,1,4],[],[],[],false,[],[],false,[],true,[],[]⟩,
 tryzfh0,
 ⟨[0,1],[],[],[],false,[],[],false,[],true,[],[]⟩,
 ⟨[0,2,3,4,11,15,22],[],[],[],false,[],[],false,[(8,[0,15]),(11,[])],true,[],[]⟩,
 ⟨[0,1,2,3,12,24],[],[],[],false,[],[],false,[(7,[1,24]),(8,[1])],true,[],[]⟩,
 ⟨[0,2],[],[],[],false,[],[],false,[],true,[],[]⟩,
 ⟨[0,1,2,6,14],[],[],[],false,[],[],false,[(3,[0,1,2])],true,[],[]⟩,
 ⟨[0,1,2,6,7,9,10,11,20,29,35,69],[],[],[],false,[],[],false,[(2,[0,1,2,9,10]),(3,[0,1,2,9,10]),(11,[0,1,2,7,9,10]),(14,[0,1,2,9,10]),(15,[])],true,[],[]⟩,
 ⟨[0,1,3,5,6,7,8,9,13],[],[],[],false,[],[],false,[(2,[1,6,7,8]),(3,[1,6,7,8]),(6,[1,6,7,8]),(7,[1])],true,[],[]⟩,
 ⟨[0,1,2,6],[],[],[],false,[],[],false,[],true,[],[]⟩,
 ⟨[0,2],[],[],[],false,[],[],false,[],true,[],[]⟩,
 ⟨[0,2,3,5,9,10,20,21,22,23,27,35,43],[([32],false)],[],[],false,[2],[(4,([],true)),(14,([],true))],false,[(5,[3,20,21,22]),(6,[3,20,21,22]),(9,[3,20,21,22]),(10,[3]),(15,[])],true,[],[]⟩,
 ⟨[0,2,3,4,5,6,7,8,9,10,11,12,16,23,45,57,59,75,77,98],[],[],[],false,[],[],false,[(4,[0,4]),(9,[0,4,5,6]),(13,[0,5,8,9]),(16,[0,5,8,10]),(18,[0,5,8,10]),(21,[0,5,8,10,11]),(23,[0,5,10,11]),(26,[5,10,11,12])],true,[],[]⟩,
 ⟨[0,2],[],[],[],false,[],[],false,[],true,[],[]⟩,
 ⟨[0,1,2,4,5,8,9,10,18],[],[],[(2,2),(4,2)],false,[],[],false,[(2,[1,2,4,8,9]),(3,[1,2,4,8,9]),(6,[1,2,4,8,9]),(7,[4])],true,[],[]⟩,
 ⟨[0,1,2,3,4,11],[],[],[(1,2)],false,[],[],false,[(4,[3])],true,[],[]⟩,
 ⟨[0,2,4,5,6,13],[],[],[],false,[],[],false,[(1,[0,4,5]),(2,[0,4,5]),(5,[0,4,5])],true,[],[]⟩,
 ⟨[0,1,2,6,7,8,17,23,32,38,47],[],[],[],false,[],[],false,[(13,[])],true,[],[]⟩,
 ⟨[0,1,4,5,6,10,13],[],[],[(4,2)],false,[],[],false,[(8,[4])],true,[],[]⟩,
 ⟨[0,2,3,5],[],[],[],false,[],[],false,[(3,[0])],true,[],[]⟩,
 ⟨[0,1,4,5,6,7,8,9,23,26,34],[],[],[],false,[],[],false,[(6,[6,7,8,9]),(10,[7])],true,[],[]⟩,
 ⟨[0,1,4,5,6,9],[],[],[],false,[],[],false,[(5,[0,1])],true,[],[]⟩,
 ⟨[0,1,4,5,7],[],[],[],false,[],[],false,[(3,[0,1])],true,[],[]⟩,
 ⟨[0,1,4,5,6,17],[],[],[],false,[],[],false,[(4,[6])],true,[],[]⟩,
 ⟨[0,1,4,5,6,17],[],[],[],false,[],[],false,[(4,[6])],true,[],[]⟩,
 ⟨[0,1,4,5,6,8,18],[],[],[],false,[],[],false,[(3,[0,1]),(6,[6])],true,[],[]⟩,
 ⟨[0,1,4,5,7],[],[],[],false,[],[],false,[(3,[0,1])],true,[],[]⟩,
 ⟨[0,1,4,5],[],[],[],false,[],[],false,[],true,[],[]⟩,
 ⟨[0,1,4,5],[],[],[],false,[],[],false,[],true,[],[]⟩,
 ⟨[0,1,4,5],[],[],[],false,[],[],false,[],true,[],[]⟩,
 ⟨[0,1,2,3,4,5,19],[],[],[(2,2),(3,2)],false,[],[],false,[(5,[])],true,[],[]⟩,
 ⟨[0,1,2,3,4,5,6,7,8,9,14,42,46,47,49,51,53,55,93,104,109,110,111,131],[([128],false)],[],[(2,2),(3,2)],false,[],[(3,([],true)),(5,([],true)),(14,([],true)),(15,([],true)),(16,([],true)),(17,([],true)),(19,([],true)),(24,([],true))],false,[(2,[5]),(3,[5]),(7,[5,6,7]),(10,[5,6,7,8,46]),(11,[5,6,7,8,46]),(12,[5,6,7,8,46]),(13,[5,6,7,8,46]),(14,[5,6,7]),(15,[5,6,7]),(16,[5,6,7]),(17,[5,6,7,8]),(19,[5,6,7,8]),(21,[5,6,7,8]),(22,[5,6,7,8,109,110]),(23,[5,6,7,8,109,110]),(25,[5,6,7,8,109,110]),(26,[5,8]),(28,[])],true,[],[]⟩,
 ⟨[0,1,2,3,4,5,24,32],[],[],[(2,2),(3,2),(4,2)],false,[],[],false,[(4,[2,3,4]),(7,[4])],true,[],[]⟩,
 ⟨[0,2,4],[],[],[],false,[],[],true,[(4,[0])],true,[],[]⟩,
 ⟨[0,1,2,4,5,6,8,15,23],[],[],[(2,2)],false,[],[],false,[(4,[1,4,5]),(7,[1,4,5])],true,[],[]⟩,
 ⟨[0,1,2,3,4,5,6,14,24,44],[],[(31,(4,true))],[(1,1),(4,1)],false,[2],[(8,([],true)),(9,([],true))],false,[(4,[1,3,4,5]),(6,[1,3,4,5]),(10,[1,3,4,5,6]),(11,[1,3,4,5]),(13,[3])],true,[],[]⟩,
 ⟨[0,1,4],[],[],[],false,[],[],false,[],true,[],[]⟩,
 ⟨[0,1],[],[],[],false,[],[],false,[],true,[],[]⟩,
 ⟨[0,2,3,4,9,34,35,36,37,69],[],[],[],false,[],[(6,([],true))],false,[(3,[0]),(4,[0,34,35,36]),(5,[0,34,35,36]),(8,[0,34,35,36]),(9,[0])],false,[],[]⟩,
 ⟨[0,2],[],[],[],false,[],[],false,[],true,[],[]⟩,
 ⟨[0,1,4,5,6,7,8,9,10,11,12,13],[],[],[],false,[],[],false,[],true,[],[]⟩,
 ⟨[0,2,4],[],[],[],false,[],[],false,[(3,[0])],true,[],[]⟩,
 ⟨[0,2],[],[],[],false,[],[],false,[],true,[],[]⟩,
 ⟨[0,1,4,5,6,11,12,13,16,19],[],[],[],false,[],[],false,[(6,[]),(7,[0,1,6]),(9,[0,1]),(11,[0,1]),(13,[])],true,[],[]⟩,
 ⟨[0,1,4,5,6,11,12,13,16,19],[],[],[],false,[],[],false,[(6,[]),(7,[0,1,6]),(9,[0,1]),(11,[0,1]),(13,[])],true,[],[]⟩,
 ⟨[0,1,4,5,10,12,13,14,24],[],[],[],false,[],[(6,([],true))],false,[(3,[0,1]),(4,[0,1,12,13]),(5,[0,1,12,13]),(8,[0,1,12,13]),(9,[])],true,[],[]⟩,
 ⟨[0,1,2,3,5,6,11],[],[],[(1,2)],false,[],[],false,[(6,[2])],true,[],[]⟩,
 ⟨[0,1,4,5,6,7,11,21],[],[],[],false,[],[],false,[(2,[1,5,6]),(3,[1,5,6]),(7,[5])],false,[],[]⟩,
 ⟨[0,1,2,3,5],[],[],[],false,[],[(1,([],true))],false,[],true,[],[]⟩,
 tryzfh0,
 ⟨[0,2,3,9],[],[],[],false,[],[(3,([],true))],false,[(1,[0,2,3]),(3,[0,2,3]),(2,[0,2,3])],true,[],[]⟩,
 ⟨[0,2,4],[],[],[],false,[],[],false,[],true,[],[]⟩,
 ⟨[0,1,4,5,6,7,9,11,17,23,34],[],[],[],false,[],[],false,[(4,[0]),(8,[0,5,6]),(13,[5,7]),(14,[0,1])],true,[],[]⟩,
 ⟨[0,2],[],[],[],false,[],[],false,[],true,[],[]⟩,
 ⟨[0,2],[],[],[],false,[],[],false,[],true,[],[]⟩,
 ⟨[0,2,4],[],[],[],false,[],[],false,[(3,[0])],true,[],[]⟩,
 ⟨[0,2,3],[],[],[],false,[],[],false,[],true,[],[]⟩,
 ⟨[0,1,4,5,6,7,8,9,10,11,12,13,14,15,16,20,99,139,161],[],[],[],false,[],[(7,([],true)),(8,([],true)),(9,([],true)),(10,([],true)),(17,([],true)),(18,([],true)),(23,([],true))],false,[(1,[0,1,4]),(2,[0,1,4]),(12,[0,1,4]),(20,[0,4,12]),(25,[0,4,12])],true,[],[]⟩,
 ⟨[0,1,2,3,4,10,11,12,13,14,15,16,17,18,28,30,34,46,68,89,94],[([98],false)],[],[],false,[10],[],false,[(3,[0,1,2,3,4,10,11]),(7,[0,1,2,3,4,10,11,12,13]),(18,[0,1,3,4,10,11,12,13,17]),(19,[0,1,3,4,10,11,12,13,17]),(23,[0,1,3,4,10,11,12,13]),(11,[0,1,3,4,10,11,12,13,14,15,16]),(12,[0,1,3,4,10,11,12,13,14,15,16]),(15,[0,1,3,4,10,11,12,13]),(25,[0,3,4,10,11,12,13]),(28,[0,4,10,11,12,13]),(30,[10,12,13])],true,[],[]⟩,
 ⟨[0,2],[],[],[],false,[],[],false,[],true,[],[]⟩,
 ⟨[0,2,4,8,14],[],[],[],false,[],[],false,[(4,[0,2]),(7,[0,2]),(10,[0,2])],true,[],[]⟩,
 ⟨[0,2,3],[],[],[],false,[],[],false,[(3,[])],true,[],[]⟩,
 ⟨[0,2],[],[],[],false,[],[],false,[],true,[],[]⟩,
 ⟨[0,2],[],[],[],false,[],[],false,[(2,[0])],true,[],[]⟩,
 ⟨[0,2,4],[],[],[],false,[],[],false,[(3,[0])],true,[],[]⟩,
 ⟨[0,2,4],[],[],[],false,[],[],false,[(3,[0])],true,[],[]⟩,
 tryzfh0,
 tryzfh0,
 tryzfh0,
 tryzfh0,
 tryzfh0,
 tryzfh0,
 tryzfh0,
 tryzfh0,
 tryzfh0,
 tryzfh0,
 tryzfh0,
 tryzfh0,
 tryzfh0,
 tryzfh0,
 tryzfh0,
 tryzfh0,
 tryzfh0,
 tryzfh0,
 tryzfh0,
 tryzfh0,
 tryzfh0,
 tryzfh0,
 tryzfh0,
 tryzfh0,
 ⟨[],[],[],[],false,[],[],false,[],true,[],[]⟩]
def tryzcells:List (Nat×List Nat):=[(24,[4,5]),(25,[4,5]),(45,[0,1,2,3]),(46,[0,1,2,3]),(50,[0,1,2,3,4]),(51,[0,1,2,3,4]),(60,[2,3]),(61,[2,3]),(67,[0,1,2]),(68,[0,1,2]),(70,[1,2,3]),(71,[1,2,3]),(74,[0,1]),(75,[0,1]),(80,[0,1]),(81,[0,1]),(98,[1,2]),(99,[1,2]),(115,[2,3]),(116,[2,3]),(117,[2,3]),(118,[2,3]),(122,[5,6]),(123,[5,6]),(203,[0,3]),(204,[0,3])]
def tryzglobs:List (Nat×List AV):=[(0,[.int .u8 (240),.int .u8 (240),.int .u8 (240),.int .u8 (240),.int .u8 (240),.int .u8 (240),.int .u8 (240),.int .u8 (240),.int .u8 (240),.int .u8 (240),.int .u8 (240),.int .u8 (240),.int .u8 (240),.int .u8 (240),.int .u8 (240),.int .u8 (240),.int .u8 (240),.int .u8 (240),.int .u8 (240),.int .u8 (240),.int .u8 (240),.int .u8 (240),.int .u8 (240),.int .u8 (240),.int .u8 (240),.int .u8 (240),.int .u8 (240),.int .u8 (240),.int .u8 (240),.int .u8 (240),.int .u8 (240),.int .u8 (240),.int .u8 (240),.int .u8 (240),.int .u8 (240),.int .u8 (240),.int .u8 (240),.int .u8 (240),.int .u8 (240),.int .u8 (240),.int .u8 (240),.int .u8 (240),.int .u8 (240),.int .u8 (240),.int .u8 (240),.int .u8 (240),.int .u8 (240),.int .u8 (240),.int .u8 (240),.int .u8 (240),.int .u8 (240),.int .u8 (240),.int .u8 (240),.int .u8 (240),.int .u8 (240),.int .u8 (240),.int .u8 (240),.int .u8 (240),.int .u8 (240),.int .u8 (240),.int .u8 (240),.int .u8 (240),.int .u8 (240),.int .u8 (240),.int .u8 (240),.int .u8 (240),.int .u8 (240),.int .u8 (240),.int .u8 (240),.int .u8 (240),.int .u8 (240),.int .u8 (240),.int .u8 (240),.int .u8 (240),.int .u8 (240),.int .u8 (240),.int .u8 (240),.int .u8 (240),.int .u8 (240),.int .u8 (240),.int .u8 (240),.int .u8 (240),.int .u8 (240),.int .u8 (240),.int .u8 (240),.int .u8 (240),.int .u8 (240),.int .u8 (240),.int .u8 (240),.int .u8 (240),.int .u8 (240),.int .u8 (240),.int .u8 (240),.int .u8 (240),.int .u8 (240),.int .u8 (240),.int .u8 (240),.int .u8 (240),.int .u8 (240),.int .u8 (240),.int .u8 (240),.int .u8 (240),.int .u8 (240),.int .u8 (240),.int .u8 (240),.int .u8 (240),.int .u8 (240),.int .u8 (240),.int .u8 (240),.int .u8 (240),.int .u8 (240),.int .u8 (240),.int .u8 (240),.int .u8 (240),.int .u8 (240),.int .u8 (240),.int .u8 (240),.int .u8 (240),.int .u8 (240),.int .u8 (240),.int .u8 (240),.int .u8 (240),.int .u8 (240),.int .u8 (240),.int .u8 (240),.int .u8 (240),.int .u8 (240),.int .u8 (240),.int .u8 (241),.int .u8 (241),.int .u8 (241),.int .u8 (241),.int .u8 (241),.int .u8 (241),.int .u8 (241),.int .u8 (241),.int .u8 (241),.int .u8 (241),.int .u8 (241),.int .u8 (241),.int .u8 (241),.int .u8 (241),.int .u8 (241),.int .u8 (241),.int .u8 (241),.int .u8 (241),.int .u8 (241),.int .u8 (241),.int .u8 (241),.int .u8 (241),.int .u8 (241),.int .u8 (241),.int .u8 (241),.int .u8 (241),.int .u8 (241),.int .u8 (241),.int .u8 (241),.int .u8 (241),.int .u8 (241),.int .u8 (241),.int .u8 (241),.int .u8 (241),.int .u8 (241),.int .u8 (241),.int .u8 (241),.int .u8 (241),.int .u8 (241),.int .u8 (241),.int .u8 (241),.int .u8 (241),.int .u8 (241),.int .u8 (241),.int .u8 (241),.int .u8 (241),.int .u8 (241),.int .u8 (241),.int .u8 (241),.int .u8 (241),.int .u8 (241),.int .u8 (241),.int .u8 (241),.int .u8 (241),.int .u8 (241),.int .u8 (241),.int .u8 (241),.int .u8 (241),.int .u8 (241),.int .u8 (241),.int .u8 (241),.int .u8 (241),.int .u8 (241),.int .u8 (241),.int .u8 (241),.int .u8 (241),.int .u8 (2),.int .u8 (2),.int .u8 (2),.int .u8 (2),.int .u8 (2),.int .u8 (2),.int .u8 (2),.int .u8 (2),.int .u8 (2),.int .u8 (2),.int .u8 (2),.int .u8 (2),.int .u8 (2),.int .u8 (2),.int .u8 (2),.int .u8 (2),.int .u8 (2),.int .u8 (2),.int .u8 (2),.int .u8 (2),.int .u8 (2),.int .u8 (2),.int .u8 (2),.int .u8 (2),.int .u8 (2),.int .u8 (2),.int .u8 (2),.int .u8 (2),.int .u8 (2),.int .u8 (2),.int .u8 (19),.int .u8 (3),.int .u8 (3),.int .u8 (3),.int .u8 (3),.int .u8 (3),.int .u8 (3),.int .u8 (3),.int .u8 (3),.int .u8 (3),.int .u8 (3),.int .u8 (3),.int .u8 (3),.int .u8 (35),.int .u8 (3),.int .u8 (3),.int .u8 (52),.int .u8 (4),.int .u8 (4),.int .u8 (4),.int .u8 (68),.int .u8 (241),.int .u8 (241),.int .u8 (241),.int .u8 (241),.int .u8 (241),.int .u8 (241),.int .u8 (241),.int .u8 (241),.int .u8 (241),.int .u8 (241),.int .u8 (241)]),(1,[.int .u8 (128),.int .u8 (191),.int .u8 (160),.int .u8 (191),.int .u8 (128),.int .u8 (159),.int .u8 (144),.int .u8 (191),.int .u8 (128),.int .u8 (143),.int .u8 (0),.int .u8 (0),.int .u8 (0),.int .u8 (0),.int .u8 (0),.int .u8 (0),.int .u8 (0),.int .u8 (0),.int .u8 (0),.int .u8 (0),.int .u8 (0),.int .u8 (0),.int .u8 (0),.int .u8 (0),.int .u8 (0),.int .u8 (0),.int .u8 (0),.int .u8 (0),.int .u8 (0),.int .u8 (0),.int .u8 (0),.int .u8 (0)]),(3,[.int .u64 (1),.int .u64 (10),.int .u64 (100),.int .u64 (1000),.int .u64 (10000),.int .u64 (100000),.int .u64 (1000000),.int .u64 (10000000),.int .u64 (100000000),.int .u64 (1000000000),.int .u64 (10000000000),.int .u64 (100000000000),.int .u64 (1000000000000),.int .u64 (10000000000000),.int .u64 (100000000000000),.int .u64 (1000000000000000),.int .u64 (10000000000000000),.int .u64 (100000000000000000),.int .u64 (1000000000000000000),.int .u64 (10000000000000000000)]),(4,[.int .u8 (0),.int .u8 (1),.int .u8 (28),.int .u8 (2),.int .u8 (29),.int .u8 (14),.int .u8 (24),.int .u8 (3),.int .u8 (30),.int .u8 (22),.int .u8 (20),.int .u8 (15),.int .u8 (25),.int .u8 (17),.int .u8 (4),.int .u8 (8),.int .u8 (31),.int .u8 (27),.int .u8 (13),.int .u8 (23),.int .u8 (21),.int .u8 (19),.int .u8 (16),.int .u8 (7),.int .u8 (26),.int .u8 (12),.int .u8 (18),.int .u8 (6),.int .u8 (11),.int .u8 (5),.int .u8 (10),.int .u8 (9)]),(5,[.int .u8 (0),.int .u8 (1),.int .u8 (56),.int .u8 (2),.int .u8 (57),.int .u8 (49),.int .u8 (28),.int .u8 (3),.int .u8 (61),.int .u8 (58),.int .u8 (42),.int .u8 (50),.int .u8 (38),.int .u8 (29),.int .u8 (17),.int .u8 (4),.int .u8 (62),.int .u8 (47),.int .u8 (59),.int .u8 (36),.int .u8 (45),.int .u8 (43),.int .u8 (51),.int .u8 (22),.int .u8 (53),.int .u8 (39),.int .u8 (33),.int .u8 (30),.int .u8 (24),.int .u8 (18),.int .u8 (12),.int .u8 (5),.int .u8 (63),.int .u8 (55),.int .u8 (48),.int .u8 (27),.int .u8 (60),.int .u8 (41),.int .u8 (37),.int .u8 (16),.int .u8 (46),.int .u8 (35),.int .u8 (44),.int .u8 (21),.int .u8 (52),.int .u8 (32),.int .u8 (23),.int .u8 (11),.int .u8 (54),.int .u8 (26),.int .u8 (40),.int .u8 (15),.int .u8 (34),.int .u8 (20),.int .u8 (31),.int .u8 (10),.int .u8 (25),.int .u8 (14),.int .u8 (19),.int .u8 (9),.int .u8 (13),.int .u8 (8),.int .u8 (7),.int .u8 (6)])]
def tryzat (f:Nat):tryzFH:=tryzfhs.getD f tryzfh0
def tryzhints:Hints :=
 {keep:=fun f=>(tryzat f).keep,glob:=fun g=>(tryzglobs.find? (·.1==g)).map (·.2),homes:=fun f=>(tryzat f).homes.length,
  home:=fun f s=>match (tryzat f).homes.findIdx? (·.1.contains s) with | some i=>some (none,i,(((tryzat f).homes[i]?).map (·.2)).getD false) | none=>if (tryzat f).dyn.contains s then some (none,1000000,true) else (((tryzat f).ats.find? fun x=>x.1==s).map fun x=>(some x.2.1,0,x.2.2)),
  comp:=fun f s=>(((tryzat f).comps.find? fun x=>x.1==s).map (·.2)).getD 0,
  cidx:=fun t c=>(((tryzcells.find? (·.1==t)).bind fun x=>x.2.idxOf? c)).getD 0,
  keepObj:=fun f=>(tryzat f).keepObj,loopKeep:=fun f=>(tryzat f).loopKeep,frz:=fun f s=>(tryzat f).frz.contains s,
  recheck:=fun f id=>(((tryzat f).rck.find? fun x=>x.1==id).map fun x=>x.2.1).getD [],
  pok:=fun f id=>(((tryzat f).rck.find? fun x=>x.1==id).map fun x=>x.2.2).getD false,
  prim:=fun f=>if f=187 then some itoaP else none,
  ext:=fun _=>none,
  recov:=fun f=>(tryzat f).recov,
  live:=fun f k=>((tryzat f).live.find? fun x=>x.1==k).map (·.2),
  swp:=fun f id=>((tryzat f).swp.find? fun x=>x.1==id).map (·.2)}
end Go.Abs
namespace Go.Abs
open Go Go.Proofs
set_option maxRecDepth 1000000
noncomputable abbrev runH:Hints:={tryzhints with live:=fun _ _=>none,keepObj:=fun _=>true,loopKeep:=fun _=>true,frz:=fun _ _=>false,prim:=fun _=>none,ext:=fun _=>none,glob:=fun _=>none,recheck:=fun f id=>if f=44∧id=41 then [(21,0,1),(23,0,1)] else tryzhints.recheck f id}
def saysTrue (r:Option (AOut×St)):Bool:=match r with
 |some (.ret (.bool b),_)=>b
 |_=>false
theorem saysTrue_of {r:Option (AOut×St)} (h:saysTrue r=true):∃s,r=some (.ret (.bool true),s):=by
 unfold saysTrue at h
 split at h
 ·subst h;exact ⟨_,rfl⟩
 ·cases h
theorem awake_run:saysTrue ((levelsF Tryz.prog runH 150).1 13 [] [])=true:=by kernel_rfl
theorem runOk:∃s,callW Tryz.prog runH 13 [] []=some (.ret (.bool true),s):=by
 obtain ⟨s,hs⟩:=saysTrue_of awake_run
 exact ⟨s,callW_run hs⟩
end Go.Abs
namespace Go.Abs
open Go Go.Proofs
noncomputable abbrev lawH:Hints:={tryzhints with glob:=fun _=>none,prim:=fun f=>if f=13 then some (sayB true) else if f=44∨f=110∨f=146 then some (fun _ _=>none) else none,ext:=fun _=>none}
end Go.Abs
namespace Go.Abs
open Go Go.Proofs
set_option maxRecDepth 100000
noncomputable abbrev cw:=callW Tryz.prog lawH
noncomputable abbrev aw:=atW Tryz.prog lawH
theorem F8 (e0:Int) (st:St) {r:AOut×St} (h:(outL false (st.length) (AOut.ret (AV.int .i64 e0)) st)=some r):cw 8 [AV.int .i64 e0] st=some r:=callW_of (Eq.trans (by kernel_rfl) h)
abbrev p14_0:List Dir:=[.sr,.sr,.sl,.sr,.bk]
theorem F14 (v0_Kind:Int) (v0_Bool:Bool) (v0_Int:Int) (v0_Str:List UInt8) (v0_Names:AV) (v0_List:AV) (left1:Int) (st:St) {r:AOut×St} (h:((cellsV 6 (AV.agg [AV.int .i64 v0_Kind,AV.bool v0_Bool,AV.int .i64 v0_Int,AV.str v0_Str,v0_Names,v0_List])).bind fun cs=>bif left1==0 then outL false (st.length) (AOut.ret (AV.bool false)) (AObj.free 0::AObj.free 0::AObj.box 25 cs::st) else aw 14 (st.length) p14_0 {env:=[(1,AV.int .i64 left1),(2,AV.bp (st.length) 0),(5,AV.int .i64 0)],defers:=[]} (AObj.free 0::AObj.free 0::AObj.box 25 cs::st))=some r):cw 14 [AV.agg [AV.int .i64 v0_Kind,AV.bool v0_Bool,AV.int .i64 v0_Int,AV.str v0_Str,v0_Names,v0_List],AV.int .i64 left1] st=some r:=callW_of (Eq.trans (by kernel_rfl) h)
theorem F14_0 (left1:Int) (v2:AV) (i5:Int) (base:Nat) (st:St) {r:AOut×St} (h:((ptrAdd 5 v2).bind fun v=>(readA st v 1 false).bind fun v=>(lenSl v).bind fun v=>(intV IntKind.i64 v).bind fun n=>bif decide (i5<n) then (ptrAdd 5 v2).bind fun v=>(readA st v 1 false).bind fun v=>(natA (AV.int .i64 i5)).bind fun j=>(idxSl st 6 v j).bind fun v=>(readA st v 6 true).bind fun v=>callB (cw 14 [v,AV.int .i64 (IntKind.i64.wrap (left1 - 1))] st) (fun v st=>(boolV v).bind fun b=>bif !b then outL false base (AOut.ret (AV.bool false)) st else aw 14 base p14_0 {env:=[(1,AV.int .i64 left1),(2,v2),(5,AV.int .i64 (IntKind.i64.wrap (i5+1)))],defers:=[]} st) fun v st=>outL false base (AOut.pan v) st else outL false base (AOut.ret (AV.bool true)) st)=some r):aw 14 base p14_0 {env:=[(1,AV.int .i64 left1),(2,v2),(5,AV.int .i64 i5)],defers:=[]} st=some r:=atW_of (Eq.trans (by kernel_rfl) h)
theorem F4 (v0_Kind:Int) (v0_Bool:Bool) (v0_Int:Int) (v0_Str:List UInt8) (v0_Names:AV) (v0_List:AV) (st:St) {r:AOut×St} (h:((cellsV 6 (AV.agg [AV.int .i64 v0_Kind,AV.bool v0_Bool,AV.int .i64 v0_Int,AV.str v0_Str,v0_Names,v0_List])).bind fun cs=>(readA (AObj.free 0::AObj.free 0::AObj.box 25 cs::st) (AV.bp (st.length) 0) 6 true).bind fun v=>callB (cw 14 [v,AV.int .i64 4096] (AObj.free 0::AObj.free 0::AObj.box 25 cs::st)) (fun v st_1=>(boolV v).bind fun b=>outL false (st.length) (AOut.ret (AV.bool b)) st_1) fun v st_1=>outL false (st.length) (AOut.pan v) st_1)=some r):cw 4 [AV.agg [AV.int .i64 v0_Kind,AV.bool v0_Bool,AV.int .i64 v0_Int,AV.str v0_Str,v0_Names,v0_List]] st=some r:=callW_of (Eq.trans (by kernel_rfl) h)
theorem F5 (x0:AV) (v1_Kind:Int) (v1_Bool:Bool) (v1_Int:Int) (v1_Str:List UInt8) (v1_Names:AV) (v1_List:AV) (st:St) {r:AOut×St} (h:((cellsV 6 (AV.agg [AV.int .i64 v1_Kind,AV.bool v1_Bool,AV.int .i64 v1_Int,AV.str v1_Str,v1_Names,v1_List])).bind fun cs=>(binA Tryz.prog BinOp.eql 27 true x0 AV.nilp).bind fun v=>(boolV v).bind fun b=>bif b then outL false (st.length) (AOut.ret (AV.int .i64 1)) (AObj.free 0::AObj.free 0::AObj.box 25 cs::st) else (nilCheckA x0).bind fun v=>(ptrAdd 7 v).bind fun v=>(readA (AObj.free 0::AObj.free 0::AObj.box 25 cs::st) v 1 false).bind fun v=>(binA Tryz.prog BinOp.neq 49 true v AV.nilp).bind fun v=>(boolV v).bind fun b=>bif b then outL false (st.length) (AOut.ret (AV.int .i64 2303)) (AObj.free 0::AObj.free 0::AObj.box 25 cs::st) else (readA (AObj.free 0::AObj.free 0::AObj.box 25 cs::st) (AV.bp (st.length) 0) 6 true).bind fun v=>callB (cw 15 [x0,v] (AObj.free 0::AObj.free 0::AObj.box 25 cs::st)) (fun v st_1=>(intV IntKind.i64 v).bind fun n=>outL false (st.length) (AOut.ret (AV.int .i64 n)) st_1) fun v st_1=>outL false (st.length) (AOut.pan v) st_1)=some r):cw 5 [x0,AV.agg [AV.int .i64 v1_Kind,AV.bool v1_Bool,AV.int .i64 v1_Int,AV.str v1_Str,v1_Names,v1_List]] st=some r:=callW_of (Eq.trans (by kernel_rfl) h)
theorem F6 (x0:AV) (v1_Kind:Int) (v1_Bool:Bool) (v1_Int:Int) (v1_Str:List UInt8) (v1_Names:AV) (v1_List:AV) (st:St) {r:AOut×St} (h:((cellsV 6 (AV.agg [AV.int .i64 v1_Kind,AV.bool v1_Bool,AV.int .i64 v1_Int,AV.str v1_Str,v1_Names,v1_List])).bind fun cs=>(binA Tryz.prog BinOp.eql 27 true x0 AV.nilp).bind fun v=>(boolV v).bind fun b=>bif b then outL false (st.length) (AOut.ret (AV.int .i64 1)) (AObj.free 0::AObj.free 0::AObj.box 25 cs::st) else (nilCheckA x0).bind fun v=>(ptrAdd 7 v).bind fun v=>(readA (AObj.free 0::AObj.free 0::AObj.box 25 cs::st) v 1 false).bind fun v=>(binA Tryz.prog BinOp.eql 49 true v AV.nilp).bind fun v=>(boolV v).bind fun b=>bif b then outL false (st.length) (AOut.ret (AV.int .i64 2304)) (AObj.free 0::AObj.free 0::AObj.box 25 cs::st) else (readA (AObj.free 0::AObj.free 0::AObj.box 25 cs::st) (AV.bp (st.length) 0) 6 true).bind fun v=>callB (cw 15 [x0,v] (AObj.free 0::AObj.free 0::AObj.box 25 cs::st)) (fun v st_1=>(intV IntKind.i64 v).bind fun n=>outL false (st.length) (AOut.ret (AV.int .i64 n)) st_1) fun v st_1=>outL false (st.length) (AOut.pan v) st_1)=some r):cw 6 [x0,AV.agg [AV.int .i64 v1_Kind,AV.bool v1_Bool,AV.int .i64 v1_Int,AV.str v1_Str,v1_Names,v1_List]] st=some r:=callW_of (Eq.trans (by kernel_rfl) h)
abbrev p7_0:List Dir:=[.sr,.sr,.sr,.sl,.sr,.bk]
theorem F7 (x0:AV) (st:St) {r:AOut×St} (h:((binA Tryz.prog BinOp.eql 27 true x0 AV.nilp).bind fun v=>(boolV v).bind fun b=>bif b then outL false (st.length) (AOut.ret (AV.int .i64 1)) st else (nilCheckA x0).bind fun v=>(ptrAdd 7 v).bind fun v=>(readA st v 1 false).bind fun v=>(binA Tryz.prog BinOp.eql 49 true v AV.nilp).bind fun v=>(boolV v).bind fun b=>bif b then outL false (st.length) (AOut.ret (AV.int .i64 2304)) st else (nilCheckA x0).bind fun v=>(ptrAdd 6 v).bind fun v=>(readA st v 1 false).bind fun v=>callB (cw 16 [v,AV.int .i64 0] st) (fun v st_1=>(extractA 0 v).bind fun v_1=>(extractA 1 v).bind fun v=>(intV IntKind.i64 v).bind fun n=>(lenSl v_1).bind fun v=>(intV IntKind.i64 v).bind fun n=>aw 7 (st.length) p7_0 {env:=[(0,x0),(24,v_1),(25,AV.int .i64 n),(26,AV.int .i64 0)],defers:=[]} st_1) fun v st_1=>outL false (st.length) (AOut.pan v) st_1)=some r):cw 7 [x0] st=some r:=callW_of (Eq.trans (by kernel_rfl) h)
theorem F7_0 (x0:AV) (v24:AV) (v25:Int) (v26:Int) (base:Nat) (st:St) {r:AOut×St} (h:(bif decide (v26<v25) then (natA (AV.int .i64 v26)).bind fun j=>(idxSl st 1 v24 j).bind fun v=>(readA st v 1 false).bind fun v=>(intV IntKind.i64 v).bind fun n=>(nilCheckA x0).bind fun v=>(ptrAdd 6 v).bind fun v=>(readA st v 1 false).bind fun v=>callB (cw 17 [v,AV.int .i64 n] st) (fun v st=>(intV IntKind.i64 v).bind fun n=>aw 7 base p7_0 {env:=[(0,x0),(24,v24),(25,AV.int .i64 v25),(26,AV.int .i64 (IntKind.i64.wrap (v26+1)))],defers:=[]} st) fun v st=>outL false base (AOut.pan v) st
else (nilCheckA x0).bind fun v=>(ptrAdd 7 v).bind fun v=>(writeA st v [AV.nilp]).bind fun st=>outL false base (AOut.ret (AV.int .i64 0)) st)=some r):aw 7 base p7_0 {env:=[(0,x0),(24,v24),(25,AV.int .i64 v25),(26,AV.int .i64 v26)],defers:=[]} st=some r:=atW_of (Eq.trans (by kernel_rfl) h)
theorem F9 (x0:AV) (st:St) {r:AOut×St} (h:((binA Tryz.prog BinOp.eql 27 true x0 AV.nilp).bind fun v=>(boolV v).bind fun b=>bif b then outL false (st.length) (AOut.ret AV.nils) st else (nilCheckA x0).bind fun v=>(ptrAdd 6 v).bind fun v=>(readA st v 1 false).bind fun v=>callB (cw 18 [v] st) (fun v st_1=>bind2 (freezeA st_1 v) fun v st_2=>outL false (st.length) (AOut.ret v) st_2) fun v st_1=>outL false (st.length) (AOut.pan v) st_1)=some r):cw 9 [x0] st=some r:=callW_of (Eq.trans (by kernel_rfl) h)
theorem F10 (x0:AV) (st:St) {r:AOut×St} (h:((binA Tryz.prog BinOp.eql 27 true x0 AV.nilp).bind fun v=>(boolV v).bind fun b=>bif b then outL false (st.length) (AOut.ret AV.nils) st else (nilCheckA x0).bind fun v=>(ptrAdd 6 v).bind fun v=>(readA st v 1 false).bind fun v=>callB (cw 19 [v] st) (fun v st_1=>bind2 (freezeA st_1 v) fun v st_2=>outL false (st.length) (AOut.ret v) st_2) fun v st_1=>outL false (st.length) (AOut.pan v) st_1)=some r):cw 10 [x0] st=some r:=callW_of (Eq.trans (by kernel_rfl) h)
theorem F11 (x0:AV) (st:St) {r:AOut×St} (h:((binA Tryz.prog BinOp.eql 27 true x0 AV.nilp).bind fun v=>(boolV v).bind fun b=>bif b then (cellsV 7 (AV.agg [AV.int .i64 0,AV.int .i64 0,AV.int .i64 0,AV.int .i64 0,AV.int .i64 0,AV.int .i64 0,AV.int .i64 0])).bind fun cs=>(writeA (AObj.box 37 [AV.int .i64 0,AV.int .i64 0,AV.int .i64 0,AV.int .i64 0,AV.int .i64 0,AV.int .i64 0,AV.int .i64 0]::st) (AV.bp (st.length) 0) cs).bind fun st_1=>((ldA Tryz.prog st_1 37 (AV.bp (st.length) 0)).bind fun v=>some [v]).bind fun vs=>outL false (st.length) (AOut.ret (outV1 vs)) st_1 else (nilCheckA x0).bind fun v=>(ptrAdd 6 v).bind fun v=>(readA (AObj.box 37 [AV.int .i64 0,AV.int .i64 0,AV.int .i64 0,AV.int .i64 0,AV.int .i64 0,AV.int .i64 0,AV.int .i64 0]::st) v 1 false).bind fun v=>callB (cw 20 [v] (AObj.box 37 [AV.int .i64 0,AV.int .i64 0,AV.int .i64 0,AV.int .i64 0,AV.int .i64 0,AV.int .i64 0,AV.int .i64 0]::st)) (fun v st_1=>(cellsV 7 v).bind fun cs=>(writeA st_1 (AV.bp (st.length) 0) cs).bind fun st_2=>((ldA Tryz.prog st_2 37 (AV.bp (st.length) 0)).bind fun v=>some [v]).bind fun vs=>outL false (st.length) (AOut.ret (outV1 vs)) st_2) fun v st_1=>outL false (st.length) (AOut.pan v) st_1)=some r):cw 11 [x0] st=some r:=callW_of (Eq.trans (by kernel_rfl) h)
theorem F12 (x0:AV) (st:St) {r:AOut×St} (h:((binA Tryz.prog BinOp.eql 27 true x0 AV.nilp).bind fun v=>(boolV v).bind fun b=>bif b then outL false (st.length) (AOut.ret AV.nils) st else (nilCheckA x0).bind fun v=>(ptrAdd 6 v).bind fun v=>(readA st v 1 false).bind fun v=>callB (cw 21 [v] st) (fun v st_1=>bind2 (freezeA st_1 v) fun v st_2=>outL false (st.length) (AOut.ret v) st_2) fun v st_1=>outL false (st.length) (AOut.pan v) st_1)=some r):cw 12 [x0] st=some r:=callW_of (Eq.trans (by kernel_rfl) h)
theorem F3 (v0_Kind:Int) (v0_Bool:Bool) (v0_Int:Int) (v0_Str:List UInt8) (v0_Names:AV) (v0_List:AV) (st:St) {r:AOut×St} (h:((cellsV 6 (AV.agg [AV.int .i64 v0_Kind,AV.bool v0_Bool,AV.int .i64 v0_Int,AV.str v0_Str,v0_Names,v0_List])).bind fun cs=>(readA (AObj.free 0::AObj.free 0::AObj.box 25 cs::st) (AV.bp (st.length) 0) 6 true).bind fun v=>callB (cw 4 [v] (AObj.free 0::AObj.free 0::AObj.box 25 cs::st)) (fun v st_1=>(boolV v).bind fun b=>bif !b then outL false (st.length) (AOut.ret (AV.bool true)) st_1 else (readA st_1 (AV.bp (st.length) 0) 6 true).bind fun v=>callB (cw 5 [AV.nilp,v] st_1) (fun v st_2=>(intV IntKind.i64 v).bind fun n=>(readA st_2 (AV.bp (st.length) 0) 6 true).bind fun v=>callB (cw 6 [AV.nilp,v] st_2) (fun v st_3=>(intV IntKind.i64 v).bind fun n_1=>callB (cw 7 [AV.nilp] st_3) (fun v st_4=>(intV IntKind.i64 v).bind fun n_2=>callB (cw 8 [AV.int .i64 n] st_4) (fun v st_5=>(intV IntKind.i64 v).bind fun n=>bif n==1 then callB (cw 8 [AV.int .i64 n_1] st_5) (fun v st_6=>(intV IntKind.i64 v).bind fun n=>bif n==1 then callB (cw 8 [AV.int .i64 n_2] st_6) (fun v st_7=>(intV IntKind.i64 v).bind fun n=>bif n==1 then callB (cw 9 [AV.nilp] st_7) (fun v st_8=>(lenSl v).bind fun v=>(intV IntKind.i64 v).bind fun n=>bif n==0 then callB (cw 10 [AV.nilp] st_8) (fun v st_9=>(lenSl v).bind fun v=>(intV IntKind.i64 v).bind fun n=>bif n==0 then callB (cw 11 [AV.nilp] st_9) (fun v st_10=>(binA Tryz.prog BinOp.eql 37 false v (AV.agg [AV.int .i64 0,AV.int .i64 0,AV.int .i64 0,AV.int .i64 0,AV.int .i64 0,AV.int .i64 0,AV.int .i64 0])).bind fun v=>(boolV v).bind fun b=>bif b then callB (cw 12 [AV.nilp] st_10) (fun v st_11=>(lenSl v).bind fun v=>(intV IntKind.i64 v).bind fun n=>bif n==0 then callB (cw 13 [] st_11) (fun v st_12=>(boolV v).bind fun b=>outL false (st.length) (AOut.ret (AV.bool b)) st_12) fun v st_12=>outL false (st.length) (AOut.pan v) st_12 else outL false (st.length) (AOut.ret (AV.bool false)) st_11) fun v st_11=>outL false (st.length) (AOut.pan v) st_11 else outL false (st.length) (AOut.ret (AV.bool false)) st_10) fun v st_10=>outL false (st.length) (AOut.pan v) st_10 else outL false (st.length) (AOut.ret (AV.bool false)) st_9) fun v st_9=>outL false (st.length) (AOut.pan v) st_9 else outL false (st.length) (AOut.ret (AV.bool false)) st_8) fun v st_8=>outL false (st.length) (AOut.pan v) st_8 else outL false (st.length) (AOut.ret (AV.bool false)) st_7) fun v st_7=>outL false (st.length) (AOut.pan v) st_7 else outL false (st.length) (AOut.ret (AV.bool false)) st_6) fun v st_6=>outL false (st.length) (AOut.pan v) st_6 else outL false (st.length) (AOut.ret (AV.bool false)) st_5) fun v st_5=>outL false (st.length) (AOut.pan v) st_5) fun v st_4=>outL false (st.length) (AOut.pan v) st_4) fun v st_3=>outL false (st.length) (AOut.pan v) st_3) fun v st_2=>outL false (st.length) (AOut.pan v) st_2) fun v st_1=>outL false (st.length) (AOut.pan v) st_1)=some r):cw 3 [AV.agg [AV.int .i64 v0_Kind,AV.bool v0_Bool,AV.int .i64 v0_Int,AV.str v0_Str,v0_Names,v0_List]] st=some r:=callW_of (Eq.trans (by kernel_rfl) h)
end Go.Abs
namespace Go.Abs
open Go Go.Proofs Go.IntWalk
theorem callW_primV {P:Program} {H:Hints} {g:FuncId} {F:List AV→St→Option (AOut×St)} (hy:¬g=yieldId) (h:H.prim g=some F) {args:List AV} {st:St} {r:AOut×St} (hF:F args st=some r):callW P H g args st=some r:=by
 refine callW_of_call ?_
 unfold callA
 rw [if_neg hy,h];exact hF
theorem keepV {S:St} {y z:AObj} {t:Nat} (h:S.get t=some z):St.get (y::S) t=some z:=by
 rw [St.get_under (by have:=St.get_lt h;omega)];exact h
theorem outV_ret {B S:St} {v:AV} (hU:Up B S) (hB:Cl B) (h1:AV.stripR B.length v=v) (h2:AV.closed B.length v=true):outL false B.length (.ret v) S=some (.ret v,B):=by
 rw [outL_plain h1 h2 (by rw [hU.low];exact hB) hU.len,hU.low]
inductive Va where
 |mk (ks:List Va)
mutual
def VaR:Va→List AV→Prop
 | .mk ks,cs=>∃k b n s na la rows,cs=[.int .i64 k,.bool b,.int .i64 n,.str s,na,la]∧(∀m,AV.closed m na=true)∧Sl 6 la rows∧(∀m,AV.closed m la=true)∧ks.length<1000000000∧VaRs ks rows
termination_by structural x=>x
def VaRs:List Va→List (List AV)→Prop
 |[],R=>R=[]
 |v::vs,R=>∃c r,R=c::r∧VaR v c∧VaRs vs r
termination_by structural x=>x
end
mutual
def shV:Va→Nat→Bool
 | .mk ks,n=>match n with | 0=>false | n+1=>shVs ks n
termination_by structural x=>x
def shVs:List Va→Nat→Bool
 |[],_=>true
 |e::r,n=>shV e n&&shVs r n
termination_by structural x=>x
end
theorem VaRs.len:∀{vs:List Va} {R:List (List AV)},VaRs vs R→R.length=vs.length
 |[],_,h=>by cases h;rfl
 |v::vs,_,⟨c,r,h1,h2,h3⟩=>by subst h1;simp [VaRs.len h3]
theorem VaRs.at:∀{vs:List Va} {R:List (List AV)} (i:Nat) (v:Va),VaRs vs R→vs[i]?=some v→∃row,R[i]?=some row∧VaR v row
 |[],_,i,v,_,hi=>by simp at hi
 |x::vs,_,0,v,⟨c,r,h1,h2,h3⟩,hi=>by subst h1;simp at hi;subst hi;exact ⟨c,rfl,h2⟩
 |x::vs,_,i+1,v,⟨c,r,h1,h2,h3⟩,hi=>by subst h1;simpa using VaRs.at i v h3 (by simpa using hi)
theorem VaR.len {v:Va} {cs:List AV} (h:VaR v cs):cs.length=6:=by
 obtain ⟨ks⟩:=v
 obtain ⟨k,b,n,s,na,la,rows,rfl,_⟩:=h
 rfl
abbrev cs6 (k:Int) (b:Bool) (n:Int) (s:List UInt8) (na la:AV):List AV:=[.int .i64 k,.bool b,.int .i64 n,.str s,na,la]
theorem cs6_closed {k:Int} {b:Bool} {n:Int} {s:List UInt8} {na la:AV} (h1:∀m,AV.closed m na=true) (h2:∀m,AV.closed m la=true) (m:Nat):AV.closeds m (cs6 k b n s na la)=true:=by
 simp [AV.closeds,AV.closed,h1,h2]
def ShV (e:Va):Prop:=∀(cs:List AV) (n:Nat) (st:St),VaR e cs→n≤5000→Cl st→cw 14 [.agg cs,.int .i64 (n:Int)] st=some (.ret (.bool (shV e n)),st)
theorem shV_loop {t:Nat} {k n:Int} {b:Bool} {s:List UInt8} {na la:AV} {rows:List (List AV)} {kids:List Va} (hsl:Sl 6 la rows) (hks:VaRs kids rows) (hl:kids.length<1000000000) (l:Nat) (hl2:l<5000) (st S:St) (hu:Up st S) (hst:Cl st) (hS:Cl S) (ht:S.get t=some (.box 25 (cs6 k b n s na la))):∀(rest:List Va) (i:Nat),kids.drop i=rest→i≤kids.length→(∀e ∈ rest,ShV e) →
  aw 14 st.length p14_0 ⟨[(1,.int .i64 ((l+1:Nat):Int)),(2,.bp t 0),(5,.int .i64 (i:Int))],[]⟩ S=some (.ret (.bool (shVs rest l)),st):=by
 have ho:∀b:Bool,outL false st.length (.ret (.bool b)) S=some (.ret (.bool b),st):=fun b=>outV_ret hu hst rfl rfl
 intro rest
 induction rest with
 |nil =>
  intro i hd hi _
  have:=List.drop_eq_nil_iff.1 hd
  refine F14_0 _ _ _ _ _ ?_
  simp only [ptrAdd_bp,Option.bind_some,Nat.zero_add,box_read ht,show readRow (cs6 k b n s na la) 5 1 false=some la from rfl,hsl.len,hks.len,intV_int]
  rw [decide_eq_false (by omega),cond_false,ho]
  rfl
 |cons e rest ih =>
  intro i hd hi hok
  have h1:i<kids.length:=by have:=congrArg List.length hd;simp at this;omega
  have hxi:kids[i]?=some e:=by
   have:(kids.drop i)[0]?=some e:=by rw [hd];rfl
   rw [List.getElem?_drop] at this;simpa using this
  have hr:kids.drop (i+1)=rest:=by rw [←List.drop_drop,hd];rfl
  obtain ⟨row,g1,g2⟩:=hks.at i e hxi
  have hc:=hok e List.mem_cons_self row l S g2 (by omega) hS
  refine F14_0 _ _ _ _ _ ?_
  simp only [ptrAdd_bp,Option.bind_some,Nat.zero_add,box_read ht,show readRow (cs6 k b n s na la) 5 1 false=some la from rfl,hsl.len,hks.len,intV_int]
  rw [decide_eq_true (by omega),cond_true]
  have el:IntKind.i64.wrap (((l+1:Nat):Int) - 1)=(l:Int):=by rw [i64_in _ (by omega)];omega
  simp only [natA_nat,Option.bind_some,hsl.at g1,readA_ip,row_all _ 6 g2.len,el,hc,callB_ret,boolV_bool]
  simp only [shVs]
  cases hb:shV e l with
  |false=>simp only [Bool.not_false,cond_true,ho,Bool.false_and]
  |true =>
   simp only [Bool.not_true,cond_false,Bool.true_and,e1i (show i<1000000000000 by omega)]
   exact ih (i+1) hr (by omega) fun x hx=>hok x (List.mem_cons_of_mem _ hx)
mutual
theorem shV_all (e:Va):ShV e:=by
 match e with
 | .mk kids =>
  have hall:=shVs_all kids
  intro cs l st he hl hst
  obtain ⟨k,b,n,s,na,la,rows,rfl,hna,hsl,hla,hk,hks⟩:=he
  have key:=fun R=>@F14 k b n s na la (l:Int) st R
  simp only [show ∀a b c d e f:AV,cellsV 6 (.agg [a,b,c,d,e,f])=some [a,b,c,d,e,f] from fun _ _ _ _ _ _=>rfl,Option.bind_some] at key
  generalize hS:(AObj.free 0::AObj.free 0::AObj.box 25 [.int .i64 k,.bool b,.int .i64 n,.str s,na,la]::st:St)=S at key
  have ga:St.get S st.length=some (.box 25 [.int .i64 k,.bool b,.int .i64 n,.str s,na,la]):=by rw [←hS];exact keepV (keepV (get_at1 rfl))
  have hu:Up st S:=by rw [←hS];exact (((Up.refl st).push _).push _).push _
  have hc:Cl S:=by rw [←hS];exact ((hst.cons (x:=.box 25 (cs6 k b n s na la)) (cs6_closed hna hla _)).cons rfl).cons rfl
  cases l with
  |zero =>
   refine key _ ?_
   rw [show (((0:Nat):Int)==0)=true from rfl,cond_true]
   exact outV_ret hu hst rfl rfl
  |succ l =>
   refine key _ ?_
   rw [show (((l+1:Nat):Int)==0)=false by rw [beq_eq_false_iff_ne];omega,cond_false]
   exact shV_loop hsl hks hk l (by omega) st S hu hst hc ga kids 0 rfl (by omega) hall
termination_by structural e
theorem shVs_all (es:List Va):∀e ∈ es,ShV e:=by
 match es with
 |[]=>intro e he;simp at he
 |x::r =>
  have g1:=shV_all x
  have g2:=shVs_all r
  intro e he
  rcases List.mem_cons.1 he with rfl | he
  ·exact g1
  ·exact g2 e he
termination_by structural es
end
theorem shallowV {e:Va} {k n:Int} {b:Bool} {s:List UInt8} {na la:AV} (he:VaR e (cs6 k b n s na la)) (hna:∀m,AV.closed m na=true) (hla:∀m,AV.closed m la=true) {st:St} (hst:Cl st):cw 4 [.agg (cs6 k b n s na la)] st=some (.ret (.bool (shV e 4096)),st):=by
 have key:=fun R=>@F4 k b n s na la st R
 simp only [show ∀a b c d e f:AV,cellsV 6 (.agg [a,b,c,d,e,f])=some [a,b,c,d,e,f] from fun _ _ _ _ _ _=>rfl,Option.bind_some] at key
 generalize hS:(AObj.free 0::AObj.free 0::AObj.box 25 [.int .i64 k,.bool b,.int .i64 n,.str s,na,la]::st:St)=S at key
 have ga:St.get S st.length=some (.box 25 [.int .i64 k,.bool b,.int .i64 n,.str s,na,la]):=by rw [←hS];exact keepV (keepV (get_at1 rfl))
 have hu:Up st S:=by rw [←hS];exact (((Up.refl st).push _).push _).push _
 have hc:Cl S:=by rw [←hS];exact ((hst.cons (x:=.box 25 (cs6 k b n s na la)) (cs6_closed hna hla _)).cons rfl).cons rfl
 have h':cw 14 [.agg [.int .i64 k,.bool b,.int .i64 n,.str s,na,la],.int .i64 4096] S=some (.ret (.bool (shV e 4096)),S):=shV_all e _ 4096 S he (by omega) hc
 simp only [box_read ga,row_all [.int .i64 k,.bool b,.int .i64 n,.str s,na,la] 6 rfl,Option.bind_some,h',callB_ret,boolV_bool] at key
 exact key _ (outV_ret hu hst rfl rfl)
theorem nilEq:binA Tryz.prog .eql 27 true .nilp .nilp=some (.bool true):=by kernel_rfl
theorem ctEq:binA Tryz.prog .eql 37 false (.agg [.int .i64 0,.int .i64 0,.int .i64 0,.int .i64 0,.int .i64 0,.int .i64 0,.int .i64 0]) (.agg [.int .i64 0,.int .i64 0,.int .i64 0,.int .i64 0,.int .i64 0,.int .i64 0,.int .i64 0])=some (.bool true):=by kernel_rfl
theorem ld37 (st:St) (p:AV):ldA Tryz.prog st 37 p=readA st p 7 true:=by
 have h1:aggT Tryz.prog 37=some true:=by kernel_rfl
 have h2:szOf Tryz.prog 37=some 7:=by kernel_rfl
 unfold ldA readA
 rw [h1,h2];rfl
section
variable {k n:Int} {b:Bool} {s:List UInt8} {na la:AV} {st:St}
theorem mount_nil (hst:Cl st):cw 5 [.nilp,.agg (cs6 k b n s na la)] st=some (.ret (.int .i64 1),st):=by
 refine F5 .nilp k b n s na la st ?_
 simp only [show ∀a b c d e f:AV,cellsV 6 (.agg [a,b,c,d,e,f])=some [a,b,c,d,e,f] from fun _ _ _ _ _ _=>rfl,Option.bind_some,nilEq,boolV_bool,cond_true]
 exact outV_ret ((((Up.refl st).push _).push _).push _) hst rfl rfl
theorem update_nil (hst:Cl st):cw 6 [.nilp,.agg (cs6 k b n s na la)] st=some (.ret (.int .i64 1),st):=by
 refine F6 .nilp k b n s na la st ?_
 simp only [show ∀a b c d e f:AV,cellsV 6 (.agg [a,b,c,d,e,f])=some [a,b,c,d,e,f] from fun _ _ _ _ _ _=>rfl,Option.bind_some,nilEq,boolV_bool,cond_true]
 exact outV_ret ((((Up.refl st).push _).push _).push _) hst rfl rfl
theorem unmount_nil:cw 7 [.nilp] st=some (.ret (.int .i64 1),st):=by
 refine F7 .nilp st ?_
 simp only [Option.bind_some,nilEq,boolV_bool,cond_true,outL_same]
theorem cells_nil:cw 9 [.nilp] st=some (.ret .nils,st):=by
 refine F9 .nilp st ?_
 simp only [Option.bind_some,nilEq,boolV_bool,cond_true,outL_same]
theorem free_nil:cw 10 [.nilp] st=some (.ret .nils,st):=by
 refine F10 .nilp st ?_
 simp only [Option.bind_some,nilEq,boolV_bool,cond_true,outL_same]
theorem forest_nil:cw 12 [.nilp] st=some (.ret .nils,st):=by
 refine F12 .nilp st ?_
 simp only [Option.bind_some,nilEq,boolV_bool,cond_true,outL_same]
theorem num_nil (e:Int):cw 8 [.int .i64 e] st=some (.ret (.int .i64 e),st):=F8 _ _ (outL_same _ _)
theorem awake_nil:cw 13 [] st=some (.ret (.bool true),st):=callW_primV (F:=sayB true) (by decide) rfl rfl
abbrev z7:List AV:=[.int .i64 0,.int .i64 0,.int .i64 0,.int .i64 0,.int .i64 0,.int .i64 0,.int .i64 0]
theorem counts_nil (hst:Cl st):cw 11 [.nilp] st=some (.ret (.agg z7),st):=by
 refine F11 .nilp st ?_
 have hg:St.get (.box 37 z7::st) st.length=some (.box 37 z7):=get_at1 rfl
 have hld:ldA Tryz.prog (.box 37 z7::st) 37 (.bp st.length 0)=some (.agg z7):=by
  rw [ld37,box_read hg];rfl
 have hw:writeA (.box 37 z7::st) (.bp st.length 0) z7=some (.box 37 z7::st):=by
  simp only [writeA,hg,show setAt z7 0 z7=some z7 from rfl,Option.map_some,St.put_top]
 simp only [show cellsV 7 (.agg z7)=some z7 from rfl,Option.bind_some,nilEq,boolV_bool,cond_true,hw,hld]
 exact outV_ret (Up.cons _ _) hst rfl rfl
theorem nils_ok {e:Va} (he:VaR e (cs6 k b n s na la)) (hna:∀m,AV.closed m na=true) (hla:∀m,AV.closed m la=true) (hst:Cl st):cw 3 [.agg (cs6 k b n s na la)] st=some (.ret (.bool true),st):=by
 refine F3 k b n s na la st ?_
 simp only [show ∀a b c d e f:AV,cellsV 6 (.agg [a,b,c,d,e,f])=some [a,b,c,d,e,f] from fun _ _ _ _ _ _=>rfl,Option.bind_some]
 generalize hS:(AObj.free 0::AObj.free 0::AObj.box 25 [.int .i64 k,.bool b,.int .i64 n,.str s,na,la]::st:St)=S
 have ga:St.get S st.length=some (.box 25 [.int .i64 k,.bool b,.int .i64 n,.str s,na,la]):=by rw [←hS];exact keepV (keepV (get_at1 rfl))
 have hu:Up st S:=by rw [←hS];exact (((Up.refl st).push _).push _).push _
 have hc:Cl S:=by rw [←hS];exact ((hst.cons (x:=.box 25 (cs6 k b n s na la)) (cs6_closed hna hla _)).cons rfl).cons rfl
 have h4:=shallowV he hna hla hc
 simp only [box_read ga,row_all [.int .i64 k,.bool b,.int .i64 n,.str s,na,la] 6 rfl,Option.bind_some,h4,callB_ret,boolV_bool]
 cases shV e 4096 with
 |false =>
  simp only [Bool.not_false,cond_true]
  exact outV_ret hu hst rfl rfl
 |true =>
  simp only [Bool.not_true,cond_false,box_read ga,row_all [.int .i64 k,.bool b,.int .i64 n,.str s,na,la] 6 rfl,mount_nil hc,update_nil hc,unmount_nil,num_nil,cells_nil,free_nil,forest_nil,counts_nil hc,ctEq,awake_nil,callB_ret,boolV_bool,intV_int,Option.bind_some,show ((1:Int)==1)=true from rfl,cond_true,show lenSl .nils=some (.int .i64 0) from rfl,show ((0:Int)==0)=true from rfl]
  exact outV_ret (v:=.bool true) hu hst rfl rfl
end
end Go.Abs
