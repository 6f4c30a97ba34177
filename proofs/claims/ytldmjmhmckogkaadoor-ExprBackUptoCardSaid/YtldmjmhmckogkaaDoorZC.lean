/- ExprBack returns true for every expression of bulk at most 1048576 and leaves it as it was: where the package-level variables that the row lists stand as it lists them. -/
import Derived.Test.YtldmjmhmckogkaaDoorZB
import Derived.SizedLaws
import Derived.JoinedOf
import Derived.ChangeBears
import Derived.Carry
import Derived.JoinedCond
import Derived.Deep.CondSized
import Derived.OpenShut
import Derived.Laws.StandIn
import Derived.Lib.Bytealg
import Derived.Lib.LaidTab
import Derived.Lib.ItoaNum
import Derived.Test.YtldmjmhmckogkaaDoorProg
import Derived.KernelRfl
set_option linter.unusedVariables false
set_option linter.unusedSimpArgs false
set_option linter.unusedSectionVars false
namespace Go.Abs
open Go Go.RowKit
section
variable {P:Program} {H:Hints} {w:World}
def ghost0 (w:World):Gh:={I:=fun b i=>(w.cell? ⟨b,i,none⟩).filter (·.oneCell'),sh:=w.shape?,R:=fun _ _=>none,B:=fun _=>none,L:=fun _ _ _=>none,lo:=w.heap.size}
theorem wf0:WF P w w.heap.size (ghost0 w) [] w:=by
 refine ⟨Below.refl _ _,Nat.le_refl _,fun b i v hv=>?_,fun b x hx=>hx,fun o x hx=>by simp [St.get] at hx,fun o x hx=>by simp [St.get] at hx,fun o o' x x' b hx=>by simp [St.get] at hx,fun _ _ _=>rfl,fun _ _=>rfl,fun _ _ _ _=>rfl,rfl⟩
 have hv':(w.cell? ⟨b,i,none⟩).filter (·.oneCell')=some v:=hv
 rw [Option.filter_eq_some_iff] at hv'
 exact hv'
theorem ghost0_I {b i:Nat} {v:Value} (h:w.cell? ⟨b,i,none⟩=some v) (h1:v.oneCell'=true):(ghost0 w).I b i=some v:=by
 show (w.cell? ⟨b,i,none⟩).filter (·.oneCell')=some v
 rw [h];simp [Option.filter,h1]
def avD {T:Type} (P:Program):Nat→TypeId→DataW T→Option (List AV)
 | 0,_,_=>none
 |n+1,t,d =>
  match P.underlying t,d with
  |some .bool,.lit (.bool b)=>some [.bool b]
  |some (.int k),.lit (.int k' n)=>if k'=k∧(Lit.int k n).wf=true then some [.int k n] else none
  |some .string,.lit (.string s)=>some [.str s]
  |some (.pointer _),.nil=>some [.nilp]
  |some (.slice _),.nil=>some [.nils]
  |some (.slice e),.slice elems _=>(kdOf P e).bind fun kd=>(elems.mapM (avD P n e)).map fun rows=>[.sl kd rows 0 rows.length .no]
  |some (.struct fs),.agg parts=>if parts.length=fs.size then ((fs.toList.zip parts).mapM fun p=>avD P n p.1.type p.2).map List.flatten else none
  |some (.array m e),.agg parts=>if parts.length=m then (parts.mapM (avD P n e)).map List.flatten else none
  |some (.map _ _),.nil=>some [.nilm]
  |some (.func ..),.nil=>some [.nilf]
  |some (.interface _),.nil=>some [.nili]
  |_,_=>none
theorem addr_of_cell {a:Addr} {v:Value} (h:w.cell? a=some v):a.spot=none:=by
 unfold World.cell? at h
 split at h
 ·split at h
  ·simp at h
  ·rename_i hs;simpa using hs
 ·simp at h
theorem addr_eta {a:Addr} (h:a.spot=none):a=⟨a.block,a.off,none⟩:=by cases a;simp_all
theorem mapM_len {α β:Type} {g:α→Option β} {l:List α} {l':List β} (h:l.mapM g=some l'):l'.length=l.length:=by
 induction l generalizing l' with
 |nil=>simp at h;subst h;rfl
 |cons a l ih =>
  rw [List.mapM_cons] at h
  obtain ⟨b,hb,h2⟩:=Option.bind_eq_some_iff.1 h
  obtain ⟨bs,hbs,h3⟩:=Option.bind_eq_some_iff.1 h2
  simp only [Option.pure_def,Option.some.injEq] at h3
  subst h3
  simp [ih hbs]
theorem cells_get {base b o n:Nat} {cs:List Value} (h:w.cells? base ⟨b,o,none⟩ n=some cs):cs.length=n∧∀j,j<n→w.cell? ⟨b,o+j,none⟩=cs[j]?:=by
 unfold World.cells? at h
 split at h
 ·have hl:=mapM_len h
  rw [List.length_range] at hl
  refine ⟨hl,fun j hj=>?_⟩
  have:=mapM_get h j
  rw [this,List.getElem?_range hj]
  simp only [Option.bind_some,addr_add]
 ·simp at h
theorem size_of_cell {b i:Nat} {v:Value} (h:w.cell? ⟨b,i,none⟩=some v):∃e n,w.shape? b=some (e,n)∧i<n:=by
 unfold World.cell? at h
 unfold World.shape?
 split at h
 ·rename_i c e fz hc
  rw [show (⟨b,i,none⟩:Addr).block=b from rfl] at hc
  simp only [Option.isSome_none,Bool.false_eq_true,if_false] at h
  rw [hc]
  exact ⟨e,c.size,rfl,(Array.getElem?_eq_some_iff.1 h).1⟩
 ·simp at h
theorem sizeof_of {t:TypeId} {n:Nat} (h:szOf P t=some n):P.cellsOf t=n:=by
 unfold szOf at h
 unfold Program.cellsOf
 rw [h];rfl
variable {T:Type} {enc:TypeId×Value→T} {base:Nat} {held:Bool}
theorem flatten_at {α β:Type} {f:α→β→Prop}:∀{xs:List (List α)} {ys:List (List β)},xs.length=ys.length→(∀(i:Nat) x y,xs[i]?=some x→ys[i]?=some y→x.length=y.length∧∀(j:Nat) a b,x[j]?=some a→y[j]?=some b→f a b) →
  xs.flatten.length=ys.flatten.length∧∀(j:Nat) a b,xs.flatten[j]?=some a→ys.flatten[j]?=some b→f a b
 |[],[],_,_=>⟨rfl,fun j a b h=>by simp at h⟩
 |x::xs,y::ys,hl,h=>by
  obtain ⟨h1,h2⟩:=h 0 x y rfl rfl
  obtain ⟨h3,h4⟩:=flatten_at (xs:=xs) (ys:=ys) (by simpa using hl) fun i x y hx hy=>h (i+1) x y (by simpa using hx) (by simpa using hy)
  refine ⟨by simp only [List.flatten_cons,List.length_append];omega,fun j a b ha hb=>?_⟩
  simp only [List.flatten_cons] at ha hb
  by_cases hj:j<x.length
  ·rw [List.getElem?_append_left hj] at ha
   rw [List.getElem?_append_left (by omega)] at hb
   exact h2 j a b ha hb
  ·rw [List.getElem?_append_right (by omega)] at ha
   rw [List.getElem?_append_right (by omega)] at hb
   rw [←h1] at hb
   exact h4 _ a b ha hb
 |[],_::_,hl,_=>by simp at hl
 |_::_,[],hl,_=>by simp at hl
def cuts {α:Type}:List Nat→List α→List (List α)
 |[],_=>[]
 |n::ns,l=>l.take n::cuts ns (l.drop n)
theorem cuts_flatten {α:Type}:∀{ns:List Nat} {l:List α},l.length=ns.sum→(cuts ns l).flatten=l
 |[],l,h=>by simp at h;simp [cuts,h]
 |n::ns,l,h=>by
  simp only [List.sum_cons] at h
  simp only [cuts,List.flatten_cons]
  rw [cuts_flatten (by simp;omega),List.take_append_drop]
theorem cuts_length {α:Type}:∀{ns:List Nat} {l:List α},(cuts ns l).length=ns.length
 |[],l=>rfl
 |n::ns,l=>by simp [cuts,cuts_length]
theorem cuts_get {α:Type}:∀{ns:List Nat} {l:List α} {i n:Nat},ns[i]?=some n→(cuts ns l)[i]?=some ((l.drop (ns.take i).sum).take n)
 |[],l,i,n,h=>by simp at h
 |m::ns,l,0,n,h=>by simp at h;subst h;simp [cuts]
 |m::ns,l,i+1,n,h=>by
  have:=cuts_get (ns:=ns) (l:=l.drop m) (i:=i) (n:=n) (by simpa using h)
  simpa [cuts,List.drop_drop] using this
theorem ChangeBears_slice (hl:laidOutB P=true) {t e:TypeId} (ht:t<P.types.size) (hu:P.underlying t=some (.slice e)):e<P.types.size:=kid_slice hl ht hu
theorem trod_rep (hl:laidOutB P=true) {S:List TypeId} (hS:∀t ∈ S,(∀e,P.underlying t=some (.slice e)→e ∈ S)∧(∀fs,P.underlying t=some (.struct fs)→∀f ∈ fs.toList,f.type ∈ S)∧∀n e,P.underlying t=some (.array n e)→e ∈ S) :
  ∀(fuel:Nat) (t:TypeId) (cs:List Value) (d:DataW T) (ps:List MemPlace) (xa0:List AV),t ∈ S→t<P.types.size→DataW.trod enc P w base (fun _=>true) held fuel t cs=some (d,ps)→avD P fuel t d=some xa0 →
   cs.length=xa0.length∧(∀v ∈ cs,v.oneCell'=true)∧∀(j:Nat) v a,cs[j]?=some v→xa0[j]?=some a→Rep P (ghost0 w) v a:=by
 intro fuel
 induction fuel with
 |zero=>intro t cs d ps xa0 hts ht h;simp [DataW.trod] at h
 |succ fuel ih =>
  intro t cs d ps xa0 hts ht h ha
  have one:∀{v:Value} {a:AV},cs=[v]→xa0=[a]→v.oneCell'=true→Rep P (ghost0 w) v a→cs.length=xa0.length∧(∀v ∈ cs,v.oneCell'=true)∧∀(j:Nat) v a,cs[j]?=some v→xa0[j]?=some a→Rep P (ghost0 w) v a:=by
   intro v a h1 h2 h3 h4
   subst h1;subst h2
   refine ⟨rfl,by simpa using h3,fun j v' a' hj hj'=>?_⟩
   cases j with
   |zero=>simp at hj hj';subst hj;subst hj';exact h4
   |succ j=>simp at hj
  unfold DataW.trod at h
  unfold avD at ha
  split at h
  ·
   rename_i b hu
   simp only [Option.some.injEq,Prod.mk.injEq] at h
   obtain ⟨rfl,rfl⟩:=h
   rw [hu] at ha
   simp only [Option.some.injEq] at ha
   exact one rfl ha.symm rfl (.bool b)
  ·
   rename_i k k' n hu
   split at h
   ·rename_i hk
    simp only [Option.some.injEq,Prod.mk.injEq] at h
    obtain ⟨rfl,rfl⟩:=h
    rw [hu] at ha
    simp only [hk.2,and_self,if_true,Option.some.injEq] at ha
    rw [←hk.1] at ha
    exact one rfl ha.symm rfl (.int k' n)
   ·simp at h
  ·
   rename_i hu
   split at h
   ·simp only [Option.some.injEq,Prod.mk.injEq] at h
    obtain ⟨rfl,rfl⟩:=h
    rw [hu] at ha
    simp at ha
   ·simp at h
  ·
   rename_i s hu
   split at h
   ·simp only [Option.some.injEq,Prod.mk.injEq] at h
    obtain ⟨rfl,rfl⟩:=h
    rw [hu] at ha
    simp only [Option.some.injEq] at ha
    exact one rfl ha.symm rfl (.str s)
   ·simp at h
  ·
   rename_i e hu
   simp only [Option.some.injEq,Prod.mk.injEq] at h
   obtain ⟨rfl,rfl⟩:=h
   rw [hu] at ha
   simp only [Option.some.injEq] at ha
   exact one rfl ha.symm rfl .nilp
  ·rename_i e a hu
   obtain ⟨x,_,h2⟩:=Option.map_eq_some_iff.1 h
   simp only [Prod.mk.injEq] at h2
   obtain ⟨rfl,_⟩:=h2
   rw [hu] at ha
   simp at ha
  ·
   rename_i e hu
   simp only [Option.some.injEq,Prod.mk.injEq] at h
   obtain ⟨rfl,rfl⟩:=h
   rw [hu] at ha
   simp only [Option.some.injEq] at ha
   exact one rfl ha.symm rfl .nils
  ·
   rename_i e a len cap hu
   simp only at h
   split at h
   ·rename_i hb
    obtain ⟨elems,he,h2⟩:=Option.bind_eq_some_iff.1 h
    obtain ⟨rest,hr,h3⟩:=Option.map_eq_some_iff.1 h2
    simp only [if_true] at hr
    simp only [Prod.mk.injEq] at h3
    obtain ⟨rfl,_⟩:=h3
    rw [hu] at ha
    simp only at ha
    obtain ⟨kd,hkd,ha2⟩:=Option.bind_eq_some_iff.1 ha
    obtain ⟨rows,hrows,ha3⟩:=Option.map_eq_some_iff.1 ha2
    obtain ⟨hsz,hu8⟩:=kdOf_sz hkd
    have hce:=sizeof_of hsz
    have hpos:=szk_pos kd
    have hel:elems.length=len:=by simpa using mapM_len he
    have hrl:rest.length=cap - len:=by simpa using mapM_len hr
    have hrwl:rows.length=len:=by have:=mapM_len hrows;simpa [hel] using this
    have elem:∀i,i<cap→∃x ci,w.cells? base (a.add (i*P.cellsOf e)) (P.cellsOf e)=some ci∧DataW.trod enc P w base (fun _=>true) held fuel e ci=some x∧(i<len→elems[i]?=some x):=by
     intro i hi
     by_cases hil:i<len
     ·have:=mapM_get he i
      rw [List.getElem?_range hil] at this
      simp only [Option.bind_some] at this
      have h4:elems[i]?=some (elems[i]'(by omega)):=List.getElem?_eq_getElem _
      rw [h4] at this
      obtain ⟨ci,h5,h6⟩:=Option.bind_eq_some_iff.1 this.symm
      exact ⟨_,ci,h5,h6,fun _=>h4⟩
     ·have:=mapM_get hr (i - len)
      rw [List.getElem?_range (by omega)] at this
      simp only [Option.bind_some] at this
      have h4:rest[i - len]?=some (rest[i - len]'(by omega)):=List.getElem?_eq_getElem _
      rw [h4,show len+(i - len)=i by omega] at this
      obtain ⟨ci,h5,h6⟩:=Option.bind_eq_some_iff.1 this.symm
      exact ⟨_,ci,h5,h6,fun h=>absurd h hil⟩
    by_cases hc:cap=0
    ·subst hc
     have hl0:len=0:=by omega
     subst hl0
     have:rows=[]:=List.eq_nil_of_length_eq_zero (by omega)
     subst this
     exact one rfl ha3.symm rfl (.slz a kd)
    have hspot:a.spot=none:=by
     obtain ⟨x,ci,h5,_,_⟩:=elem 0 (by omega)
     rw [Nat.zero_mul,show a.add 0=a from rfl] at h5
     unfold World.cells? at h5
     split at h5
     ·have:=mapM_get h5 0
      rw [List.getElem?_range (by omega)] at this
      simp only [Option.bind_some,show a.add 0=a from rfl] at this
      have hl5:=mapM_len h5
      rw [List.length_range] at hl5
      rw [List.getElem?_eq_getElem (by omega)] at this
      exact addr_of_cell this.symm
     ·simp at h5
    obtain ⟨b,o,sp⟩:=a
    simp only at hspot
    subst hspot
    have cell:∀i,i<cap→∃x ci,ci.length=szk kd∧(∀j,j<szk kd→w.cell? ⟨b,o+i*szk kd+j,none⟩=ci[j]?)∧DataW.trod enc P w base (fun _=>true) held fuel e ci=some x∧(i<len→elems[i]?=some x):=by
     intro i hi
     obtain ⟨x,ci,h5,h6,h7⟩:=elem i hi
     rw [addr_add,hce] at h5
     obtain ⟨h8,h9⟩:=cells_get h5
     exact ⟨x,ci,h8,h9,h6,h7⟩
    have row:∀(i:Nat) r,rows[i]?=some r→r.length=szk kd∧∀(j:Nat) z,r[j]?=some z→∃v,w.cell? ⟨b,o+i*szk kd+j,none⟩=some v∧v.oneCell'=true∧Rep P (ghost0 w) v z:=by
     intro i r hi
     have hil:i<len:=by rw [←hrwl];exact (List.getElem?_eq_some_iff.1 hi).1
     obtain ⟨x,ci,c1,c2,c3,c4⟩:=cell i (by omega)
     have hxr:avD P fuel e x.1=some r:=by
      have:=mapM_get hrows i
      rw [hi,List.getElem?_map,c4 hil] at this
      simpa using this.symm
     obtain ⟨q1,q2,q3⟩:=ih e ci x.1 x.2 r ((hS t hts).1 e hu) (ChangeBears_slice hl ht hu) c3 hxr
     refine ⟨by omega,fun j z hz=>?_⟩
     have hjl:=(List.getElem?_eq_some_iff.1 hz).1
     have hv:ci[j]?=some (ci[j]'(by omega)):=List.getElem?_eq_getElem _
     exact ⟨_,by rw [c2 j (by omega)];exact hv,q2 _ (List.getElem_mem _),q3 j _ z hv hz⟩
    refine one rfl ha3.symm rfl ?_
    have hlen:rows.length=len:=hrwl
    subst hlen
    refine .sl b o o rows.length cap kd rows 0 .no (by omega) (fun r hr=>?_) (by omega) (fun _=>by simp) ?_ trivial (fun i r j z h1 h2=>?_) (fun i r j z v h1 h2 h3=>?_)
    ·obtain ⟨i,hi⟩:=List.getElem?_of_mem hr
     exact (row i r hi).1
    ·first
     |done
     |obtain ⟨x,ci,c1,c2,_,_⟩:=cell (cap - 1) (by omega)
      have:=c2 (szk kd - 1) (by omega)
      rw [List.getElem?_eq_getElem (by omega)] at this
      obtain ⟨se,sn,s1,s2⟩:=size_of_cell this
      refine .inr ⟨se,sn,s1,?_,fun h=>by cases h⟩
      have e1:(cap - 1)*szk kd+szk kd=cap*szk kd:=by rw [←Nat.succ_mul];congr 1;omega
      have e2:rows.length*szk kd≤cap*szk kd:=Nat.mul_le_mul_right _ hb.2.1
      refine Nat.max_le.2 ⟨by omega,?_⟩
      rw [if_neg hc];omega
    ·obtain ⟨v,v1,v2,_⟩:=(row i r h1).2 j z h2
     rw [ghost0_I v1 v2];rfl
    ·obtain ⟨v',v1,v2,v3⟩:=(row i r h1).2 j z h2
     rw [ghost0_I v1 v2] at h3
     cases h3
     exact v3
   ·simp at h
  ·
   rename_i cs _ _ fs hu
   split at h
   ·rename_i hcl
    obtain ⟨xs,hxs,h2⟩:=Option.map_eq_some_iff.1 h
    simp only [Prod.mk.injEq] at h2
    obtain ⟨rfl,_⟩:=h2
    rw [hu] at ha
    simp only at ha
    split at ha
    ·rename_i hpl
     obtain ⟨ys,hys,ha2⟩:=Option.map_eq_some_iff.1 ha
     obtain ⟨k1,k2,k3⟩:=kid_struct hl ht hu
     have hxl:xs.length=fs.size:=by simpa using mapM_len hxs
     have hyl:ys.length=fs.size:=by have:=mapM_len hys;simp at this;omega
     have hfl:(cuts (fs.toList.map fun f=>P.cellsOf f.type) cs).flatten=cs:=cuts_flatten (by rw [hcl,k2])
     have piece:∀(i:Nat) x y,(cuts (fs.toList.map fun f=>P.cellsOf f.type) cs)[i]?=some x→ys[i]?=some y→x.length=y.length∧(∀v ∈ x,v.oneCell'=true)∧∀(j:Nat) a b,x[j]?=some a→y[j]?=some b→Rep P (ghost0 w) a b:=by
      intro i x y hx hy
      have hi:i<fs.size:=by rw [←hyl];exact (List.getElem?_eq_some_iff.1 hy).1
      have hf:fs.toList[i]?=some fs[i]:=by simp [hi]
      have hxi:xs[i]?=some (xs[i]'(by omega)):=List.getElem?_eq_getElem _
      have t1:=mapM_get hxs i
      rw [hf,hxi] at t1
      simp only [Option.bind_some] at t1
      have t2:=mapM_get hys i
      have hz:(fs.toList.zip (xs.map (·.1)))[i]?=some (fs[i],(xs[i]'(by omega)).1):=List.getElem?_zip_eq_some.2 ⟨hf,by simp [hxi]⟩
      rw [hy,hz] at t2
      simp only [Option.bind_some] at t2
      have t3:=cuts_get (ns:=fs.toList.map fun f=>P.cellsOf f.type) (l:=cs) (i:=i) (n:=P.cellsOf fs[i].type) (by simp [hf])
      rw [hx] at t3
      simp only [Option.some.injEq] at t3
      rw [←List.map_take,←k3 i fs[i] hf] at t3
      rw [←t3] at t1
      exact ih _ x _ _ y ((hS t hts).2.1 fs hu _ (List.mem_of_getElem? hf)) (k1 _ (List.mem_of_getElem? hf)) t1.symm t2.symm
     have hfa:=flatten_at (f:=fun a b=>Rep P (ghost0 w) a b) (xs:=cuts (fs.toList.map fun f=>P.cellsOf f.type) cs) (ys:=ys) (by rw [cuts_length];simp [hyl]) fun i x y hx hy=>⟨(piece i x y hx hy).1,(piece i x y hx hy).2.2⟩
     rw [hfl,ha2] at hfa
     refine ⟨hfa.1,fun v hv=>?_,hfa.2⟩
     rw [←hfl] at hv
     obtain ⟨x,hx,hvx⟩:=List.mem_flatten.1 hv
     obtain ⟨i,hi⟩:=List.getElem?_of_mem hx
     have hil:=(List.getElem?_eq_some_iff.1 hi).1
     rw [cuts_length] at hil
     simp at hil
     exact (piece i x _ hi (List.getElem?_eq_getElem (by omega))).2.1 v hvx
    ·simp at ha
   ·simp at h
  ·
   rename_i cs _ _ m e hu
   split at h
   ·rename_i hcl
    obtain ⟨xs,hxs,h2⟩:=Option.map_eq_some_iff.1 h
    simp only [Prod.mk.injEq] at h2
    obtain ⟨rfl,_⟩:=h2
    rw [hu] at ha
    simp only at ha
    split at ha
    ·rename_i hpl
     obtain ⟨ys,hys,ha2⟩:=Option.map_eq_some_iff.1 ha
     obtain ⟨k1,k2⟩:=kid_array hl ht hu
     have hxl:xs.length=m:=by simpa using mapM_len hxs
     have hyl:ys.length=m:=by have:=mapM_len hys;simp at this;omega
     have hfl:(cuts (List.replicate m (P.cellsOf e)) cs).flatten=cs:=cuts_flatten (by rw [hcl,k2];simp)
     have piece:∀(i:Nat) x y,(cuts (List.replicate m (P.cellsOf e)) cs)[i]?=some x→ys[i]?=some y→x.length=y.length∧(∀v ∈ x,v.oneCell'=true)∧∀(j:Nat) a b,x[j]?=some a→y[j]?=some b→Rep P (ghost0 w) a b:=by
      intro i x y hx hy
      have hi:i<m:=by rw [←hyl];exact (List.getElem?_eq_some_iff.1 hy).1
      have hxi:xs[i]?=some (xs[i]'(by omega)):=List.getElem?_eq_getElem _
      have t1:=mapM_get hxs i
      rw [List.getElem?_range hi,hxi] at t1
      simp only [Option.bind_some] at t1
      have t2:=mapM_get hys i
      rw [hy,List.getElem?_map,hxi] at t2
      simp only [Option.map_some,Option.bind_some] at t2
      have t3:=cuts_get (ns:=List.replicate m (P.cellsOf e)) (l:=cs) (i:=i) (n:=P.cellsOf e) (by simp [hi])
      rw [hx] at t3
      simp only [Option.some.injEq] at t3
      have e1:((List.replicate m (P.cellsOf e)).take i).sum=i*P.cellsOf e:=by simp [List.take_replicate,Nat.min_eq_left (Nat.le_of_lt hi)]
      rw [e1] at t3
      rw [←t3] at t1
      exact ih _ x _ _ y ((hS t hts).2.2 m e hu) k1 t1.symm t2.symm
     have hfa:=flatten_at (f:=fun a b=>Rep P (ghost0 w) a b) (xs:=cuts (List.replicate m (P.cellsOf e)) cs) (ys:=ys) (by rw [cuts_length];simp [hyl]) fun i x y hx hy=>⟨(piece i x y hx hy).1,(piece i x y hx hy).2.2⟩
     rw [hfl,ha2] at hfa
     refine ⟨hfa.1,fun v hv=>?_,hfa.2⟩
     rw [←hfl] at hv
     obtain ⟨x,hx,hvx⟩:=List.mem_flatten.1 hv
     obtain ⟨i,hi⟩:=List.getElem?_of_mem hx
     have hil:=(List.getElem?_eq_some_iff.1 hi).1
     rw [cuts_length] at hil
     simp at hil
     exact (piece i x _ hi (List.getElem?_eq_getElem (by omega))).2.1 v hvx
    ·simp at ha
   ·simp at h
  ·
   rename_i hu
   simp only [Option.some.injEq,Prod.mk.injEq] at h
   obtain ⟨rfl,rfl⟩:=h
   rw [hu] at ha
   simp only [Option.some.injEq] at ha
   exact one rfl ha.symm rfl .nili
  ·
   rename_i hu
   split at h
   ·simp only [Option.some.injEq,Prod.mk.injEq] at h
    obtain ⟨rfl,rfl⟩:=h
    rw [hu] at ha
    simp at ha
   ·obtain ⟨x,_,h2⟩:=Option.map_eq_some_iff.1 h
    simp only [Prod.mk.injEq] at h2
    obtain ⟨rfl,_⟩:=h2
    rw [hu] at ha
    simp at ha
   ·simp at h
  ·
   rename_i hu
   simp only [Option.some.injEq,Prod.mk.injEq] at h
   obtain ⟨rfl,rfl⟩:=h
   rw [hu] at ha
   simp only [Option.some.injEq] at ha
   exact one rfl ha.symm rfl .nilm
  ·
   rename_i hu
   split at h
   ·split at h
    ·obtain ⟨x,_,h2⟩:=Option.bind_eq_some_iff.1 h
     simp only at h2
     split at h2
     ·simp only [Option.some.injEq,Prod.mk.injEq] at h2
      obtain ⟨rfl,_⟩:=h2
      rw [hu] at ha
      simp at ha
     ·simp at h2
    ·simp at h
   ·simp at h
  ·
   rename_i hu
   simp only [Option.some.injEq,Prod.mk.injEq] at h
   obtain ⟨rfl,rfl⟩:=h
   rw [hu] at ha
   simp only [Option.some.injEq] at ha
   exact one rfl ha.symm rfl .nilf
  all_goals first
   |(simp at h;done)
   |(rename_i hu;simp only [Option.some.injEq,Prod.mk.injEq] at h;obtain ⟨rfl,rfl⟩:=h;rw [hu] at ha;simp at ha;done)
   |(rename_i hu;split at h<;>first | (simp only [Option.some.injEq,Prod.mk.injEq] at h;obtain ⟨rfl,rfl⟩:=h;rw [hu] at ha;simp at ha;done) | (simp at h;done))
end
end Go.Abs
namespace Go.Abs
open Go Go.RowKit Go.ChangeShapes
section
variable {P:Program} {H:Hints} {w:World} {T:Type} {enc:TypeId×Value→T}
def progOkB (P:Program) (H:Hints):Bool:=(List.range P.funcs.size).all fun g=>match P.funcs[g]? with
 |some fn=>(match fn.body with
  |some c=>!(fn.name == "runtime.NumGoroutine")&&codeOk H g fn.ntmps c&&(List.range (fn.params.size+fn.nfree)).all fun i=>(H.keep g).contains i
  |none=>true)
 |none=>true
theorem progOk_of (h:progOkB P H=true):ProgOk P H:=by
 intro g fn c hf hb
 have:=List.all_eq_true.1 h g (List.mem_range.2 (Array.getElem?_eq_some_iff.1 hf).1)
 simp only [hf,hb,Bool.and_eq_true,Bool.not_eq_true'] at this
 exact ⟨this.1.1,this.1.2,fun i hi=>List.all_eq_true.1 this.2 i (List.mem_range.2 hi)⟩
def plainSetB (P:Program) (S:List TypeId):Bool:=S.all fun t=>match P.underlying t with
 |some .bool=>true
 |some (.int _)=>true
 |some .string=>true
 |some (.slice e)=>S.contains e&&(kdOf P e).isSome
 |some (.struct fs)=>fs.toList.all fun f=>S.contains f.type
 |some (.array _ e)=>S.contains e
 |_=>false
theorem mapM_isSome {α β:Type} {g:α→Option β} {l:List α} (h:∀x ∈ l,(g x).isSome=true):(l.mapM g).isSome=true:=by
 induction l with
 |nil=>rfl
 |cons a l ih =>
  obtain ⟨b,hb⟩:=Option.isSome_iff_exists.1 (h a List.mem_cons_self)
  obtain ⟨bs,hbs⟩:=Option.isSome_iff_exists.1 (ih fun x hx=>h x (List.mem_cons_of_mem _ hx))
  rw [List.mapM_cons,hb]
  simp [hbs]
theorem trod_plain {S:List TypeId} (hS:plainSetB P S=true) {base:Nat} {sp:Nat→Bool} {held:Bool}:∀(fuel:Nat) (t:TypeId) (cs:List Value) (d:DataW T) (ps:List MemPlace),t ∈ S→DataW.trod enc P w base sp held fuel t cs=some (d,ps)→(avD P fuel t d).isSome=true:=by
 intro fuel
 induction fuel with
 |zero=>intro t cs d ps ht h;simp [DataW.trod] at h
 |succ fuel ih =>
  intro t cs d ps ht h
  have hp:=List.all_eq_true.1 hS t ht
  unfold avD
  unfold DataW.trod at h
  split at h
  ·rename_i hu
   simp only [Option.some.injEq,Prod.mk.injEq] at h
   obtain ⟨rfl,rfl⟩:=h
   rw [hu];rfl
  ·rename_i hu
   split at h
   ·rename_i hk
    simp only [Option.some.injEq,Prod.mk.injEq] at h
    obtain ⟨rfl,rfl⟩:=h
    rw [hu];simp [hk.2]
   ·simp at h
  ·rename_i hu;rw [hu] at hp;simp at hp
  ·rename_i hu
   split at h
   ·simp only [Option.some.injEq,Prod.mk.injEq] at h
    obtain ⟨rfl,rfl⟩:=h
    rw [hu];rfl
   ·simp at h
  ·rename_i hu;rw [hu] at hp;simp at hp
  ·rename_i hu;rw [hu] at hp;simp at hp
  ·rename_i hu
   simp only [Option.some.injEq,Prod.mk.injEq] at h
   obtain ⟨rfl,rfl⟩:=h
   rw [hu];rfl
  ·rename_i e a len cap hu
   rw [hu] at hp
   simp only [Bool.and_eq_true] at hp
   obtain ⟨he,hk⟩:=hp
   obtain ⟨kd,hkd⟩:=Option.isSome_iff_exists.1 hk
   simp only at h
   split at h
   ·obtain ⟨elems,hel,h2⟩:=Option.bind_eq_some_iff.1 h
    obtain ⟨rest,_,h3⟩:=Option.map_eq_some_iff.1 h2
    simp only [Prod.mk.injEq] at h3
    obtain ⟨rfl,_⟩:=h3
    rw [hu]
    simp only [hkd,Option.bind_some,Option.isSome_map]
    refine mapM_isSome fun x hx=>?_
    obtain ⟨y,hy,rfl⟩:=List.mem_map.1 hx
    obtain ⟨i,hi⟩:=List.getElem?_of_mem hy
    have:=mapM_get hel i
    rw [hi] at this
    obtain ⟨j,hj,h4⟩:=Option.bind_eq_some_iff.1 this.symm
    obtain ⟨ci,_,h6⟩:=Option.bind_eq_some_iff.1 h4
    exact ih e ci y.1 y.2 (by simpa using he) h6
   ·simp at h
  ·rename_i cs _ _ fs hu
   rw [hu] at hp
   split at h
   ·obtain ⟨xs,hxs,h2⟩:=Option.map_eq_some_iff.1 h
    simp only [Prod.mk.injEq] at h2
    obtain ⟨rfl,_⟩:=h2
    have hxl:xs.length=fs.size:=by simpa using mapM_len hxs
    rw [hu]
    simp only [List.length_map,hxl,if_true,Option.isSome_map]
    refine mapM_isSome fun x hx=>?_
    obtain ⟨i,hi⟩:=List.getElem?_of_mem hx
    obtain ⟨h3,h4⟩:=List.getElem?_zip_eq_some.1 hi
    rw [List.getElem?_map] at h4
    obtain ⟨y,hy,h5⟩:=Option.map_eq_some_iff.1 h4
    have:=mapM_get hxs i
    rw [hy,h3] at this
    simp only [Option.bind_some] at this
    have h6:=List.all_eq_true.1 hp x.1 (List.mem_of_getElem? h3)
    rw [←h5]
    exact ih _ _ _ _ (by simpa using h6) this.symm
   ·simp at h
  ·rename_i cs _ _ m e hu
   rw [hu] at hp
   split at h
   ·obtain ⟨xs,hxs,h2⟩:=Option.map_eq_some_iff.1 h
    simp only [Prod.mk.injEq] at h2
    obtain ⟨rfl,_⟩:=h2
    have hxl:xs.length=m:=by simpa using mapM_len hxs
    rw [hu]
    simp only [List.length_map,hxl,if_true,Option.isSome_map]
    refine mapM_isSome fun x hx=>?_
    obtain ⟨y,hy,rfl⟩:=List.mem_map.1 hx
    obtain ⟨i,hi⟩:=List.getElem?_of_mem hy
    have:=mapM_get hxs i
    rw [hi] at this
    obtain ⟨j,hj,h4⟩:=Option.bind_eq_some_iff.1 this.symm
    exact ih e _ y.1 y.2 (by simpa using hp) h4
   ·simp at h
  all_goals first
   |(simp at h;done)
   |(rename_i hu;rw [hu] at hp;simp at hp;done)
theorem trodAll_below (hl:laidOutB P=true) {W W':World} (hb:Below W.heap.size W W'):∀{ts:List TypeId} {vs:List Value} {ds:List (DataW T)} {ps:List MemPlace},
  (ts.all fun t=>P.readableRec t&&decide (t<P.types.size))=true→DataW.TrodAll enc P W 0 (fun _=>true) true ts vs ds ps→(∀x ∈ ps,x.block<W.heap.size)→DataW.TrodAll enc P W' 0 (fun b=>decide (b<W.heap.size)) true ts vs ds ps
 |[],[],[],ps,_,h,_=>h
 |t::ts,v::vs,d::ds,ps,hr,h,hlt=>by
  obtain ⟨p,q,h1,h2,rfl⟩:=h
  simp only [List.all_cons,Bool.and_eq_true,decide_eq_true_eq] at hr
  exact ⟨p,q,Below.trod hl hr.1.1 hr.1.2 h1 hb (fun x hx=>hlt x (List.mem_append_left _ hx)),trodAll_below hl hb hr.2 h2 (fun x hx=>hlt x (List.mem_append_right _ hx)),rfl⟩
 |[],_::_,_,_,_,h,_=>h.elim
 |[],[],_::_,_,_,h,_=>h.elim
 |_::_,[],_,_,_,h,_=>h.elim
 |_::_,_::_,[],_,_,h,_=>h.elim
theorem avD_int {n:Nat} {t:TypeId} {k:IntKind} {d:DataW T} {xa0:List AV} (hu:P.underlying t=some (.int k)) (h:avD P n t d=some xa0):∃m,d = .lit (.int k m)∧(Lit.int k m).wf=true∧xa0=[.int k m]:=by
 cases n with
 |zero=>simp [avD] at h
 |succ n =>
  unfold avD at h
  rw [hu] at h
  cases d with
  |lit l =>
   cases l with
   |int k' m =>
    simp only at h
    split at h
    ·rename_i hc
     simp only [Option.some.injEq] at h
     obtain ⟨rfl,hw⟩:=hc
     exact ⟨m,rfl,hw,h.symm⟩
    ·simp at h
   |_=>simp at h
  |_=>simp at h
theorem avD_str {n:Nat} {t:TypeId} {d:DataW T} {xa0:List AV} (hu:P.underlying t=some .string) (h:avD P n t d=some xa0):∃s,d = .lit (.string s)∧xa0=[.str s]:=by
 cases n with
 |zero=>simp [avD] at h
 |succ n =>
  unfold avD at h
  rw [hu] at h
  cases d with
  |lit l =>
   cases l with
   |string s=>simp only [Option.some.injEq] at h;exact ⟨s,rfl,h.symm⟩
   |_=>simp at h
  |_=>simp at h
theorem avD_slice {n:Nat} {t e:TypeId} {d:DataW T} {xa0:List AV} (hu:P.underlying t=some (.slice e)) (h:avD P n t d=some xa0) :
  (d = .nil∧xa0=[.nils])∨∃m elems spare kd rows,n=m+1∧d = .slice elems spare∧kdOf P e=some kd∧elems.mapM (avD P m e)=some rows∧xa0=[.sl kd rows 0 rows.length .no]:=by
 cases n with
 |zero=>simp [avD] at h
 |succ n =>
  unfold avD at h
  rw [hu] at h
  cases d with
  |nil=>simp only [Option.some.injEq] at h;exact .inl ⟨rfl,h.symm⟩
  |slice elems spare =>
   simp only at h
   obtain ⟨kd,hk,h2⟩:=Option.bind_eq_some_iff.1 h
   obtain ⟨rows,hr,h3⟩:=Option.map_eq_some_iff.1 h2
   exact .inr ⟨n,elems,spare,kd,rows,rfl,rfl,hk,hr,h3.symm⟩
  |lit l=>cases l<;>simp at h
  |_=>simp at h
theorem flat_set {S:List TypeId} (hS:plainSetB P S=true):∀t ∈ S,(∀e,P.underlying t=some (.slice e)→e ∈ S)∧(∀fs,P.underlying t=some (.struct fs)→∀f ∈ fs.toList,f.type ∈ S)∧∀n e,P.underlying t=some (.array n e)→e ∈ S:=by
 intro t ht
 have hp:=List.all_eq_true.1 hS t ht
 refine ⟨fun e he=>?_,fun fs hfs f hf=>?_,fun n e he=>?_⟩
 ·rw [he] at hp
  simp only [Bool.and_eq_true] at hp
  simpa using hp.1
 ·rw [hfs] at hp
  simpa using List.all_eq_true.1 hp f hf
 ·rw [he] at hp
  simpa using hp
theorem arg_agg {S:List TypeId} (hl:laidOutB P=true) (hS:plainSetB P S=true) {t:TypeId} {fs:Array Field} (ht:t ∈ S) (hts:t<P.types.size) (hu:P.underlying t=some (.struct fs)) {r:Reach} {b0:Nat} {v:Value} {d:DataW T} {ps:List MemPlace}
  (hok:Value.okWide P w r b0 t v) (h:DataW.Trod enc P w 0 (fun _=>true) true t v d ps):∃n cs,avD P n t d=some cs∧Rep P (ghost0 w) v (.agg cs):=by
 obtain ⟨fuel,hf⟩:=h
 obtain ⟨cs,ha⟩:=Option.isSome_iff_exists.1 (trod_plain hS fuel t _ d ps ht hf)
 have hv:∃vs,v = .agg vs:=by
  unfold Value.okWide at hok
  rw [hu] at hok
  obtain ⟨vs,rfl,_⟩:=hok
  exact ⟨vs,rfl⟩
 obtain ⟨vs,rfl⟩:=hv
 obtain ⟨h1,h2,h3⟩:=trod_rep hl (flat_set hS) fuel t _ d ps cs ht hts hf ha
 have hc:(Value.agg vs).cells=vs:=rfl
 rw [hc] at h1 h2 h3
 refine ⟨fuel,cs,ha,.agg vs cs (by simpa using h1) (fun j v hj=>h2 v ?_) (fun j v a hj hja=>h3 j v a (by simpa using hj) hja)⟩
 have:=List.mem_of_getElem? (show vs.toList[j]?=some v by simpa using hj)
 exact this
end
end Go.Abs
namespace Go.Abs
open Go Go.RowKit
section
variable {P:Program} {H:Hints} {w:World}
theorem reps_one {σ:Gh} {vs:List Value} {a:AV} (h:Reps P σ vs [a]):∃v,vs=[v]∧Rep P σ v a:=h.one
theorem ext_same {g:FuncId} {fn:Func} (hf:P.funcs[g]?=some fn) (hname:(fn.name == "runtime.NumGoroutine")=false) (hb:fn.body.isNone=true) (hn:Extern.findNext fn=none) (he:Extern.find fn=some Extern.AbiNoEscape.same)
  {W:World} {bs:Nat} {σ:Gh} {st:St} {w:World} {vs:List Value} {xa0:List AV} {a:AV} (hw:WF P W bs σ st w) (hr:Reps P σ vs xa0) (hF:sameX xa0=some a):∃v,(callFunc g vs.toArray).run P w = .ok (.value v) w∧Rep P σ v a:=by
 match xa0,hF with
 |[x],hF =>
  simp only [sameX,Option.some.injEq] at hF
  subst hF
  obtain ⟨v,rfl,h⟩:=reps_one hr
  refine ⟨v,?_,h⟩
  rw [run_callFunc_extern hf hname hb hn he]
  rfl
theorem findIdx_eq (c:UInt8):∀l:List UInt8,(match l.findIdx? (fun b=>b==c) with | some i=>(i:Int) | none=>-1)=Lib.indexByte l c
 |[]=>rfl
 |b::l=>by
  have ih:=findIdx_eq c l
  rw [List.findIdx?_cons]
  unfold Lib.indexByte
  by_cases h:b==c
  ·simp [h]
  ·simp only [h,Bool.false_eq_true,if_false]
   rw [←ih]
   cases hl:List.findIdx? (fun b=>b==c) l with
   |none=>rfl
   |some i =>
    simp only [Option.map_some]
    have:(((i:Nat):Int)==-1)=false:=by rw [beq_eq_false_iff_ne];omega
    simp [this]
theorem ext_index {g:FuncId} {fn:Func} (hf:P.funcs[g]?=some fn) (hname:(fn.name == "runtime.NumGoroutine")=false) (hb:fn.body.isNone=true) (hn:Extern.findNext fn=none) (he:Extern.find fn=some Extern.BytealgIndexByte.indexByte)
  {W:World} {bs:Nat} {σ:Gh} {st:St} {w:World} {vs:List Value} {xa0:List AV} {a:AV} (hw:WF P W bs σ st w) (hr:Reps P σ vs xa0) (hF:indexX xa0=some a):∃v,(callFunc g vs.toArray).run P w = .ok (.value v) w∧Rep P σ v a:=by
 unfold indexX at hF
 split at hF
 ·rename_i s c
  simp only [Option.some.injEq] at hF
  subst hF
  obtain ⟨v1,v2,rfl,h1,h2⟩:=hr.two
  cases h2
  generalize hx:AV.str s=x at h1
  cases h1<;>cases hx
  rename_i s
  refine ⟨.int .i64 (Lib.indexByte s.data.toList c.toNat.toUInt8),?_,(congrArg (fun z=>Rep P σ (.int .i64 (Lib.indexByte s.data.toList c.toNat.toUInt8)) (.int .i64 z)) (findIdx_eq c.toNat.toUInt8 s.data.toList)).mpr (.int _ _)⟩
  rw [run_callFunc_extern hf hname hb hn he,Lib.run_indexByteString]
  rfl
 ·simp at hF
theorem glob_ip {g:Nat} {row:List AV} (h:∀(j:Nat) a,row[j]?=some a→∃v,w.cell? ⟨g,j,none⟩=some v∧v.oneCell'=true∧Rep P (ghost0 w) v a):Rep P (ghost0 w) (.pointer (some ⟨g,0,none⟩)) (.ip row 0):=by
 have:=Rep.ip (P:=P) (σ:=ghost0 w) g 0 row 0 (fun j a hj=>by
  obtain ⟨v,h1,h2,_⟩:=h j a hj
  rw [Nat.zero_add,ghost0_I h1 h2];rfl) (fun j a v hj hv=>by
  obtain ⟨u,h1,h2,h3⟩:=h j a hj
  rw [Nat.zero_add,ghost0_I h1 h2] at hv
  cases hv
  exact h3)
 simpa using this
theorem vars_mem:∀{l:List (String×DataW Unit)} {ps:List MemPlace},DataW.LaidVars P w l ps→∀n d,(n,d) ∈ l→∃g t cs fuel p,P.globalNamed n=some g∧(P.globals[g]?).map (·.type)=some t∧w.var? P n=some cs ∧
  DataW.trod (fun _=>()) P w 0 (fun _=>true) false fuel t cs.toList=some (d,p):=by
 intro l
 induction l with
 |nil=>intro ps _ n d h;simp at h
 |cons x l ih =>
  intro ps h n d hm
  obtain ⟨n0,d0⟩:=x
  obtain ⟨g,t,cs,fuel,p,q,h1,h2,h3,h4,h5,h6⟩:=h
  rcases List.mem_cons.1 hm with e | hm
  ·cases e
   exact ⟨g,t,cs,fuel,p,h1,h2,h3,h4⟩
  ·exact ih h5 n d hm
end
end Go.Abs
namespace Go.Abs
open Go
def digsVal (l:List UInt8):Nat:=l.foldl (fun a c=>a*10+(c.toNat - 48)) 0
def isDigs (l:List UInt8):Bool:=!l.isEmpty&&l.all fun c=>decide (48≤c.toNat)&&decide (c.toNat≤57)
def atoiErr (te:TypeId) (E:AV) (l:List UInt8):AV:=.iface te (.ip [.str [65,116,111,105],.str l,E] 0)
def atoiP (te:TypeId) (E:AV):List AV→St→Option (AOut×St)
 |[.str l],st=>if isDigs l=true∧l.length≤281474976710656 then (if digsVal l≤9223372036854775807 then some (.ret (.tup [.int .i64 (digsVal l),.nili]),st) else some (.ret (.tup [.int .i64 9223372036854775807,atoiErr te E l]),st)) else none
 |_,_=>none
def itoaP:List AV→St→Option (AOut×St)
 |[.int .i64 n,.int .i64 b],st=>if b=10∧-9223372036854775808≤n∧n≤9223372036854775807 then some (.ret (.str (Lib.itoa n)),st) else none
 |_,_=>none
end Go.Abs
namespace Go.Abs
open Go
structure trydFH where
 keep:List Nat
 homes:List (List Nat×Bool)
 ats:List (Nat×Nat×Bool)
 comps:List (Nat×Nat)
 keepObj:Bool
 frz:List Nat
 rck:List (Nat×List (Nat×Nat×Nat)×Bool)
 recov:Bool
 live:List (Nat×List Nat)
 loopKeep:Bool
def trydfh0:trydFH:=⟨[],[],[],[],false,[],[],false,[],false⟩
def trydfhs:List trydFH:=[
 trydfh0,
 trydfh0,
 ⟨[],[],[],[],false,[],[],false,[],true⟩,
 ⟨[0,1,2,3,4,5,7,9,12,20],[],[],[(1,1),(5,1)],false,[],[],false,[(3,[1]),(5,[1]),(8,[1,3])],true⟩,
 ⟨[0,2,3,4,5,6,7,8,10,11,12,13,15,16,17,19,28],[],[],[(3,1),(8,1),(13,1)],false,[],[],false,[(3,[0]),(6,[0,3])],true⟩,
 ⟨[0,1,4,5,6,7,8,9,10,12,13,15,16,18,20,106,117],[],[],[(10,1),(13,1),(16,1)],false,[],[(13,([],true))],false,[(3,[0,1]),(13,[0,1,5,10,13,16]),(15,[10,13])],true⟩,
 ⟨[0,1,4,5,6,7,9,10,12,17,21,24,29,33,45],[],[],[(8,1)],false,[],[],false,[(3,[0,1]),(6,[1,5,6,7]),(8,[1,5,6,7]),(7,[1,5,6,7]),(16,[5,6]),(19,[6,9,10])],true⟩,
 ⟨[0,1,3,4,5,7,8],[],[],[(1,1),(6,1)],false,[],[],false,[],true⟩,
 ⟨[0,1,2],[],[],[(1,1)],false,[],[],false,[],true⟩,
 ⟨[0,1,2,3,4,6],[],[],[(1,1),(8,1)],false,[],[],false,[(3,[1])],true⟩,
 ⟨[0,2],[],[],[],false,[],[],false,[],true⟩,
 ⟨[0,2,3,4,5,19],[],[],[(2,1)],false,[],[],false,[(7,[2,3,4])],true⟩,
 ⟨[0,1,2,3,4],[],[],[(2,1),(3,1)],false,[],[],false,[],true⟩,
 ⟨[0],[],[],[],false,[0],[],false,[],true⟩,
 ⟨[0,1,2,4,5,7,12,23],[],[],[(2,1)],false,[],[],false,[(3,[1,2]),(4,[1,2,5]),(6,[1,2,5]),(5,[1,2,5]),(8,[])],true⟩,
 ⟨[0,1,2,4,5,6,7,8],[],[],[],false,[],[],false,[],true⟩,
 ⟨[0,1,2,6,7,8,9,11,12,13,14,15,19,20,21,22,31,41,42,44,49,57,87,88,119,132,145,163,187,213,224,232,242,248,254],[],[],[],false,[],[(8,([],true)),(9,([],true)),(40,([],true)),(47,([(7,(0,1))],false)),(51,([],true)),(55,([],true))],false,[(3,[0,1,2,6,7,12,13,14]),(4,[0,1,2,6,7,12,13,14]),(6,[0,1,2,6,7,8,12,13,14,19,20,21]),(7,[0,1,2,6,7,8,12,13,14,19,20,21]),(10,[0,1,2,6,7,8,12,13,14,19,20,21]),(11,[0,1,2,6,7,12,13,14]),(12,[0,1,2,6,7]),(17,[0,1,2,6,7,44]),(18,[0,1,2,6,7]),(21,[0,1,6,7]),(25,[0,1])],false⟩,
 ⟨[0,2],[],[],[],false,[],[(1,([],true))],false,[],true⟩,
 ⟨[0,1,2,3,4,5,8,15],[],[],[],false,[],[(5,([(2,(0,1)),(4,(0,2))],true))],true,[(5,[0,1,2,4])],true⟩,
 ⟨[0,2,3,26,48,60,69,78,94],[],[],[],false,[],[(0,([],true)),(3,([],true)),(4,([],true))],false,[(0,[0]),(1,[0]),(2,[0]),(12,[0,2]),(15,[0,2])],true⟩,
 ⟨[0,1,4,5,6,13],[],[],[(4,1),(5,1),(6,1)],false,[],[(7,([(0,(0,1)),(1,(0,1))],true))],false,[(4,[0,1,4,5])],true⟩,
 ⟨[0],[],[],[],false,[],[],false,[],true⟩,
 ⟨[0,1,4,5,10,14,26],[],[],[],false,[],[(6,([],true))],false,[(3,[0,1]),(4,[0,1,5]),(6,[0,1,5]),(5,[0,1,5]),(8,[])],true⟩,
 ⟨[0,1,2,3,4,6,7,8,26,42,43,57,80,104,106,132,150,151,152],[],[],[],false,[],[(2,([(12,(0,1)),(13,(0,1))],false)),(9,([(9,(0,1))],true)),(21,([],true))],false,[(4,[0,3,4]),(18,[0,4,7]),(19,[0,4,7,150,151]),(20,[0,4,7,150,151]),(22,[0,4,7,150,151]),(23,[7])],false⟩,
 ⟨[0,2,3,10,25,28],[],[],[],false,[],[],false,[(9,[])],true⟩,
 ⟨[0],[],[],[],false,[0],[],false,[],true⟩,
 ⟨[0,2,4],[],[],[],false,[],[],false,[],true⟩,
 ⟨[0,2,4,6,7,8,15],[],[],[],false,[],[],false,[(2,[0,6]),(3,[0,6,7]),(6,[0])],true⟩,
 ⟨[0,2],[],[],[],false,[],[],false,[],true⟩,
 ⟨[0,2,3,4,6,8],[],[],[],false,[],[],false,[(8,[])],true⟩,
 ⟨[0],[],[],[],false,[0],[],false,[],true⟩,
 ⟨[0,1,4],[],[(14,(10,false))],[],false,[],[],false,[],true⟩,
 ⟨[0,1,4,5],[],[(14,(11,false))],[],false,[],[],false,[],true⟩,
 ⟨[0,2],[],[],[],false,[],[],false,[],true⟩,
 ⟨[0,1,4,5,11,12,13,18,19,21],[],[],[],false,[],[],false,[(2,[0,1,11,12]),(3,[0,1,11,12]),(7,[0,1,5,11,12,18]),(10,[0,1,11,12]),(11,[0,1,5,11,12]),(12,[0,1,5,11,12]),(13,[0,1,11,12]),(14,[0])],true⟩,
 ⟨[0,1,4],[],[],[],false,[],[],false,[],true⟩,
 ⟨[0,1,4,5,18,33],[],[],[],false,[],[(1,([],true))],false,[(3,[0,1]),(6,[1,4])],true⟩,
 ⟨[0,1,17],[],[],[],false,[],[],false,[],true⟩,
 ⟨[0,1,4,5,6,7,31,51,63,74,93,105],[],[],[],false,[],[(3,([],true)),(14,([],true)),(15,([],true))],false,[(3,[0,1,4]),(16,[0,1,4,6,7]),(18,[0,1,4,6,7]),(10,[1,4]),(19,[0,1,4,5,6])],true⟩,
 ⟨[0,1,5,9,10,11,12,25],[],[],[],false,[],[(4,([],true))],false,[(2,[0,1,9,10,11]),(3,[0,1,9,10,11]),(7,[0,1,9,10,11]),(8,[1])],true⟩,
 ⟨[0,1],[],[],[],false,[],[],false,[],true⟩,
 ⟨[0,1,2,6,7,9,12,23,24,25,26,32],[],[],[(6,1),(7,1)],false,[],[(9,([(1,(0,2)),(2,(0,1))],true))],false,[(1000001,[0,1,2,6,7,9,23,24,25,32]),(3,[0,1,2,6]),(5,[0,1,2,6,7,23,24,25]),(6,[0,1,2,6,7,23,24,25]),(10,[0,1,2,6,7,23,24,25]),(11,[6,7])],false⟩,
 ⟨[0,1,4],[],[],[],false,[],[],false,[],true⟩,
 ⟨[0,1,7],[],[],[],false,[],[],false,[(2,[0])],true⟩,
 ⟨[0,2,3,4,5,6,7,8,9,10,11,12,16,37,53,60,66,91,98],[],[],[],false,[2],[],false,[(5,[0,3,4,5,6]),(7,[0,3,4,5,6]),(6,[0,3,4,5,6]),(12,[0,3,5]),(14,[0,3]),(18,[0,9,10,12]),(19,[0,9,10,12]),(20,[0,9,10,12]),(21,[0,9,10,11,12]),(22,[0,9,10,11,12]),(24,[0,9,10,11,12]),(27,[0,9,10,12]),(28,[0,9,10,12]),(29,[0,9,10,12]),(30,[0,9,10,11]),(32,[9])],true⟩,
 ⟨[0,2,3,4,5,7,9,10,11,15,24],[],[],[],false,[],[],false,[(2,[0,9]),(3,[0,9,10]),(8,[])],true⟩,
 ⟨[0,1,4,5,6,7,9,10,11,40],[],[],[],false,[],[],false,[(2,[0,1,9,10]),(3,[0,1,9,10]),(8,[0,1,9,10]),(9,[0])],true⟩,
 ⟨[0,6,19],[],[],[],false,[],[],false,[],true⟩,
 ⟨[0,2],[],[],[],false,[],[],false,[],true⟩,
 ⟨[0,1,4],[],[],[],false,[],[],false,[],true⟩,
 ⟨[0,2,3,4,5,8,15],[],[],[],false,[],[],false,[(3,[0]),(6,[4])],true⟩,
 ⟨[0,1,4,5,39],[],[],[],false,[],[(3,([],true)),(5,([],true))],false,[(3,[0,1,5]),(4,[0,1,5]),(5,[0,5])],false⟩,
 ⟨[0,2],[],[],[],false,[],[],false,[],true⟩,
 ⟨[0,2],[],[],[],false,[],[],false,[],true⟩,
 ⟨[0,2,3,10],[],[],[],false,[],[],false,[],true⟩,
 ⟨[0,1,4,7],[([12],true)],[],[],true,[],[],false,[(3,[0,1])],true⟩,
 ⟨[0],[],[],[],false,[0],[],false,[],true⟩,
 ⟨[0,1,4],[],[],[],false,[],[],false,[],true⟩,
 ⟨[0,1,4,5,15,25,28],[],[],[(4,1)],false,[],[],false,[(3,[0,1,4]),(9,[0,1,4,5])],true⟩,
 ⟨[0,1,4,5,6,7,8,9,10,11,14,15,16,21,23,33,36,47,48,49,50],[([29,43],false)],[],[],false,[4],[],false,[(4,[0,1,5,6,14]),(5,[0,1,5,6,14,15]),(12,[0,5,6]),(14,[0,5]),(16,[0,9,47,48,49]),(17,[0,9,47,48,49]),(19,[0,9,47,48,49]),(20,[9])],false⟩,
 ⟨[0,2,5,6,7],[],[],[],false,[],[],false,[(11,[7]),(12,[]),(13,[0])],true⟩,
 trydfh0,
 ⟨[0,2],[],[],[],false,[],[],false,[],true⟩,
 trydfh0,
 ⟨[0,2,3,5,13,17,18,19,30],[],[],[],false,[],[],false,[(3,[0]),(5,[0]),(6,[0,17,18]),(7,[0,17,18]),(10,[0,17,18]),(11,[0])],true⟩,
 ⟨[0,2,3,4,5,12],[],[],[],false,[],[],false,[(4,[4])],true⟩,
 ⟨[0,2,3,4,5,6,7,8,9,10,11,12,16,23,45,57,59,75,77,98],[],[],[],false,[],[],false,[(4,[0,4]),(9,[0,4,5,6]),(13,[0,5,8,9]),(16,[0,5,8,10]),(18,[0,5,8,10]),(21,[0,5,8,10,11]),(23,[0,5,10,11]),(26,[5,10,11,12])],true⟩,
 ⟨[0,1,4,5,11,25,50],[([24,49,77,10],true)],[],[],true,[],[],false,[(7,[0,1,5,25])],true⟩,
 ⟨[0,1,4],[],[],[],false,[],[],false,[],true⟩,
 ⟨[0,1,4,5,10,20,33],[],[],[(4,1),(5,1)],false,[],[(7,([(4,(0,1))],true)),(10,([(0,(0,1))],true))],false,[(3,[0,1,4,5]),(7,[0,1,4,5])],true⟩,
 ⟨[0,1,4,5,6,7,32,54],[],[],[],false,[],[],false,[(5,[0,1]),(8,[])],true⟩,
 ⟨[0,1,4,5,6,7,9,11,17,23,34],[],[],[],false,[],[],false,[(4,[0]),(8,[0,5,6]),(13,[5,7]),(14,[0,1])],true⟩,
 ⟨[0,2,3,4,5,6,8,9,10,30,39,44,47,48,49,50,56,66],[],[],[],false,[],[],false,[(8,[0,5]),(10,[5,6,47,48,49]),(11,[5,6,47,48,49]),(15,[5,6,8,47,48,49]),(16,[5,6,47,48,49]),(17,[5,6]),(19,[6]),(20,[0])],true⟩,
 ⟨[0,1,2,3,4,10,11,12,19,26,34],[],[],[],false,[],[],false,[(10,[4])],true⟩,
 ⟨[0,1,4,5,6,7,8,13,22,31,37,49,52,53,54,55,66],[],[],[(4,1)],false,[],[],false,[(12,[0,1,4,5]),(16,[0,1,4,5]),(17,[0,1,4,5,52,53,54]),(18,[0,1,4,5,52,53,54]),(21,[0,1,4,5,52,53,54]),(22,[4,5])],true⟩,
 ⟨[0,1,2,6,7],[],[],[(6,1),(7,1)],false,[],[],false,[],true⟩,
 ⟨[0,1,4,5,6,7,8,9,10,17,19,20,21,31,37,62,85,110],[],[],[],false,[],[(9,([],true)),(18,([],true))],false,[(3,[0,1,19,20]),(4,[0,1,19,20]),(8,[0,1,6,19,20]),(10,[0,1,19,20]),(11,[]),(12,[0,1]),(14,[0,1,7,8]),(15,[0,1,7,8]),(19,[0,1,7,8,9,10]),(22,[])],true⟩,
 ⟨[0,1,4,5,6,7,8,9,10,13,15,16,17,27,33,58,78,95],[],[],[],false,[],[(9,([],true))],false,[(3,[0,1,15,16]),(4,[0,1,15,16]),(8,[0,1,6,15,16]),(10,[0,1,15,16]),(11,[]),(12,[0,1]),(14,[0,1,7,8]),(15,[0,1,7,8]),(19,[0,1,7,8,9,10]),(22,[])],false⟩,
 ⟨[0,2,4],[],[],[],false,[],[],false,[(3,[0])],true⟩,
 ⟨[0,2,3],[],[],[],false,[],[],false,[],true⟩,
 ⟨[0,1,4,5,6,7,8,9,10,11,12,13,14,15,16,20,99,139,161],[],[],[],false,[],[(7,([],true)),(8,([],true)),(9,([],true)),(10,([],true)),(17,([],true)),(18,([],true)),(23,([],true))],false,[(1,[0,1,4]),(2,[0,1,4]),(12,[0,1,4]),(20,[0,4,12]),(25,[0,4,12])],true⟩,
 ⟨[0,1,2,3,4,10,11,12,13,14,15,16,17,18,28,30,34,46,68,89,94],[([98],false)],[],[],false,[10],[],false,[(3,[0,1,2,3,4,10,11]),(7,[0,1,2,3,4,10,11,12,13]),(18,[0,1,3,4,10,11,12,13,17]),(19,[0,1,3,4,10,11,12,13,17]),(23,[0,1,3,4,10,11,12,13]),(11,[0,1,3,4,10,11,12,13,14,15,16]),(12,[0,1,3,4,10,11,12,13,14,15,16]),(15,[0,1,3,4,10,11,12,13]),(25,[0,3,4,10,11,12,13]),(28,[0,4,10,11,12,13]),(30,[10,12,13])],true⟩,
 ⟨[0,1,2,6,7,8,9,10,11,13,16,17,21,38,41,52,62,69],[],[],[],false,[],[],false,[(3,[0,1,2]),(10,[0,1,2,8]),(14,[2,8,9]),(16,[2,8,9]),(19,[8,9,10]),(21,[8,9]),(24,[11])],true⟩,
 ⟨[0,1,4],[],[],[],true,[],[(1,([(3,(0,1))],false))],false,[],true⟩,
 ⟨[0,1,4],[],[],[],true,[],[(1,([(3,(0,1))],false))],false,[],true⟩,
 ⟨[0,1,2,6],[],[],[],true,[],[],false,[],true⟩,
 ⟨[0,1,2,6],[],[],[],true,[],[],false,[],true⟩,
 ⟨[0,2],[],[],[],false,[],[],false,[],true⟩,
 ⟨[0,2,4,8,14],[],[],[],false,[],[],false,[(4,[0,2]),(7,[0,2]),(10,[0,2])],true⟩,
 ⟨[0,2,3],[],[],[],false,[],[],false,[(3,[])],true⟩,
 ⟨[0,2],[],[],[],false,[],[],false,[],true⟩,
 ⟨[0,2],[],[],[],false,[],[],false,[(2,[0])],true⟩,
 ⟨[0,1,2,6,7,8,9,10,11,12,13,15,16,17,19,25,32,37,40,52,64,77,83,85,90,92,99,100,101,102,106,112,121,137,141,159,169],[],[],[],false,[],[],false,[(3,[0,1,2]),(21,[0,1,2,8,9]),(25,[0,1,2,8,9]),(32,[0,1,2,8,9,10]),(36,[1,8,9,10,11,12,13,99,100,101]),(37,[1,8,9,10,11,12,13,99,100,101]),(46,[1,8,9,10,11,12,13,16,99,100,101]),(48,[1,8,9,10,11,12,13,16,99,100,101]),(50,[1,8,9,10,11,12,13,16,99,100,101]),(54,[1,8,9,10,11,12,17,99,100,101]),(55,[1,8,9,10,11,12,13,99,100,101]),(56,[9,12,13]),(58,[13])],true⟩,
 ⟨[0,2,3,6],[],[],[],false,[],[],false,[(3,[0])],true⟩,
 ⟨[0,2],[],[],[],false,[],[],false,[],true⟩,
 ⟨[0,2,4],[],[],[],false,[],[],false,[(3,[0])],true⟩,
 ⟨[0,2,4],[],[],[],false,[],[],false,[(3,[0])],true⟩,
 ⟨[0,2],[],[],[],false,[],[],false,[],true⟩,
 ⟨[0,2,3,4,5,18,46,54,83,87,89,91],[],[],[],false,[],[],false,[(5,[0,3,4]),(10,[0,3,4,5]),(12,[0,3,4,5]),(14,[0,3,4,5]),(17,[0,4,5]),(18,[0,3,4,5]),(20,[0,4,5]),(11,[0,3,4,5]),(21,[3])],true⟩,
 trydfh0,
 trydfh0,
 trydfh0,
 trydfh0,
 trydfh0,
 trydfh0,
 trydfh0,
 trydfh0,
 trydfh0,
 trydfh0,
 trydfh0,
 trydfh0,
 trydfh0,
 trydfh0,
 trydfh0,
 trydfh0,
 trydfh0,
 trydfh0,
 trydfh0,
 trydfh0,
 trydfh0,
 trydfh0,
 trydfh0,
 trydfh0,
 trydfh0,
 trydfh0,
 trydfh0,
 trydfh0,
 trydfh0,
 trydfh0,
 trydfh0,
 trydfh0,
 trydfh0,
 trydfh0,
 trydfh0,
 ⟨[],[],[],[(20,2)],false,[],[],false,[],true⟩]
def trydcells:List (Nat×List Nat):=[(113,[0,1]),(114,[0,1])]
def trydglobs:List (Nat×List AV):=[(0,[.int .u8 (0),.int .u8 (0),.int .u8 (0),.int .u8 (0),.int .u8 (0),.int .u8 (0),.int .u8 (0),.int .u8 (0),.int .u8 (0),.int .u8 (1),.int .u8 (1),.int .u8 (1),.int .u8 (1),.int .u8 (1),.int .u8 (0),.int .u8 (0),.int .u8 (0),.int .u8 (0),.int .u8 (0),.int .u8 (0),.int .u8 (0),.int .u8 (0),.int .u8 (0),.int .u8 (0),.int .u8 (0),.int .u8 (0),.int .u8 (0),.int .u8 (0),.int .u8 (0),.int .u8 (0),.int .u8 (0),.int .u8 (0),.int .u8 (1),.int .u8 (0),.int .u8 (0),.int .u8 (0),.int .u8 (0),.int .u8 (0),.int .u8 (0),.int .u8 (0),.int .u8 (0),.int .u8 (0),.int .u8 (0),.int .u8 (0),.int .u8 (0),.int .u8 (0),.int .u8 (0),.int .u8 (0),.int .u8 (0),.int .u8 (0),.int .u8 (0),.int .u8 (0),.int .u8 (0),.int .u8 (0),.int .u8 (0),.int .u8 (0),.int .u8 (0),.int .u8 (0),.int .u8 (0),.int .u8 (0),.int .u8 (0),.int .u8 (0),.int .u8 (0),.int .u8 (0),.int .u8 (0),.int .u8 (0),.int .u8 (0),.int .u8 (0),.int .u8 (0),.int .u8 (0),.int .u8 (0),.int .u8 (0),.int .u8 (0),.int .u8 (0),.int .u8 (0),.int .u8 (0),.int .u8 (0),.int .u8 (0),.int .u8 (0),.int .u8 (0),.int .u8 (0),.int .u8 (0),.int .u8 (0),.int .u8 (0),.int .u8 (0),.int .u8 (0),.int .u8 (0),.int .u8 (0),.int .u8 (0),.int .u8 (0),.int .u8 (0),.int .u8 (0),.int .u8 (0),.int .u8 (0),.int .u8 (0),.int .u8 (0),.int .u8 (0),.int .u8 (0),.int .u8 (0),.int .u8 (0),.int .u8 (0),.int .u8 (0),.int .u8 (0),.int .u8 (0),.int .u8 (0),.int .u8 (0),.int .u8 (0),.int .u8 (0),.int .u8 (0),.int .u8 (0),.int .u8 (0),.int .u8 (0),.int .u8 (0),.int .u8 (0),.int .u8 (0),.int .u8 (0),.int .u8 (0),.int .u8 (0),.int .u8 (0),.int .u8 (0),.int .u8 (0),.int .u8 (0),.int .u8 (0),.int .u8 (0),.int .u8 (0),.int .u8 (0),.int .u8 (0),.int .u8 (0),.int .u8 (0),.int .u8 (0),.int .u8 (0),.int .u8 (0),.int .u8 (0),.int .u8 (0),.int .u8 (0),.int .u8 (0),.int .u8 (0),.int .u8 (0),.int .u8 (0),.int .u8 (0),.int .u8 (0),.int .u8 (0),.int .u8 (0),.int .u8 (0),.int .u8 (0),.int .u8 (0),.int .u8 (0),.int .u8 (0),.int .u8 (0),.int .u8 (0),.int .u8 (0),.int .u8 (0),.int .u8 (0),.int .u8 (0),.int .u8 (0),.int .u8 (0),.int .u8 (0),.int .u8 (0),.int .u8 (0),.int .u8 (0),.int .u8 (0),.int .u8 (0),.int .u8 (0),.int .u8 (0),.int .u8 (0),.int .u8 (0),.int .u8 (0),.int .u8 (0),.int .u8 (0),.int .u8 (0),.int .u8 (0),.int .u8 (0),.int .u8 (0),.int .u8 (0),.int .u8 (0),.int .u8 (0),.int .u8 (0),.int .u8 (0),.int .u8 (0),.int .u8 (0),.int .u8 (0),.int .u8 (0),.int .u8 (0),.int .u8 (0),.int .u8 (0),.int .u8 (0),.int .u8 (0),.int .u8 (0),.int .u8 (0),.int .u8 (0),.int .u8 (0),.int .u8 (0),.int .u8 (0),.int .u8 (0),.int .u8 (0),.int .u8 (0),.int .u8 (0),.int .u8 (0),.int .u8 (0),.int .u8 (0),.int .u8 (0),.int .u8 (0),.int .u8 (0),.int .u8 (0),.int .u8 (0),.int .u8 (0),.int .u8 (0),.int .u8 (0),.int .u8 (0),.int .u8 (0),.int .u8 (0),.int .u8 (0),.int .u8 (0),.int .u8 (0),.int .u8 (0),.int .u8 (0),.int .u8 (0),.int .u8 (0),.int .u8 (0),.int .u8 (0),.int .u8 (0),.int .u8 (0),.int .u8 (0),.int .u8 (0),.int .u8 (0),.int .u8 (0),.int .u8 (0),.int .u8 (0),.int .u8 (0),.int .u8 (0),.int .u8 (0),.int .u8 (0),.int .u8 (0),.int .u8 (0),.int .u8 (0),.int .u8 (0),.int .u8 (0),.int .u8 (0),.int .u8 (0),.int .u8 (0),.int .u8 (0),.int .u8 (0),.int .u8 (0),.int .u8 (0),.int .u8 (0),.int .u8 (0),.int .u8 (0),.int .u8 (0),.int .u8 (0),.int .u8 (0),.int .u8 (0),.int .u8 (0),.int .u8 (0),.int .u8 (0),.int .u8 (0),.int .u8 (0)]),(3,[.int .u8 (240),.int .u8 (240),.int .u8 (240),.int .u8 (240),.int .u8 (240),.int .u8 (240),.int .u8 (240),.int .u8 (240),.int .u8 (240),.int .u8 (240),.int .u8 (240),.int .u8 (240),.int .u8 (240),.int .u8 (240),.int .u8 (240),.int .u8 (240),.int .u8 (240),.int .u8 (240),.int .u8 (240),.int .u8 (240),.int .u8 (240),.int .u8 (240),.int .u8 (240),.int .u8 (240),.int .u8 (240),.int .u8 (240),.int .u8 (240),.int .u8 (240),.int .u8 (240),.int .u8 (240),.int .u8 (240),.int .u8 (240),.int .u8 (240),.int .u8 (240),.int .u8 (240),.int .u8 (240),.int .u8 (240),.int .u8 (240),.int .u8 (240),.int .u8 (240),.int .u8 (240),.int .u8 (240),.int .u8 (240),.int .u8 (240),.int .u8 (240),.int .u8 (240),.int .u8 (240),.int .u8 (240),.int .u8 (240),.int .u8 (240),.int .u8 (240),.int .u8 (240),.int .u8 (240),.int .u8 (240),.int .u8 (240),.int .u8 (240),.int .u8 (240),.int .u8 (240),.int .u8 (240),.int .u8 (240),.int .u8 (240),.int .u8 (240),.int .u8 (240),.int .u8 (240),.int .u8 (240),.int .u8 (240),.int .u8 (240),.int .u8 (240),.int .u8 (240),.int .u8 (240),.int .u8 (240),.int .u8 (240),.int .u8 (240),.int .u8 (240),.int .u8 (240),.int .u8 (240),.int .u8 (240),.int .u8 (240),.int .u8 (240),.int .u8 (240),.int .u8 (240),.int .u8 (240),.int .u8 (240),.int .u8 (240),.int .u8 (240),.int .u8 (240),.int .u8 (240),.int .u8 (240),.int .u8 (240),.int .u8 (240),.int .u8 (240),.int .u8 (240),.int .u8 (240),.int .u8 (240),.int .u8 (240),.int .u8 (240),.int .u8 (240),.int .u8 (240),.int .u8 (240),.int .u8 (240),.int .u8 (240),.int .u8 (240),.int .u8 (240),.int .u8 (240),.int .u8 (240),.int .u8 (240),.int .u8 (240),.int .u8 (240),.int .u8 (240),.int .u8 (240),.int .u8 (240),.int .u8 (240),.int .u8 (240),.int .u8 (240),.int .u8 (240),.int .u8 (240),.int .u8 (240),.int .u8 (240),.int .u8 (240),.int .u8 (240),.int .u8 (240),.int .u8 (240),.int .u8 (240),.int .u8 (240),.int .u8 (240),.int .u8 (240),.int .u8 (240),.int .u8 (240),.int .u8 (241),.int .u8 (241),.int .u8 (241),.int .u8 (241),.int .u8 (241),.int .u8 (241),.int .u8 (241),.int .u8 (241),.int .u8 (241),.int .u8 (241),.int .u8 (241),.int .u8 (241),.int .u8 (241),.int .u8 (241),.int .u8 (241),.int .u8 (241),.int .u8 (241),.int .u8 (241),.int .u8 (241),.int .u8 (241),.int .u8 (241),.int .u8 (241),.int .u8 (241),.int .u8 (241),.int .u8 (241),.int .u8 (241),.int .u8 (241),.int .u8 (241),.int .u8 (241),.int .u8 (241),.int .u8 (241),.int .u8 (241),.int .u8 (241),.int .u8 (241),.int .u8 (241),.int .u8 (241),.int .u8 (241),.int .u8 (241),.int .u8 (241),.int .u8 (241),.int .u8 (241),.int .u8 (241),.int .u8 (241),.int .u8 (241),.int .u8 (241),.int .u8 (241),.int .u8 (241),.int .u8 (241),.int .u8 (241),.int .u8 (241),.int .u8 (241),.int .u8 (241),.int .u8 (241),.int .u8 (241),.int .u8 (241),.int .u8 (241),.int .u8 (241),.int .u8 (241),.int .u8 (241),.int .u8 (241),.int .u8 (241),.int .u8 (241),.int .u8 (241),.int .u8 (241),.int .u8 (241),.int .u8 (241),.int .u8 (2),.int .u8 (2),.int .u8 (2),.int .u8 (2),.int .u8 (2),.int .u8 (2),.int .u8 (2),.int .u8 (2),.int .u8 (2),.int .u8 (2),.int .u8 (2),.int .u8 (2),.int .u8 (2),.int .u8 (2),.int .u8 (2),.int .u8 (2),.int .u8 (2),.int .u8 (2),.int .u8 (2),.int .u8 (2),.int .u8 (2),.int .u8 (2),.int .u8 (2),.int .u8 (2),.int .u8 (2),.int .u8 (2),.int .u8 (2),.int .u8 (2),.int .u8 (2),.int .u8 (2),.int .u8 (19),.int .u8 (3),.int .u8 (3),.int .u8 (3),.int .u8 (3),.int .u8 (3),.int .u8 (3),.int .u8 (3),.int .u8 (3),.int .u8 (3),.int .u8 (3),.int .u8 (3),.int .u8 (3),.int .u8 (35),.int .u8 (3),.int .u8 (3),.int .u8 (52),.int .u8 (4),.int .u8 (4),.int .u8 (4),.int .u8 (68),.int .u8 (241),.int .u8 (241),.int .u8 (241),.int .u8 (241),.int .u8 (241),.int .u8 (241),.int .u8 (241),.int .u8 (241),.int .u8 (241),.int .u8 (241),.int .u8 (241)]),(4,[.int .u8 (128),.int .u8 (191),.int .u8 (160),.int .u8 (191),.int .u8 (128),.int .u8 (159),.int .u8 (144),.int .u8 (191),.int .u8 (128),.int .u8 (143),.int .u8 (0),.int .u8 (0),.int .u8 (0),.int .u8 (0),.int .u8 (0),.int .u8 (0),.int .u8 (0),.int .u8 (0),.int .u8 (0),.int .u8 (0),.int .u8 (0),.int .u8 (0),.int .u8 (0),.int .u8 (0),.int .u8 (0),.int .u8 (0),.int .u8 (0),.int .u8 (0),.int .u8 (0),.int .u8 (0),.int .u8 (0),.int .u8 (0)]),(7,[.iface 149 (.ip [.str [118,97,108,117,101,32,111,117,116,32,111,102,32,114,97,110,103,101]] 0)])]
def trydat (f:Nat):trydFH:=trydfhs.getD f trydfh0
def trydhints:Hints :=
 {keep:=fun f=>(trydat f).keep,glob:=fun g=>(trydglobs.find? (·.1==g)).map (·.2),homes:=fun f=>(trydat f).homes.length,
  home:=fun f s=>match (trydat f).homes.findIdx? (·.1.contains s) with | some i=>some (none,i,(((trydat f).homes[i]?).map (·.2)).getD false) | none=>(((trydat f).ats.find? fun x=>x.1==s).map fun x=>(some x.2.1,0,x.2.2)),
  comp:=fun f s=>(((trydat f).comps.find? fun x=>x.1==s).map (·.2)).getD 0,
  cidx:=fun t c=>(((trydcells.find? (·.1==t)).bind fun x=>x.2.idxOf? c)).getD 0,
  keepObj:=fun f=>(trydat f).keepObj,loopKeep:=fun f=>(trydat f).loopKeep,frz:=fun f s=>(trydat f).frz.contains s,
  recheck:=fun f id=>(((trydat f).rck.find? fun x=>x.1==id).map fun x=>x.2.1).getD [],
  pok:=fun f id=>(((trydat f).rck.find? fun x=>x.1==id).map fun x=>x.2.2).getD false,
  prim:=fun f=>if f=65 then some (atoiP 131 (.iface 149 (.ip [.str [118,97,108,117,101,32,111,117,116,32,111,102,32,114,97,110,103,101]] 0))) else if f=71 then some itoaP else none,
  ext:=fun f=>if f=61 then some sameX else if f=63 then some indexX else none,
  recov:=fun f=>(trydat f).recov,
  live:=fun f k=>((trydat f).live.find? fun x=>x.1==k).map (·.2)}
end Go.Abs
namespace Go.Abs
open Go Go.Proofs
set_option maxRecDepth 100000
noncomputable abbrev cw:=callW Tryd.prog trydhints
noncomputable abbrev aw:=atW Tryd.prog trydhints
noncomputable abbrev gw:=atG (P:=Tryd.prog) (H:=trydhints)
def T_space:List AV:=[AV.int .u8 0,AV.int .u8 0,AV.int .u8 0,AV.int .u8 0,AV.int .u8 0,AV.int .u8 0,AV.int .u8 0,AV.int .u8 0,AV.int .u8 0,AV.int .u8 1,AV.int .u8 1,AV.int .u8 1,AV.int .u8 1,AV.int .u8 1,AV.int .u8 0,AV.int .u8 0,AV.int .u8 0,AV.int .u8 0,AV.int .u8 0,AV.int .u8 0,AV.int .u8 0,AV.int .u8 0,AV.int .u8 0,AV.int .u8 0,AV.int .u8 0,AV.int .u8 0,AV.int .u8 0,AV.int .u8 0,AV.int .u8 0,AV.int .u8 0,AV.int .u8 0,AV.int .u8 0,AV.int .u8 1,AV.int .u8 0,AV.int .u8 0,AV.int .u8 0,AV.int .u8 0,AV.int .u8 0,AV.int .u8 0,AV.int .u8 0,AV.int .u8 0,AV.int .u8 0,AV.int .u8 0,AV.int .u8 0,AV.int .u8 0,AV.int .u8 0,AV.int .u8 0,AV.int .u8 0,AV.int .u8 0,AV.int .u8 0,AV.int .u8 0,AV.int .u8 0,AV.int .u8 0,AV.int .u8 0,AV.int .u8 0,AV.int .u8 0,AV.int .u8 0,AV.int .u8 0,AV.int .u8 0,AV.int .u8 0,AV.int .u8 0,AV.int .u8 0,AV.int .u8 0,AV.int .u8 0,AV.int .u8 0,AV.int .u8 0,AV.int .u8 0,AV.int .u8 0,AV.int .u8 0,AV.int .u8 0,AV.int .u8 0,AV.int .u8 0,AV.int .u8 0,AV.int .u8 0,AV.int .u8 0,AV.int .u8 0,AV.int .u8 0,AV.int .u8 0,AV.int .u8 0,AV.int .u8 0,AV.int .u8 0,AV.int .u8 0,AV.int .u8 0,AV.int .u8 0,AV.int .u8 0,AV.int .u8 0,AV.int .u8 0,AV.int .u8 0,AV.int .u8 0,AV.int .u8 0,AV.int .u8 0,AV.int .u8 0,AV.int .u8 0,AV.int .u8 0,AV.int .u8 0,AV.int .u8 0,AV.int .u8 0,AV.int .u8 0,AV.int .u8 0,AV.int .u8 0,AV.int .u8 0,AV.int .u8 0,AV.int .u8 0,AV.int .u8 0,AV.int .u8 0,AV.int .u8 0,AV.int .u8 0,AV.int .u8 0,AV.int .u8 0,AV.int .u8 0,AV.int .u8 0,AV.int .u8 0,AV.int .u8 0,AV.int .u8 0,AV.int .u8 0,AV.int .u8 0,AV.int .u8 0,AV.int .u8 0,AV.int .u8 0,AV.int .u8 0,AV.int .u8 0,AV.int .u8 0,AV.int .u8 0,AV.int .u8 0,AV.int .u8 0,AV.int .u8 0,AV.int .u8 0,AV.int .u8 0,AV.int .u8 0,AV.int .u8 0,AV.int .u8 0,AV.int .u8 0,AV.int .u8 0,AV.int .u8 0,AV.int .u8 0,AV.int .u8 0,AV.int .u8 0,AV.int .u8 0,AV.int .u8 0,AV.int .u8 0,AV.int .u8 0,AV.int .u8 0,AV.int .u8 0,AV.int .u8 0,AV.int .u8 0,AV.int .u8 0,AV.int .u8 0,AV.int .u8 0,AV.int .u8 0,AV.int .u8 0,AV.int .u8 0,AV.int .u8 0,AV.int .u8 0,AV.int .u8 0,AV.int .u8 0,AV.int .u8 0,AV.int .u8 0,AV.int .u8 0,AV.int .u8 0,AV.int .u8 0,AV.int .u8 0,AV.int .u8 0,AV.int .u8 0,AV.int .u8 0,AV.int .u8 0,AV.int .u8 0,AV.int .u8 0,AV.int .u8 0,AV.int .u8 0,AV.int .u8 0,AV.int .u8 0,AV.int .u8 0,AV.int .u8 0,AV.int .u8 0,AV.int .u8 0,AV.int .u8 0,AV.int .u8 0,AV.int .u8 0,AV.int .u8 0,AV.int .u8 0,AV.int .u8 0,AV.int .u8 0,AV.int .u8 0,AV.int .u8 0,AV.int .u8 0,AV.int .u8 0,AV.int .u8 0,AV.int .u8 0,AV.int .u8 0,AV.int .u8 0,AV.int .u8 0,AV.int .u8 0,AV.int .u8 0,AV.int .u8 0,AV.int .u8 0,AV.int .u8 0,AV.int .u8 0,AV.int .u8 0,AV.int .u8 0,AV.int .u8 0,AV.int .u8 0,AV.int .u8 0,AV.int .u8 0,AV.int .u8 0,AV.int .u8 0,AV.int .u8 0,AV.int .u8 0,AV.int .u8 0,AV.int .u8 0,AV.int .u8 0,AV.int .u8 0,AV.int .u8 0,AV.int .u8 0,AV.int .u8 0,AV.int .u8 0,AV.int .u8 0,AV.int .u8 0,AV.int .u8 0,AV.int .u8 0,AV.int .u8 0,AV.int .u8 0,AV.int .u8 0,AV.int .u8 0,AV.int .u8 0,AV.int .u8 0,AV.int .u8 0,AV.int .u8 0,AV.int .u8 0,AV.int .u8 0,AV.int .u8 0,AV.int .u8 0,AV.int .u8 0,AV.int .u8 0,AV.int .u8 0,AV.int .u8 0,AV.int .u8 0,AV.int .u8 0,AV.int .u8 0,AV.int .u8 0,AV.int .u8 0,AV.int .u8 0,AV.int .u8 0,AV.int .u8 0,AV.int .u8 0,AV.int .u8 0,AV.int .u8 0,AV.int .u8 0,AV.int .u8 0,AV.int .u8 0,AV.int .u8 0,AV.int .u8 0,AV.int .u8 0,AV.int .u8 0,AV.int .u8 0,AV.int .u8 0,AV.int .u8 0]
def T_first:List AV:=[AV.int .u8 240,AV.int .u8 240,AV.int .u8 240,AV.int .u8 240,AV.int .u8 240,AV.int .u8 240,AV.int .u8 240,AV.int .u8 240,AV.int .u8 240,AV.int .u8 240,AV.int .u8 240,AV.int .u8 240,AV.int .u8 240,AV.int .u8 240,AV.int .u8 240,AV.int .u8 240,AV.int .u8 240,AV.int .u8 240,AV.int .u8 240,AV.int .u8 240,AV.int .u8 240,AV.int .u8 240,AV.int .u8 240,AV.int .u8 240,AV.int .u8 240,AV.int .u8 240,AV.int .u8 240,AV.int .u8 240,AV.int .u8 240,AV.int .u8 240,AV.int .u8 240,AV.int .u8 240,AV.int .u8 240,AV.int .u8 240,AV.int .u8 240,AV.int .u8 240,AV.int .u8 240,AV.int .u8 240,AV.int .u8 240,AV.int .u8 240,AV.int .u8 240,AV.int .u8 240,AV.int .u8 240,AV.int .u8 240,AV.int .u8 240,AV.int .u8 240,AV.int .u8 240,AV.int .u8 240,AV.int .u8 240,AV.int .u8 240,AV.int .u8 240,AV.int .u8 240,AV.int .u8 240,AV.int .u8 240,AV.int .u8 240,AV.int .u8 240,AV.int .u8 240,AV.int .u8 240,AV.int .u8 240,AV.int .u8 240,AV.int .u8 240,AV.int .u8 240,AV.int .u8 240,AV.int .u8 240,AV.int .u8 240,AV.int .u8 240,AV.int .u8 240,AV.int .u8 240,AV.int .u8 240,AV.int .u8 240,AV.int .u8 240,AV.int .u8 240,AV.int .u8 240,AV.int .u8 240,AV.int .u8 240,AV.int .u8 240,AV.int .u8 240,AV.int .u8 240,AV.int .u8 240,AV.int .u8 240,AV.int .u8 240,AV.int .u8 240,AV.int .u8 240,AV.int .u8 240,AV.int .u8 240,AV.int .u8 240,AV.int .u8 240,AV.int .u8 240,AV.int .u8 240,AV.int .u8 240,AV.int .u8 240,AV.int .u8 240,AV.int .u8 240,AV.int .u8 240,AV.int .u8 240,AV.int .u8 240,AV.int .u8 240,AV.int .u8 240,AV.int .u8 240,AV.int .u8 240,AV.int .u8 240,AV.int .u8 240,AV.int .u8 240,AV.int .u8 240,AV.int .u8 240,AV.int .u8 240,AV.int .u8 240,AV.int .u8 240,AV.int .u8 240,AV.int .u8 240,AV.int .u8 240,AV.int .u8 240,AV.int .u8 240,AV.int .u8 240,AV.int .u8 240,AV.int .u8 240,AV.int .u8 240,AV.int .u8 240,AV.int .u8 240,AV.int .u8 240,AV.int .u8 240,AV.int .u8 240,AV.int .u8 240,AV.int .u8 240,AV.int .u8 240,AV.int .u8 240,AV.int .u8 240,AV.int .u8 240,AV.int .u8 241,AV.int .u8 241,AV.int .u8 241,AV.int .u8 241,AV.int .u8 241,AV.int .u8 241,AV.int .u8 241,AV.int .u8 241,AV.int .u8 241,AV.int .u8 241,AV.int .u8 241,AV.int .u8 241,AV.int .u8 241,AV.int .u8 241,AV.int .u8 241,AV.int .u8 241,AV.int .u8 241,AV.int .u8 241,AV.int .u8 241,AV.int .u8 241,AV.int .u8 241,AV.int .u8 241,AV.int .u8 241,AV.int .u8 241,AV.int .u8 241,AV.int .u8 241,AV.int .u8 241,AV.int .u8 241,AV.int .u8 241,AV.int .u8 241,AV.int .u8 241,AV.int .u8 241,AV.int .u8 241,AV.int .u8 241,AV.int .u8 241,AV.int .u8 241,AV.int .u8 241,AV.int .u8 241,AV.int .u8 241,AV.int .u8 241,AV.int .u8 241,AV.int .u8 241,AV.int .u8 241,AV.int .u8 241,AV.int .u8 241,AV.int .u8 241,AV.int .u8 241,AV.int .u8 241,AV.int .u8 241,AV.int .u8 241,AV.int .u8 241,AV.int .u8 241,AV.int .u8 241,AV.int .u8 241,AV.int .u8 241,AV.int .u8 241,AV.int .u8 241,AV.int .u8 241,AV.int .u8 241,AV.int .u8 241,AV.int .u8 241,AV.int .u8 241,AV.int .u8 241,AV.int .u8 241,AV.int .u8 241,AV.int .u8 241,AV.int .u8 2,AV.int .u8 2,AV.int .u8 2,AV.int .u8 2,AV.int .u8 2,AV.int .u8 2,AV.int .u8 2,AV.int .u8 2,AV.int .u8 2,AV.int .u8 2,AV.int .u8 2,AV.int .u8 2,AV.int .u8 2,AV.int .u8 2,AV.int .u8 2,AV.int .u8 2,AV.int .u8 2,AV.int .u8 2,AV.int .u8 2,AV.int .u8 2,AV.int .u8 2,AV.int .u8 2,AV.int .u8 2,AV.int .u8 2,AV.int .u8 2,AV.int .u8 2,AV.int .u8 2,AV.int .u8 2,AV.int .u8 2,AV.int .u8 2,AV.int .u8 19,AV.int .u8 3,AV.int .u8 3,AV.int .u8 3,AV.int .u8 3,AV.int .u8 3,AV.int .u8 3,AV.int .u8 3,AV.int .u8 3,AV.int .u8 3,AV.int .u8 3,AV.int .u8 3,AV.int .u8 3,AV.int .u8 35,AV.int .u8 3,AV.int .u8 3,AV.int .u8 52,AV.int .u8 4,AV.int .u8 4,AV.int .u8 4,AV.int .u8 68,AV.int .u8 241,AV.int .u8 241,AV.int .u8 241,AV.int .u8 241,AV.int .u8 241,AV.int .u8 241,AV.int .u8 241,AV.int .u8 241,AV.int .u8 241,AV.int .u8 241,AV.int .u8 241]
theorem F10 (e0:Int) (st:St) {r:AOut×St} (h:(outL false (st.length) (AOut.ret (AV.int .i64 e0)) st)=some r):cw 10 [AV.int .i64 e0] st=some r:=callW_of (Eq.trans (by kernel_rfl) h)
theorem F12 (a0_Op:Int) (a0_Int:Int) (a0_Str:List UInt8) (a0_Kids:AV) (b1_Op:Int) (b1_Int:Int) (b1_Str:List UInt8) (b1_Kids:AV) (st:St) {r:AOut×St} (h:((cellsV 4 (AV.agg [AV.int .i64 a0_Op,AV.int .i64 a0_Int,AV.str a0_Str,a0_Kids])).bind fun cs=>(cellsV 4 (AV.agg [AV.int .i64 b1_Op,AV.int .i64 b1_Int,AV.str b1_Str,b1_Kids])).bind fun cs_1=>(readA (AObj.free 0::AObj.box 24 cs_1::AObj.free 0::AObj.box 24 cs::st) (AV.bp (st.length) 0) 1 false).bind fun v=>(intV IntKind.i64 v).bind fun n=>(readA (AObj.free 0::AObj.box 24 cs_1::AObj.free 0::AObj.box 24 cs::st) (AV.bp (AObj.free 0::AObj.box 24 cs::st).length 0) 1 false).bind fun v=>(intV IntKind.i64 v).bind fun n_1=>bif n==n_1 then (readA (AObj.free 0::AObj.box 24 cs_1::AObj.free 0::AObj.box 24 cs::st) (AV.bp (st.length) 1) 1 false).bind fun v=>(intV IntKind.i64 v).bind fun n=>(readA (AObj.free 0::AObj.box 24 cs_1::AObj.free 0::AObj.box 24 cs::st) (AV.bp (AObj.free 0::AObj.box 24 cs::st).length 1) 1 false).bind fun v=>(intV IntKind.i64 v).bind fun n_2=>bif n==n_2 then (readA (AObj.free 0::AObj.box 24 cs_1::AObj.free 0::AObj.box 24 cs::st) (AV.bp (st.length) 2) 1 false).bind fun v=>(strV v).bind fun s=>(readA (AObj.free 0::AObj.box 24 cs_1::AObj.free 0::AObj.box 24 cs::st) (AV.bp (AObj.free 0::AObj.box 24 cs::st).length 2) 1 false).bind fun v=>(strV v).bind fun s_1=>(strA BinOp.eql s s_1).bind fun v=>(boolV v).bind fun b=>bif b then (readA (AObj.free 0::AObj.box 24 cs_1::AObj.free 0::AObj.box 24 cs::st) (AV.bp (st.length) 3) 1 false).bind fun v=>(readA (AObj.free 0::AObj.box 24 cs_1::AObj.free 0::AObj.box 24 cs::st) (AV.bp (AObj.free 0::AObj.box 24 cs::st).length 3) 1 false).bind fun v_1=>callB (cw 22 [v,v_1] (AObj.free 0::AObj.box 24 cs_1::AObj.free 0::AObj.box 24 cs::st)) (fun v st_1=>(boolV v).bind fun b=>outL false (st.length) (AOut.ret (AV.bool b)) st_1) fun v st_1=>outL false (st.length) (AOut.pan v) st_1 else outL false (st.length) (AOut.ret (AV.bool false)) (AObj.free 0::AObj.box 24 cs_1::AObj.free 0::AObj.box 24 cs::st) else outL false (st.length) (AOut.ret (AV.bool false)) (AObj.free 0::AObj.box 24 cs_1::AObj.free 0::AObj.box 24 cs::st) else outL false (st.length) (AOut.ret (AV.bool false)) (AObj.free 0::AObj.box 24 cs_1::AObj.free 0::AObj.box 24 cs::st))=some r):cw 12 [AV.agg [AV.int .i64 a0_Op,AV.int .i64 a0_Int,AV.str a0_Str,a0_Kids],AV.agg [AV.int .i64 b1_Op,AV.int .i64 b1_Int,AV.str b1_Str,b1_Kids]] st=some r:=callW_of (Eq.trans (by kernel_rfl) h)
abbrev p22_0:List Dir:=[.sr,.sr,.sl,.sr,.bk]
theorem F22 (a0:AV) (b1:AV) (st:St) {r:AOut×St} (h:((lenSl a0).bind fun v=>(intV IntKind.i64 v).bind fun n=>(lenSl b1).bind fun v=>(intV IntKind.i64 v).bind fun n_1=>bif n != n_1 then outL false (st.length) (AOut.ret (AV.bool false)) st else aw 22 (st.length) p22_0 {env:=[(0,a0),(1,b1),(5,AV.int .i64 0)],defers:=[]} st)=some r):cw 22 [a0,b1] st=some r:=callW_of (Eq.trans (by kernel_rfl) h)
theorem F22_0 (a0:AV) (b1:AV) (i5:Int) (base:Nat) (st:St) {r:AOut×St} (h:((lenSl a0).bind fun v=>(intV IntKind.i64 v).bind fun n=>bif decide (i5<n) then (natA (AV.int .i64 i5)).bind fun j=>(idxSl st 4 a0 j).bind fun v=>(readA st v 4 true).bind fun v=>(natA (AV.int .i64 i5)).bind fun j=>(idxSl st 4 b1 j).bind fun v_1=>(readA st v_1 4 true).bind fun v_2=>callB (cw 12 [v,v_2] st) (fun v st=>(boolV v).bind fun b=>bif !b then outL false base (AOut.ret (AV.bool false)) st else aw 22 base p22_0 {env:=[(0,a0),(1,b1),(5,AV.int .i64 (IntKind.i64.wrap (i5+1)))],defers:=[]} st) fun v st=>outL false base (AOut.pan v) st else outL false base (AOut.ret (AV.bool true)) st)=some r):aw 22 base p22_0 {env:=[(0,a0),(1,b1),(5,AV.int .i64 i5)],defers:=[]} st=some r:=atW_of (Eq.trans (by kernel_rfl) h)
abbrev p14_0:List Dir:=[.sr,.sr,.sl,.sr,.bk]
theorem F14 (e0_Op:Int) (e0_Int:Int) (e0_Str:List UInt8) (e0_Kids:AV) (left1:Int) (st:St) {r:AOut×St} (h:((cellsV 4 (AV.agg [AV.int .i64 e0_Op,AV.int .i64 e0_Int,AV.str e0_Str,e0_Kids])).bind fun cs=>bif left1==0 then outL false (st.length) (AOut.ret (AV.bool false)) (AObj.free 0::AObj.box 24 cs::st) else aw 14 (st.length) p14_0 {env:=[(1,AV.int .i64 left1),(2,AV.bp (st.length) 0),(5,AV.int .i64 0)],defers:=[]} (AObj.free 0::AObj.box 24 cs::st))=some r):cw 14 [AV.agg [AV.int .i64 e0_Op,AV.int .i64 e0_Int,AV.str e0_Str,e0_Kids],AV.int .i64 left1] st=some r:=callW_of (Eq.trans (by kernel_rfl) h)
theorem F14_0 (left1:Int) (e2:AV) (i5:Int) (base:Nat) (st:St) {r:AOut×St} (h:((ptrAdd 3 e2).bind fun v=>(readA st v 1 false).bind fun v=>(lenSl v).bind fun v=>(intV IntKind.i64 v).bind fun n=>bif decide (i5<n) then (ptrAdd 3 e2).bind fun v=>(readA st v 1 false).bind fun v=>(natA (AV.int .i64 i5)).bind fun j=>(idxSl st 4 v j).bind fun v=>(readA st v 4 true).bind fun v=>callB (cw 14 [v,AV.int .i64 (IntKind.i64.wrap (left1 - 1))] st) (fun v st=>(boolV v).bind fun b=>bif !b then outL false base (AOut.ret (AV.bool false)) st else aw 14 base p14_0 {env:=[(1,AV.int .i64 left1),(2,e2),(5,AV.int .i64 (IntKind.i64.wrap (i5+1)))],defers:=[]} st) fun v st=>outL false base (AOut.pan v) st else outL false base (AOut.ret (AV.bool true)) st)=some r):aw 14 base p14_0 {env:=[(1,AV.int .i64 left1),(2,e2),(5,AV.int .i64 i5)],defers:=[]} st=some r:=atW_of (Eq.trans (by kernel_rfl) h)
theorem F8 (e0_Op:Int) (e0_Int:Int) (e0_Str:List UInt8) (e0_Kids:AV) (st:St) {r:AOut×St} (h:((cellsV 4 (AV.agg [AV.int .i64 e0_Op,AV.int .i64 e0_Int,AV.str e0_Str,e0_Kids])).bind fun cs=>(readA (AObj.free 0::AObj.box 24 cs::st) (AV.bp (st.length) 0) 4 true).bind fun v=>callB (cw 14 [v,AV.int .i64 4096] (AObj.free 0::AObj.box 24 cs::st)) (fun v st_1=>(boolV v).bind fun b=>outL false (st.length) (AOut.ret (AV.bool b)) st_1) fun v st_1=>outL false (st.length) (AOut.pan v) st_1)=some r):cw 8 [AV.agg [AV.int .i64 e0_Op,AV.int .i64 e0_Int,AV.str e0_Str,e0_Kids]] st=some r:=callW_of (Eq.trans (by kernel_rfl) h)
theorem F30 (st:St) {r:AOut×St} (h:((cellsV 2 (AV.agg [AV.str [UInt8.ofNat 124,UInt8.ofNat 124],AV.int .i64 30])).bind fun cs=>(cellsV 2 (AV.agg [AV.str [UInt8.ofNat 38,UInt8.ofNat 38],AV.int .i64 29])).bind fun cs_1=>(cellsV 2 (AV.agg [AV.str [UInt8.ofNat 61,UInt8.ofNat 61],AV.int .i64 27])).bind fun cs_2=>(cellsV 2 (AV.agg [AV.str [UInt8.ofNat 33,UInt8.ofNat 61],AV.int .i64 28])).bind fun cs_3=>(cellsV 2 (AV.agg [AV.str [UInt8.ofNat 60],AV.int .i64 23])).bind fun cs_4=>(cellsV 2 (AV.agg [AV.str [UInt8.ofNat 60,UInt8.ofNat 61],AV.int .i64 24])).bind fun cs_5=>(cellsV 2 (AV.agg [AV.str [UInt8.ofNat 62],AV.int .i64 25])).bind fun cs_6=>(cellsV 2 (AV.agg [AV.str [UInt8.ofNat 62,UInt8.ofNat 61],AV.int .i64 26])).bind fun cs_7=>(cellsV 2 (AV.agg [AV.str [UInt8.ofNat 124],AV.int .i64 22])).bind fun cs_8=>(cellsV 2 (AV.agg [AV.str [UInt8.ofNat 94],AV.int .i64 21])).bind fun cs_9=>(cellsV 2 (AV.agg [AV.str [UInt8.ofNat 38],AV.int .i64 20])).bind fun cs_10=>(cellsV 2 (AV.agg [AV.str [UInt8.ofNat 60,UInt8.ofNat 60],AV.int .i64 18])).bind fun cs_11=>(cellsV 2 (AV.agg [AV.str [UInt8.ofNat 62,UInt8.ofNat 62],AV.int .i64 19])).bind fun cs_12=>(cellsV 2 (AV.agg [AV.str [UInt8.ofNat 126],AV.int .i64 17])).bind fun cs_13=>(cellsV 2 (AV.agg [AV.str [UInt8.ofNat 43],AV.int .i64 15])).bind fun cs_14=>(cellsV 2 (AV.agg [AV.str [UInt8.ofNat 45],AV.int .i64 16])).bind fun cs_15=>(cellsV 2 (AV.agg [AV.str [UInt8.ofNat 42],AV.int .i64 12])).bind fun cs_16=>(cellsV 2 (AV.agg [AV.str [UInt8.ofNat 47],AV.int .i64 13])).bind fun cs_17=>(cellsV 2 (AV.agg [AV.str [UInt8.ofNat 37],AV.int .i64 14])).bind fun cs_18=>outL false (st.length) (AOut.ret (AV.sl 1 [[AV.sl 2 [List.map AV.strip cs] 0 1 Tok.no],[AV.sl 2 [List.map AV.strip cs_1] 0 1 Tok.no],[AV.sl 2 [List.map AV.strip cs_2,List.map AV.strip cs_3] 0 2 Tok.no],[AV.sl 2 [List.map AV.strip cs_4,List.map AV.strip cs_5,List.map AV.strip cs_6,List.map AV.strip cs_7] 0 4 Tok.no],[AV.sl 2 [List.map AV.strip cs_8] 0 1 Tok.no],[AV.sl 2 [List.map AV.strip cs_9] 0 1 Tok.no],[AV.sl 2 [List.map AV.strip cs_10] 0 1 Tok.no],[AV.sl 2 [List.map AV.strip cs_11,List.map AV.strip cs_12] 0 2 Tok.no],[AV.sl 2 [List.map AV.strip cs_13] 0 1 Tok.no],[AV.sl 2 [List.map AV.strip cs_14,List.map AV.strip cs_15] 0 2 Tok.no],[AV.sl 2 [List.map AV.strip cs_16,List.map AV.strip cs_17,List.map AV.strip cs_18] 0 3 Tok.no]] 0 11 Tok.exact)) st)=some r):cw 30 [] st=some r:=callW_of (Eq.trans (by kernel_rfl) h)
theorem F56 (st:St) {r:AOut×St} (h:(callB (cw 44 [AV.str [UInt8.ofNat 124,UInt8.ofNat 124,UInt8.ofNat 32,UInt8.ofNat 38,UInt8.ofNat 38,UInt8.ofNat 32,UInt8.ofNat 61,UInt8.ofNat 61,UInt8.ofNat 32,UInt8.ofNat 33,UInt8.ofNat 61,UInt8.ofNat 32,UInt8.ofNat 60,UInt8.ofNat 61,UInt8.ofNat 32,UInt8.ofNat 62,UInt8.ofNat 61,UInt8.ofNat 32,UInt8.ofNat 60,UInt8.ofNat 60,UInt8.ofNat 32,UInt8.ofNat 62,UInt8.ofNat 62,UInt8.ofNat 32,UInt8.ofNat 63,UInt8.ofNat 32,UInt8.ofNat 58,UInt8.ofNat 32,UInt8.ofNat 60,UInt8.ofNat 32,UInt8.ofNat 62,UInt8.ofNat 32,UInt8.ofNat 124,UInt8.ofNat 32,UInt8.ofNat 94,UInt8.ofNat 32,UInt8.ofNat 38,UInt8.ofNat 32,UInt8.ofNat 126,UInt8.ofNat 32,UInt8.ofNat 43,UInt8.ofNat 32,UInt8.ofNat 45,UInt8.ofNat 32,UInt8.ofNat 42,UInt8.ofNat 32,UInt8.ofNat 47,UInt8.ofNat 32,UInt8.ofNat 37,UInt8.ofNat 32,UInt8.ofNat 33,UInt8.ofNat 32,UInt8.ofNat 46,UInt8.ofNat 32,UInt8.ofNat 91,UInt8.ofNat 32,UInt8.ofNat 93,UInt8.ofNat 32,UInt8.ofNat 40,UInt8.ofNat 32,UInt8.ofNat 41]] st) (fun v st_1=>bind2 (freezeA st_1 v) fun v st_2=>outL false (st.length) (AOut.ret v) st_2) fun v st_1=>outL false (st.length) (AOut.pan v) st_1)=some r):cw 56 [] st=some r:=callW_of (Eq.trans (by kernel_rfl) h)
theorem F25 (st:St) {r:AOut×St} (h:(callB (cw 44 [AV.str [UInt8.ofNat 108,UInt8.ofNat 101,UInt8.ofNat 110,UInt8.ofNat 32,UInt8.ofNat 115,UInt8.ofNat 116,UInt8.ofNat 114,UInt8.ofNat 32,UInt8.ofNat 105,UInt8.ofNat 56,UInt8.ofNat 32,UInt8.ofNat 117,UInt8.ofNat 56,UInt8.ofNat 32,UInt8.ofNat 105,UInt8.ofNat 49,UInt8.ofNat 54,UInt8.ofNat 32,UInt8.ofNat 117,UInt8.ofNat 49,UInt8.ofNat 54,UInt8.ofNat 32,UInt8.ofNat 105,UInt8.ofNat 51,UInt8.ofNat 50,UInt8.ofNat 32,UInt8.ofNat 117,UInt8.ofNat 51,UInt8.ofNat 50]] st) (fun v st_1=>bind2 (freezeA st_1 v) fun v st_2=>outL false (st.length) (AOut.ret v) st_2) fun v st_1=>outL false (st.length) (AOut.pan v) st_1)=some r):cw 25 [] st=some r:=callW_of (Eq.trans (by kernel_rfl) h)
theorem F21 (r0:AV) (st:St) {r:AOut×St} (h:((nilCheckA r0).bind fun v=>(ptrAdd 3 v).bind fun v=>(ptrAdd 3 v).bind fun v=>(readA st v 1 false).bind fun v=>(intV IntKind.i64 v).bind fun n=>callB (cw 40 [AV.int .i64 1000,AV.int .i64 n] st) (fun v st_1=>outL false (st.length) (AOut.ret (AV.tup [])) st_1) fun v st_1=>outL false (st.length) (AOut.pan v) st_1)=some r):cw 21 [r0] st=some r:=callW_of (Eq.trans (by kernel_rfl) h)
theorem F40 (code0:Int) (at1:Int) (st:St) {r:AOut×St} (h:(outL false (st.length) (AOut.pan (AV.iface 53 (AV.agg [AV.int .i64 code0,AV.int .i64 at1]))) st)=some r):cw 40 [AV.int .i64 code0,AV.int .i64 at1] st=some r:=callW_of (Eq.trans (by kernel_rfl) h)
theorem F42 (r0:AV) (s1:List UInt8) (st:St) {r:AOut×St} (h:((nilCheckA r0).bind fun v=>(ptrAdd 3 v).bind fun v=>(ptrAdd 0 v).bind fun v=>(readA st v 1 false).bind fun v=>(intV IntKind.i64 v).bind fun n=>bif n==4 then (nilCheckA r0).bind fun v=>(ptrAdd 3 v).bind fun v=>(ptrAdd 1 v).bind fun v=>(readA st v 1 false).bind fun v=>(strV v).bind fun s=>(strA BinOp.eql s s1).bind fun v=>(boolV v).bind fun b=>outL false (st.length) (AOut.ret (AV.bool b)) st else outL false (st.length) (AOut.ret (AV.bool false)) st)=some r):cw 42 [r0,AV.str s1] st=some r:=callW_of (Eq.trans (by kernel_rfl) h)
end Go.Abs
namespace Go.Abs
open Go Go.Proofs
set_option maxRecDepth 100000
abbrev p16_0:List Dir:=[.sr,.sr,.sl,.sr,.bk]
abbrev p16_1 (n3:Nat):List Dir:=[.sr,.sr,.sl,.sr,.bk,.lp n3,.sr,.sr,.sl,.bk,.sr,.sr,.bk]
theorem F16 (w0:AV) (e1:AV) (least2:Int) (st:St) {r:AOut×St} (h:(callB (cw 30 [] st) (fun v st_1=>(lenSl v).bind fun v_1=>(intV IntKind.i64 v_1).bind fun n=>aw 16 (st.length) p16_0 {env:=[(0,w0),(1,e1),(2,AV.int .i64 least2),(6,AV.int .i64 13),(7,AV.str []),(12,v),(13,AV.int .i64 n),(14,AV.int .i64 0)],defers:=[]} st_1) fun v st_1=>outL false (st.length) (AOut.pan v) st_1)=some r):cw 16 [w0,e1,AV.int .i64 least2] st=some r:=callW_of (Eq.trans (by kernel_rfl) h)
theorem F16_0 (w0:AV) (e1:AV) (least2:Int) (level6:Int) (op7:List UInt8) (v12:AV) (v13:Int) (v14:Int) (base:Nat) (st:St) {r:AOut×St} (h:(bif decide (v14<v13) then (natA (AV.int .i64 v14)).bind fun j=>(idxSl st 1 v12 j).bind fun v=>(readA st v 1 false).bind fun v=>(lenSl v).bind fun v_1=>(intV IntKind.i64 v_1).bind fun n=>aw 16 base (p16_1 (st.length)) {env:=[(0,w0),(1,e1),(2,AV.int .i64 least2),(6,AV.int .i64 level6),(7,AV.str op7),(8,AV.int .i64 v14),(12,v12),(13,AV.int .i64 v13),(14,AV.int .i64 v14),(19,v),(20,AV.int .i64 n),(21,AV.int .i64 0)],defers:=[]} st
else (nilCheckA e1).bind fun v=>(ptrAdd 0 v).bind fun v=>(readA st v 1 false).bind fun v=>(intV IntKind.i64 v).bind fun n=>bif n==31 then bif decide (0<least2) then (nilCheckA w0).bind fun v=>(ptrAdd 0 v).bind fun v=>callB (cw 31 [v,AV.int .u8 40] st) (fun v st=>(nilCheckA w0).bind fun v=>(ptrAdd 0 v).bind fun v=>(strA BinOp.neq op7 []).bind fun v_1=>(boolV v_1).bind fun b=>bif b then (nilCheckA e1).bind fun v_2=>(ptrAdd 3 v_2).bind fun v_3=>(readA st v_3 1 false).bind fun v_4=>(idxSl st 4 v_4 0).bind fun v_5=>callB (cw 16 [w0,v_5,AV.int .i64 0] st) (fun v_6 st=>(nilCheckA w0).bind fun v_7=>(ptrAdd 0 v_7).bind fun v_8=>(strA BinOp.add [UInt8.ofNat 32] op7).bind fun v_9=>(strV v_9).bind fun s=>(strA BinOp.add s [UInt8.ofNat 32]).bind fun v_10=>(strV v_10).bind fun s=>callB (cw 32 [v_8,AV.str s] st) (fun v_11 st=>(nilCheckA e1).bind fun v_12=>(ptrAdd 3 v_12).bind fun v_13=>(readA st v_13 1 false).bind fun v_14=>(idxSl st 4 v_14 1).bind fun v_15=>callB (cw 16 [w0,v_15,AV.int .i64 1] st) (fun v_16 st=>(leaveA Tryd.prog (callDA Tryd.prog trydhints (cw) (runW Tryd.prog trydhints)) Tryd.f16 [(0,w0),(1,e1),(6,AV.int .i64 0),(7,AV.str op7),(57,AV.bool true)] [(31,[v,AV.int .u8 41]++[])] AMode.ret st).bind fun o=>outL false base o.fst o.snd) fun v_16 st=>(leaveA Tryd.prog (callDA Tryd.prog trydhints (cw) (runW Tryd.prog trydhints)) Tryd.f16 [(0,w0),(1,e1),(6,AV.int .i64 0),(7,AV.str op7),(57,AV.bool true)] [(31,[v,AV.int .u8 41]++[])] (AMode.pan v_16) st).bind fun o=>outL false base o.fst o.snd) fun v_11 st=>(leaveA Tryd.prog (callDA Tryd.prog trydhints (cw) (runW Tryd.prog trydhints)) Tryd.f16 [(0,w0),(1,e1),(6,AV.int .i64 0),(7,AV.str op7),(57,AV.bool true)] [(31,[v,AV.int .u8 41]++[])] (AMode.pan v_11) st).bind fun o=>outL false base o.fst o.snd) fun v_6 st=>(leaveA Tryd.prog (callDA Tryd.prog trydhints (cw) (runW Tryd.prog trydhints)) Tryd.f16 [(0,w0),(1,e1),(6,AV.int .i64 0),(7,AV.str op7),(57,AV.bool true)] [(31,[v,AV.int .u8 41]++[])] (AMode.pan v_6) st).bind fun o=>outL false base o.fst o.snd else (nilCheckA e1).bind fun v_2=>(ptrAdd 0 v_2).bind fun v_3=>(readA st v_3 1 false).bind fun v_4=>(intV IntKind.i64 v_4).bind fun n=>bif n==31 then (nilCheckA e1).bind fun v_5=>(ptrAdd 3 v_5).bind fun v_6=>(readA st v_6 1 false).bind fun v_7=>(idxSl st 4 v_7 0).bind fun v_8=>callB (cw 16 [w0,v_8,AV.int .i64 1] st) (fun v_9 st=>(nilCheckA w0).bind fun v_10=>(ptrAdd 0 v_10).bind fun v_11=>callB (cw 32 [v_11,AV.str [UInt8.ofNat 32,UInt8.ofNat 63,UInt8.ofNat 32]] st) (fun v_12 st=>(nilCheckA e1).bind fun v_13=>(ptrAdd 3 v_13).bind fun v_14=>(readA st v_14 1 false).bind fun v_15=>(idxSl st 4 v_15 1).bind fun v_16=>callB (cw 16 [w0,v_16,AV.int .i64 0] st) (fun v_17 st=>(nilCheckA w0).bind fun v_18=>(ptrAdd 0 v_18).bind fun v_19=>callB (cw 32 [v_19,AV.str [UInt8.ofNat 32,UInt8.ofNat 58,UInt8.ofNat 32]] st) (fun v_20 st=>(nilCheckA e1).bind fun v_21=>(ptrAdd 3 v_21).bind fun v_22=>(readA st v_22 1 false).bind fun v_23=>(idxSl st 4 v_23 2).bind fun v_24=>callB (cw 16 [w0,v_24,AV.int .i64 0] st) (fun v_25 st=>(leaveA Tryd.prog (callDA Tryd.prog trydhints (cw) (runW Tryd.prog trydhints)) Tryd.f16 [(0,w0),(1,e1),(87,AV.int .i64 n),(88,AV.bool true)] [(31,[v,AV.int .u8 41]++[])] AMode.ret st).bind fun o=>outL false base o.fst o.snd) fun v_25 st=>(leaveA Tryd.prog (callDA Tryd.prog trydhints (cw) (runW Tryd.prog trydhints)) Tryd.f16 [(0,w0),(1,e1),(87,AV.int .i64 n),(88,AV.bool true)] [(31,[v,AV.int .u8 41]++[])] (AMode.pan v_25) st).bind fun o=>outL false base o.fst o.snd) fun v_20 st=>(leaveA Tryd.prog (callDA Tryd.prog trydhints (cw) (runW Tryd.prog trydhints)) Tryd.f16 [(0,w0),(1,e1),(87,AV.int .i64 n),(88,AV.bool true)] [(31,[v,AV.int .u8 41]++[])] (AMode.pan v_20) st).bind fun o=>outL false base o.fst o.snd) fun v_17 st=>(leaveA Tryd.prog (callDA Tryd.prog trydhints (cw) (runW Tryd.prog trydhints)) Tryd.f16 [(0,w0),(1,e1),(87,AV.int .i64 n),(88,AV.bool true)] [(31,[v,AV.int .u8 41]++[])] (AMode.pan v_17) st).bind fun o=>outL false base o.fst o.snd) fun v_12 st=>(leaveA Tryd.prog (callDA Tryd.prog trydhints (cw) (runW Tryd.prog trydhints)) Tryd.f16 [(0,w0),(1,e1),(87,AV.int .i64 n),(88,AV.bool true)] [(31,[v,AV.int .u8 41]++[])] (AMode.pan v_12) st).bind fun o=>outL false base o.fst o.snd) fun v_9 st=>(leaveA Tryd.prog (callDA Tryd.prog trydhints (cw) (runW Tryd.prog trydhints)) Tryd.f16 [(0,w0),(1,e1),(87,AV.int .i64 n),(88,AV.bool true)] [(31,[v,AV.int .u8 41]++[])] (AMode.pan v_9) st).bind fun o=>outL false base o.fst o.snd else bif n==10 then (nilCheckA w0).bind fun v_5=>(ptrAdd 0 v_5).bind fun v_6=>callB (cw 31 [v_6,AV.int .u8 45] st) (fun v_7 st=>(nilCheckA e1).bind fun v_8=>(ptrAdd 3 v_8).bind fun v_9=>(readA st v_9 1 false).bind fun v_10=>(idxSl st 4 v_10 0).bind fun v_11=>callB (cw 16 [w0,v_11,AV.int .i64 12] st) (fun v_12 st=>(leaveA Tryd.prog (callDA Tryd.prog trydhints (cw) (runW Tryd.prog trydhints)) Tryd.f16 [(0,w0),(1,e1),(87,AV.int .i64 n),(88,AV.bool false),(119,AV.bool true)] [(31,[v,AV.int .u8 41]++[])] AMode.ret st).bind fun o=>outL false base o.fst o.snd) fun v_12 st=>(leaveA Tryd.prog (callDA Tryd.prog trydhints (cw) (runW Tryd.prog trydhints)) Tryd.f16 [(0,w0),(1,e1),(87,AV.int .i64 n),(88,AV.bool false),(119,AV.bool true)] [(31,[v,AV.int .u8 41]++[])] (AMode.pan v_12) st).bind fun o=>outL false base o.fst o.snd) fun v_7 st=>(leaveA Tryd.prog (callDA Tryd.prog trydhints (cw) (runW Tryd.prog trydhints)) Tryd.f16 [(0,w0),(1,e1),(87,AV.int .i64 n),(88,AV.bool false),(119,AV.bool true)] [(31,[v,AV.int .u8 41]++[])] (AMode.pan v_7) st).bind fun o=>outL false base o.fst o.snd else bif n==11 then (nilCheckA w0).bind fun v_5=>(ptrAdd 0 v_5).bind fun v_6=>callB (cw 31 [v_6,AV.int .u8 33] st) (fun v_7 st=>(nilCheckA e1).bind fun v_8=>(ptrAdd 3 v_8).bind fun v_9=>(readA st v_9 1 false).bind fun v_10=>(idxSl st 4 v_10 0).bind fun v_11=>callB (cw 16 [w0,v_11,AV.int .i64 12] st) (fun v_12 st=>(leaveA Tryd.prog (callDA Tryd.prog trydhints (cw) (runW Tryd.prog trydhints)) Tryd.f16 [(0,w0),(1,e1),(87,AV.int .i64 n),(88,AV.bool false),(119,AV.bool false),(132,AV.bool true)] [(31,[v,AV.int .u8 41]++[])] AMode.ret st).bind fun o=>outL false base o.fst o.snd) fun v_12 st=>(leaveA Tryd.prog (callDA Tryd.prog trydhints (cw) (runW Tryd.prog trydhints)) Tryd.f16 [(0,w0),(1,e1),(87,AV.int .i64 n),(88,AV.bool false),(119,AV.bool false),(132,AV.bool true)] [(31,[v,AV.int .u8 41]++[])] (AMode.pan v_12) st).bind fun o=>outL false base o.fst o.snd) fun v_7 st=>(leaveA Tryd.prog (callDA Tryd.prog trydhints (cw) (runW Tryd.prog trydhints)) Tryd.f16 [(0,w0),(1,e1),(87,AV.int .i64 n),(88,AV.bool false),(119,AV.bool false),(132,AV.bool true)] [(31,[v,AV.int .u8 41]++[])] (AMode.pan v_7) st).bind fun o=>outL false base o.fst o.snd else bif n==7 then (nilCheckA e1).bind fun v_5=>(ptrAdd 3 v_5).bind fun v_6=>(readA st v_6 1 false).bind fun v_7=>(idxSl st 4 v_7 0).bind fun v_8=>callB (cw 16 [w0,v_8,AV.int .i64 13] st) (fun v_9 st=>(nilCheckA w0).bind fun v_10=>(ptrAdd 0 v_10).bind fun v_11=>(nilCheckA e1).bind fun v_12=>(ptrAdd 2 v_12).bind fun v_13=>(readA st v_13 1 false).bind fun v_14=>(strV v_14).bind fun s=>(strA BinOp.add [UInt8.ofNat 46] s).bind fun v_15=>(strV v_15).bind fun s=>callB (cw 32 [v_11,AV.str s] st) (fun v_16 st=>(leaveA Tryd.prog (callDA Tryd.prog trydhints (cw) (runW Tryd.prog trydhints)) Tryd.f16 [(0,w0),(1,e1),(87,AV.int .i64 n),(88,AV.bool false),(119,AV.bool false),(132,AV.bool false),(145,AV.bool true)] [(31,[v,AV.int .u8 41]++[])] AMode.ret st).bind fun o=>outL false base o.fst o.snd) fun v_16 st=>(leaveA Tryd.prog (callDA Tryd.prog trydhints (cw) (runW Tryd.prog trydhints)) Tryd.f16 (List.filter (fun p=>!(some 154==some p.fst||(some 155==some p.fst||(some 156==some p.fst||(some 157==some p.fst||(some 158==some p.fst||(some 159==some p.fst||(some 160==some p.fst||(some 161==some p.fst||(some 162==some p.fst||false)))))))))) [(0,w0),(1,e1),(87,AV.int .i64 n),(88,AV.bool false),(119,AV.bool false),(132,AV.bool false),(145,AV.bool true)]) [(31,[v,AV.int .u8 41]++[])] (AMode.pan v_16) st).bind fun o=>outL false base o.fst o.snd) fun v_9 st=>(leaveA Tryd.prog (callDA Tryd.prog trydhints (cw) (runW Tryd.prog trydhints)) Tryd.f16 [(0,w0),(1,e1),(87,AV.int .i64 n),(88,AV.bool false),(119,AV.bool false),(132,AV.bool false),(145,AV.bool true)] [(31,[v,AV.int .u8 41]++[])] (AMode.pan v_9) st).bind fun o=>outL false base o.fst o.snd else bif n==8 then (nilCheckA e1).bind fun v_5=>(ptrAdd 3 v_5).bind fun v_6=>(readA st v_6 1 false).bind fun v_7=>(idxSl st 4 v_7 0).bind fun v_8=>callB (cw 16 [w0,v_8,AV.int .i64 13] st) (fun v_9 st=>(nilCheckA w0).bind fun v_10=>(ptrAdd 0 v_10).bind fun v_11=>callB (cw 31 [v_11,AV.int .u8 91] st) (fun v_12 st=>(nilCheckA e1).bind fun v_13=>(ptrAdd 3 v_13).bind fun v_14=>(readA st v_14 1 false).bind fun v_15=>(idxSl st 4 v_15 1).bind fun v_16=>callB (cw 16 [w0,v_16,AV.int .i64 0] st) (fun v_17 st=>(nilCheckA w0).bind fun v_18=>(ptrAdd 0 v_18).bind fun v_19=>callB (cw 31 [v_19,AV.int .u8 93] st) (fun v_20 st=>(leaveA Tryd.prog (callDA Tryd.prog trydhints (cw) (runW Tryd.prog trydhints)) Tryd.f16 [(0,w0),(1,e1),(87,AV.int .i64 n),(88,AV.bool false),(119,AV.bool false),(132,AV.bool false),(145,AV.bool false),(163,AV.bool true)] [(31,[v,AV.int .u8 41]++[])] AMode.ret st).bind fun o=>outL false base o.fst o.snd) fun v_20 st=>(leaveA Tryd.prog (callDA Tryd.prog trydhints (cw) (runW Tryd.prog trydhints)) Tryd.f16 [(0,w0),(1,e1),(87,AV.int .i64 n),(88,AV.bool false),(119,AV.bool false),(132,AV.bool false),(145,AV.bool false),(163,AV.bool true)] [(31,[v,AV.int .u8 41]++[])] (AMode.pan v_20) st).bind fun o=>outL false base o.fst o.snd) fun v_17 st=>(leaveA Tryd.prog (callDA Tryd.prog trydhints (cw) (runW Tryd.prog trydhints)) Tryd.f16 [(0,w0),(1,e1),(87,AV.int .i64 n),(88,AV.bool false),(119,AV.bool false),(132,AV.bool false),(145,AV.bool false),(163,AV.bool true)] [(31,[v,AV.int .u8 41]++[])] (AMode.pan v_17) st).bind fun o=>outL false base o.fst o.snd) fun v_12 st=>(leaveA Tryd.prog (callDA Tryd.prog trydhints (cw) (runW Tryd.prog trydhints)) Tryd.f16 [(0,w0),(1,e1),(87,AV.int .i64 n),(88,AV.bool false),(119,AV.bool false),(132,AV.bool false),(145,AV.bool false),(163,AV.bool true)] [(31,[v,AV.int .u8 41]++[])] (AMode.pan v_12) st).bind fun o=>outL false base o.fst o.snd) fun v_9 st=>(leaveA Tryd.prog (callDA Tryd.prog trydhints (cw) (runW Tryd.prog trydhints)) Tryd.f16 [(0,w0),(1,e1),(87,AV.int .i64 n),(88,AV.bool false),(119,AV.bool false),(132,AV.bool false),(145,AV.bool false),(163,AV.bool true)] [(31,[v,AV.int .u8 41]++[])] (AMode.pan v_9) st).bind fun o=>outL false base o.fst o.snd else bif n==9 then (nilCheckA w0).bind fun v_5=>(ptrAdd 0 v_5).bind fun v_6=>callB (cw 25 [] st) (fun v_7 st_1=>(nilCheckA e1).bind fun v_8=>(ptrAdd 1 v_8).bind fun v_9=>(readA st_1 v_9 1 false).bind fun v_10=>(intV IntKind.i64 v_10).bind fun n_1=>(natA (AV.int .i64 (IntKind.i64.wrap (n_1 - 1)))).bind fun j=>(idxSl st_1 1 v_7 j).bind fun v_11=>(readA st_1 v_11 1 false).bind fun v_12=>(strV v_12).bind fun s=>(strA BinOp.add s [UInt8.ofNat 40]).bind fun v_13=>(strV v_13).bind fun s_1=>callB (cw 32 [v_6,AV.str s_1] st_1) (fun v_14 st_2=>if ((if isIp v_9=true then true else (List.range.loop [st_2,st_1,st].length []).all fun s=>if 0≤s∧s≤1 then
 match [st_2,st_1,st][[st_2,st_1,st].length - 1 - s]? with
 | some st =>
  match Option.map (fun v=>(Res.val v,st)) (ldA Tryd.prog st 3 v_9) with
  | some (Res.val v',snd)=>(AV.int .i64 n_1).beq v'
  | x=>false
 | none=>false else true)&&true)=true then (nilCheckA e1).bind fun v_15=>(ptrAdd 3 v_15).bind fun v_16=>(readA st_2 v_16 1 false).bind fun v_17=>(idxSl st_2 4 v_17 0).bind fun v_18=>callB (cw 16 [w0,v_18,AV.int .i64 0] st_2) (fun v_19 st=>(nilCheckA w0).bind fun v_20=>(ptrAdd 0 v_20).bind fun v_21=>callB (cw 31 [v_21,AV.int .u8 41] st) (fun v_22 st=>(leaveA Tryd.prog (callDA Tryd.prog trydhints (cw) (runW Tryd.prog trydhints)) Tryd.f16 [(0,w0),(1,e1),(87,AV.int .i64 n),(88,AV.bool false),(119,AV.bool false),(132,AV.bool false),(145,AV.bool false),(163,AV.bool false),(187,AV.bool true)] [(31,[v,AV.int .u8 41]++[])] AMode.ret st).bind fun o=>outL false base o.fst o.snd) fun v_22 st=>(leaveA Tryd.prog (callDA Tryd.prog trydhints (cw) (runW Tryd.prog trydhints)) Tryd.f16 [(0,w0),(1,e1),(87,AV.int .i64 n),(88,AV.bool false),(119,AV.bool false),(132,AV.bool false),(145,AV.bool false),(163,AV.bool false),(187,AV.bool true)] [(31,[v,AV.int .u8 41]++[])] (AMode.pan v_22) st).bind fun o=>outL false base o.fst o.snd) fun v_19 st=>(leaveA Tryd.prog (callDA Tryd.prog trydhints (cw) (runW Tryd.prog trydhints)) Tryd.f16 [(0,w0),(1,e1),(87,AV.int .i64 n),(88,AV.bool false),(119,AV.bool false),(132,AV.bool false),(145,AV.bool false),(163,AV.bool false),(187,AV.bool true)] [(31,[v,AV.int .u8 41]++[])] (AMode.pan v_19) st).bind fun o=>outL false base o.fst o.snd else none) fun v_14 st_2=>if ((if isIp v_9=true then true else (List.range.loop [st_1,st].length []).all fun s=>if 0≤s∧s≤1 then
 match [st_1,st][[st_1,st].length - 1 - s]? with
 | some st =>
  match Option.map (fun v=>(Res.val v,st)) (ldA Tryd.prog st 3 v_9) with
  | some (Res.val v',snd)=>(AV.int .i64 n_1).beq v'
  | x=>false
 | none=>false else true)&&true)=true then none else none) fun v st=>none else bif n==4 then (nilCheckA w0).bind fun v_5=>(ptrAdd 0 v_5).bind fun v_6=>(nilCheckA e1).bind fun v_7=>(ptrAdd 1 v_7).bind fun v_8=>(readA st v_8 1 false).bind fun v_9=>(intV IntKind.i64 v_9).bind fun n_1=>callB (cw 33 [AV.int .i64 n_1] st) (fun v_10 st=>(strV v_10).bind fun s=>callB (cw 32 [v_6,AV.str s] st) (fun v_11 st=>(leaveA Tryd.prog (callDA Tryd.prog trydhints (cw) (runW Tryd.prog trydhints)) Tryd.f16 [(0,w0),(1,e1),(87,AV.int .i64 n),(88,AV.bool false),(119,AV.bool false),(132,AV.bool false),(145,AV.bool false),(163,AV.bool false),(187,AV.bool false),(213,AV.bool true)] [(31,[v,AV.int .u8 41]++[])] AMode.ret st).bind fun o=>outL false base o.fst o.snd) fun v_11 st=>(leaveA Tryd.prog (callDA Tryd.prog trydhints (cw) (runW Tryd.prog trydhints)) Tryd.f16 (List.filter (fun p=>!(some 215==some p.fst||(some 216==some p.fst||(some 217==some p.fst||(some 218==some p.fst||(some 219==some p.fst||(some 220==some p.fst||(some 221==some p.fst||(some 222==some p.fst||(some 223==some p.fst||false)))))))))) [(0,w0),(1,e1),(87,AV.int .i64 n),(88,AV.bool false),(119,AV.bool false),(132,AV.bool false),(145,AV.bool false),(163,AV.bool false),(187,AV.bool false),(213,AV.bool true)]) [(31,[v,AV.int .u8 41]++[])] (AMode.pan v_11) st).bind fun o=>outL false base o.fst o.snd) fun v_10 st=>(leaveA Tryd.prog (callDA Tryd.prog trydhints (cw) (runW Tryd.prog trydhints)) Tryd.f16 (List.filter (fun p=>!(some 215==some p.fst||(some 216==some p.fst||(some 217==some p.fst||(some 218==some p.fst||(some 219==some p.fst||(some 220==some p.fst||(some 221==some p.fst||(some 222==some p.fst||(some 223==some p.fst||false)))))))))) [(0,w0),(1,e1),(87,AV.int .i64 n),(88,AV.bool false),(119,AV.bool false),(132,AV.bool false),(145,AV.bool false),(163,AV.bool false),(187,AV.bool false),(213,AV.bool true)]) [(31,[v,AV.int .u8 41]++[])] (AMode.pan v_10) st).bind fun o=>outL false base o.fst o.snd else bif n==5 then (nilCheckA e1).bind fun v_5=>(ptrAdd 2 v_5).bind fun v_6=>(readA st v_6 1 false).bind fun v_7=>(strV v_7).bind fun s=>callB (cw 34 [w0,AV.str s] st) (fun v_8 st=>(leaveA Tryd.prog (callDA Tryd.prog trydhints (cw) (runW Tryd.prog trydhints)) Tryd.f16 [(0,w0),(1,e1),(87,AV.int .i64 n),(88,AV.bool false),(119,AV.bool false),(132,AV.bool false),(145,AV.bool false),(163,AV.bool false),(187,AV.bool false),(213,AV.bool false),(224,AV.bool true)] [(31,[v,AV.int .u8 41]++[])] AMode.ret st).bind fun o=>outL false base o.fst o.snd) fun v_8 st=>(leaveA Tryd.prog (callDA Tryd.prog trydhints (cw) (runW Tryd.prog trydhints)) Tryd.f16 [(0,w0),(1,e1),(87,AV.int .i64 n),(88,AV.bool false),(119,AV.bool false),(132,AV.bool false),(145,AV.bool false),(163,AV.bool false),(187,AV.bool false),(213,AV.bool false),(224,AV.bool true)] [(31,[v,AV.int .u8 41]++[])] (AMode.pan v_8) st).bind fun o=>outL false base o.fst o.snd else bif n==6 then (nilCheckA w0).bind fun v_5=>(ptrAdd 0 v_5).bind fun v_6=>(nilCheckA e1).bind fun v_7=>(ptrAdd 2 v_7).bind fun v_8=>(readA st v_8 1 false).bind fun v_9=>(strV v_9).bind fun s=>callB (cw 32 [v_6,AV.str s] st) (fun v_10 st=>(leaveA Tryd.prog (callDA Tryd.prog trydhints (cw) (runW Tryd.prog trydhints)) Tryd.f16 [(0,w0),(1,e1),(87,AV.int .i64 n),(88,AV.bool false),(119,AV.bool false),(132,AV.bool false),(145,AV.bool false),(163,AV.bool false),(187,AV.bool false),(213,AV.bool false),(224,AV.bool false),(232,AV.bool true)] [(31,[v,AV.int .u8 41]++[])] AMode.ret st).bind fun o=>outL false base o.fst o.snd) fun v_10 st=>(leaveA Tryd.prog (callDA Tryd.prog trydhints (cw) (runW Tryd.prog trydhints)) Tryd.f16 (List.filter (fun p=>!(some 234==some p.fst||(some 235==some p.fst||(some 236==some p.fst||(some 237==some p.fst||(some 238==some p.fst||(some 239==some p.fst||(some 240==some p.fst||(some 241==some p.fst||false))))))))) [(0,w0),(1,e1),(87,AV.int .i64 n),(88,AV.bool false),(119,AV.bool false),(132,AV.bool false),(145,AV.bool false),(163,AV.bool false),(187,AV.bool false),(213,AV.bool false),(224,AV.bool false),(232,AV.bool true)]) [(31,[v,AV.int .u8 41]++[])] (AMode.pan v_10) st).bind fun o=>outL false base o.fst o.snd else bif n==1 then (nilCheckA w0).bind fun v_5=>(ptrAdd 0 v_5).bind fun v_6=>callB (cw 32 [v_6,AV.str [UInt8.ofNat 110,UInt8.ofNat 117,UInt8.ofNat 108,UInt8.ofNat 108]] st) (fun v_7 st=>(leaveA Tryd.prog (callDA Tryd.prog trydhints (cw) (runW Tryd.prog trydhints)) Tryd.f16 [(0,w0),(1,e1),(87,AV.int .i64 n),(88,AV.bool false),(119,AV.bool false),(132,AV.bool false),(145,AV.bool false),(163,AV.bool false),(187,AV.bool false),(213,AV.bool false),(224,AV.bool false),(232,AV.bool false),(242,AV.bool true)] [(31,[v,AV.int .u8 41]++[])] AMode.ret st).bind fun o=>outL false base o.fst o.snd) fun v_7 st=>(leaveA Tryd.prog (callDA Tryd.prog trydhints (cw) (runW Tryd.prog trydhints)) Tryd.f16 [(0,w0),(1,e1),(87,AV.int .i64 n),(88,AV.bool false),(119,AV.bool false),(132,AV.bool false),(145,AV.bool false),(163,AV.bool false),(187,AV.bool false),(213,AV.bool false),(224,AV.bool false),(232,AV.bool false),(242,AV.bool true)] [(31,[v,AV.int .u8 41]++[])] (AMode.pan v_7) st).bind fun o=>outL false base o.fst o.snd else bif n==2 then (nilCheckA w0).bind fun v_5=>(ptrAdd 0 v_5).bind fun v_6=>callB (cw 32 [v_6,AV.str [UInt8.ofNat 102,UInt8.ofNat 97,UInt8.ofNat 108,UInt8.ofNat 115,UInt8.ofNat 101]] st) (fun v_7 st=>(leaveA Tryd.prog (callDA Tryd.prog trydhints (cw) (runW Tryd.prog trydhints)) Tryd.f16 [(0,w0),(1,e1),(87,AV.int .i64 n),(88,AV.bool false),(119,AV.bool false),(132,AV.bool false),(145,AV.bool false),(163,AV.bool false),(187,AV.bool false),(213,AV.bool false),(224,AV.bool false),(232,AV.bool false),(242,AV.bool false),(248,AV.bool true)] [(31,[v,AV.int .u8 41]++[])] AMode.ret st).bind fun o=>outL false base o.fst o.snd) fun v_7 st=>(leaveA Tryd.prog (callDA Tryd.prog trydhints (cw) (runW Tryd.prog trydhints)) Tryd.f16 [(0,w0),(1,e1),(87,AV.int .i64 n),(88,AV.bool false),(119,AV.bool false),(132,AV.bool false),(145,AV.bool false),(163,AV.bool false),(187,AV.bool false),(213,AV.bool false),(224,AV.bool false),(232,AV.bool false),(242,AV.bool false),(248,AV.bool true)] [(31,[v,AV.int .u8 41]++[])] (AMode.pan v_7) st).bind fun o=>outL false base o.fst o.snd else bif n==3 then (nilCheckA w0).bind fun v_5=>(ptrAdd 0 v_5).bind fun v_6=>callB (cw 32 [v_6,AV.str [UInt8.ofNat 116,UInt8.ofNat 114,UInt8.ofNat 117,UInt8.ofNat 101]] st) (fun v_7 st=>(leaveA Tryd.prog (callDA Tryd.prog trydhints (cw) (runW Tryd.prog trydhints)) Tryd.f16 [(0,w0),(1,e1),(87,AV.int .i64 n),(88,AV.bool false),(119,AV.bool false),(132,AV.bool false),(145,AV.bool false),(163,AV.bool false),(187,AV.bool false),(213,AV.bool false),(224,AV.bool false),(232,AV.bool false),(242,AV.bool false),(248,AV.bool false),(254,AV.bool true)] [(31,[v,AV.int .u8 41]++[])] AMode.ret st).bind fun o=>outL false base o.fst o.snd) fun v_7 st=>(leaveA Tryd.prog (callDA Tryd.prog trydhints (cw) (runW Tryd.prog trydhints)) Tryd.f16 [(0,w0),(1,e1),(87,AV.int .i64 n),(88,AV.bool false),(119,AV.bool false),(132,AV.bool false),(145,AV.bool false),(163,AV.bool false),(187,AV.bool false),(213,AV.bool false),(224,AV.bool false),(232,AV.bool false),(242,AV.bool false),(248,AV.bool false),(254,AV.bool true)] [(31,[v,AV.int .u8 41]++[])] (AMode.pan v_7) st).bind fun o=>outL false base o.fst o.snd else (leaveA Tryd.prog (callDA Tryd.prog trydhints (cw) (runW Tryd.prog trydhints)) Tryd.f16 [(0,w0),(1,e1),(87,AV.int .i64 n),(88,AV.bool false),(119,AV.bool false),(132,AV.bool false),(145,AV.bool false),(163,AV.bool false),(187,AV.bool false),(213,AV.bool false),(224,AV.bool false),(232,AV.bool false),(242,AV.bool false),(248,AV.bool false),(254,AV.bool false)] [(31,[v,AV.int .u8 41]++[])] AMode.ret st).bind fun o=>outL false base o.fst o.snd) fun v st=>outL false base (AOut.pan v) st else (strA BinOp.neq op7 []).bind fun v=>(boolV v).bind fun b=>bif b then (nilCheckA e1).bind fun v=>(ptrAdd 3 v).bind fun v=>(readA st v 1 false).bind fun v=>(idxSl st 4 v 0).bind fun v=>callB (cw 16 [w0,v,AV.int .i64 0] st) (fun v st=>(nilCheckA w0).bind fun v=>(ptrAdd 0 v).bind fun v=>(strA BinOp.add [UInt8.ofNat 32] op7).bind fun v_1=>(strV v_1).bind fun s=>(strA BinOp.add s [UInt8.ofNat 32]).bind fun v_2=>(strV v_2).bind fun s=>callB (cw 32 [v,AV.str s] st) (fun v st=>(nilCheckA e1).bind fun v=>(ptrAdd 3 v).bind fun v=>(readA st v 1 false).bind fun v=>(idxSl st 4 v 1).bind fun v=>callB (cw 16 [w0,v,AV.int .i64 1] st) (fun v st=>outL false base (AOut.ret (AV.tup [])) st) fun v st=>outL false base (AOut.pan v) st) fun v st=>outL false base (AOut.pan v) st) fun v st=>outL false base (AOut.pan v) st else (nilCheckA e1).bind fun v=>(ptrAdd 0 v).bind fun v=>(readA st v 1 false).bind fun v=>(intV IntKind.i64 v).bind fun n=>bif n==31 then (nilCheckA e1).bind fun v=>(ptrAdd 3 v).bind fun v=>(readA st v 1 false).bind fun v=>(idxSl st 4 v 0).bind fun v=>callB (cw 16 [w0,v,AV.int .i64 1] st) (fun v st=>(nilCheckA w0).bind fun v=>(ptrAdd 0 v).bind fun v=>callB (cw 32 [v,AV.str [UInt8.ofNat 32,UInt8.ofNat 63,UInt8.ofNat 32]] st) (fun v st=>(nilCheckA e1).bind fun v=>(ptrAdd 3 v).bind fun v=>(readA st v 1 false).bind fun v=>(idxSl st 4 v 1).bind fun v=>callB (cw 16 [w0,v,AV.int .i64 0] st) (fun v st=>(nilCheckA w0).bind fun v=>(ptrAdd 0 v).bind fun v=>callB (cw 32 [v,AV.str [UInt8.ofNat 32,UInt8.ofNat 58,UInt8.ofNat 32]] st) (fun v st=>(nilCheckA e1).bind fun v=>(ptrAdd 3 v).bind fun v=>(readA st v 1 false).bind fun v=>(idxSl st 4 v 2).bind fun v=>callB (cw 16 [w0,v,AV.int .i64 0] st) (fun v st=>outL false base (AOut.ret (AV.tup [])) st) fun v st=>outL false base (AOut.pan v) st) fun v st=>outL false base (AOut.pan v) st) fun v st=>outL false base (AOut.pan v) st) fun v st=>outL false base (AOut.pan v) st) fun v st=>outL false base (AOut.pan v) st else bif n==10 then (nilCheckA w0).bind fun v=>(ptrAdd 0 v).bind fun v=>callB (cw 31 [v,AV.int .u8 45] st) (fun v st=>(nilCheckA e1).bind fun v=>(ptrAdd 3 v).bind fun v=>(readA st v 1 false).bind fun v=>(idxSl st 4 v 0).bind fun v=>callB (cw 16 [w0,v,AV.int .i64 12] st) (fun v st=>outL false base (AOut.ret (AV.tup [])) st) fun v st=>outL false base (AOut.pan v) st) fun v st=>outL false base (AOut.pan v) st else bif n==11 then (nilCheckA w0).bind fun v=>(ptrAdd 0 v).bind fun v=>callB (cw 31 [v,AV.int .u8 33] st) (fun v st=>(nilCheckA e1).bind fun v=>(ptrAdd 3 v).bind fun v=>(readA st v 1 false).bind fun v=>(idxSl st 4 v 0).bind fun v=>callB (cw 16 [w0,v,AV.int .i64 12] st) (fun v st=>outL false base (AOut.ret (AV.tup [])) st) fun v st=>outL false base (AOut.pan v) st) fun v st=>outL false base (AOut.pan v) st else bif n==7 then (nilCheckA e1).bind fun v=>(ptrAdd 3 v).bind fun v=>(readA st v 1 false).bind fun v=>(idxSl st 4 v 0).bind fun v=>callB (cw 16 [w0,v,AV.int .i64 13] st) (fun v st=>(nilCheckA w0).bind fun v=>(ptrAdd 0 v).bind fun v=>(nilCheckA e1).bind fun v_1=>(ptrAdd 2 v_1).bind fun v_2=>(readA st v_2 1 false).bind fun v_3=>(strV v_3).bind fun s=>(strA BinOp.add [UInt8.ofNat 46] s).bind fun v_4=>(strV v_4).bind fun s=>callB (cw 32 [v,AV.str s] st) (fun v st=>outL false base (AOut.ret (AV.tup [])) st) fun v st=>outL false base (AOut.pan v) st) fun v st=>outL false base (AOut.pan v) st else bif n==8 then (nilCheckA e1).bind fun v=>(ptrAdd 3 v).bind fun v=>(readA st v 1 false).bind fun v=>(idxSl st 4 v 0).bind fun v=>callB (cw 16 [w0,v,AV.int .i64 13] st) (fun v st=>(nilCheckA w0).bind fun v=>(ptrAdd 0 v).bind fun v=>callB (cw 31 [v,AV.int .u8 91] st) (fun v st=>(nilCheckA e1).bind fun v=>(ptrAdd 3 v).bind fun v=>(readA st v 1 false).bind fun v=>(idxSl st 4 v 1).bind fun v=>callB (cw 16 [w0,v,AV.int .i64 0] st) (fun v st=>(nilCheckA w0).bind fun v=>(ptrAdd 0 v).bind fun v=>callB (cw 31 [v,AV.int .u8 93] st) (fun v st=>outL false base (AOut.ret (AV.tup [])) st) fun v st=>outL false base (AOut.pan v) st) fun v st=>outL false base (AOut.pan v) st) fun v st=>outL false base (AOut.pan v) st) fun v st=>outL false base (AOut.pan v) st else bif n==9 then (nilCheckA w0).bind fun v=>(ptrAdd 0 v).bind fun v_1=>callB (cw 25 [] st) (fun v_2 st_1=>(nilCheckA e1).bind fun v_3=>(ptrAdd 1 v_3).bind fun v_4=>(readA st_1 v_4 1 false).bind fun v_5=>(intV IntKind.i64 v_5).bind fun n_1=>(natA (AV.int .i64 (IntKind.i64.wrap (n_1 - 1)))).bind fun j=>(idxSl st_1 1 v_2 j).bind fun v_6=>(readA st_1 v_6 1 false).bind fun v_7=>(strV v_7).bind fun s=>(strA BinOp.add s [UInt8.ofNat 40]).bind fun v_8=>(strV v_8).bind fun s_1=>callB (cw 32 [v_1,AV.str s_1] st_1) (fun v_9 st_2=>if ((if isIp v_4=true then true else (List.range.loop [st_2,st_1,st].length []).all fun s=>if 0≤s∧s≤1 then
 match [st_2,st_1,st][[st_2,st_1,st].length - 1 - s]? with
 | some st =>
  match Option.map (fun v=>(Res.val v,st)) (ldA Tryd.prog st 3 v_4) with
  | some (Res.val v',snd)=>(AV.int .i64 n_1).beq v'
  | x=>false
 | none=>false else true)&&true)=true then (nilCheckA e1).bind fun v=>(ptrAdd 3 v).bind fun v=>(readA st_2 v 1 false).bind fun v=>(idxSl st_2 4 v 0).bind fun v=>callB (cw 16 [w0,v,AV.int .i64 0] st_2) (fun v st=>(nilCheckA w0).bind fun v=>(ptrAdd 0 v).bind fun v=>callB (cw 31 [v,AV.int .u8 41] st) (fun v st=>outL false base (AOut.ret (AV.tup [])) st) fun v st=>outL false base (AOut.pan v) st) fun v st=>outL false base (AOut.pan v) st else none) fun v_9 st_2=>if ((if isIp v_4=true then true else (List.range.loop [st_1,st].length []).all fun s=>if 0≤s∧s≤1 then
 match [st_1,st][[st_1,st].length - 1 - s]? with
 | some st =>
  match Option.map (fun v=>(Res.val v,st)) (ldA Tryd.prog st 3 v_4) with
  | some (Res.val v',snd)=>(AV.int .i64 n_1).beq v'
  | x=>false
 | none=>false else true)&&true)=true then none else none) fun v st=>none else bif n==4 then (nilCheckA w0).bind fun v=>(ptrAdd 0 v).bind fun v=>(nilCheckA e1).bind fun v_1=>(ptrAdd 1 v_1).bind fun v_2=>(readA st v_2 1 false).bind fun v_3=>(intV IntKind.i64 v_3).bind fun n=>callB (cw 33 [AV.int .i64 n] st) (fun v_4 st=>(strV v_4).bind fun s=>callB (cw 32 [v,AV.str s] st) (fun v st=>outL false base (AOut.ret (AV.tup [])) st) fun v st=>outL false base (AOut.pan v) st) fun v st=>outL false base (AOut.pan v) st else bif n==5 then (nilCheckA e1).bind fun v=>(ptrAdd 2 v).bind fun v=>(readA st v 1 false).bind fun v=>(strV v).bind fun s=>callB (cw 34 [w0,AV.str s] st) (fun v st=>outL false base (AOut.ret (AV.tup [])) st) fun v st=>outL false base (AOut.pan v) st else bif n==6 then (nilCheckA w0).bind fun v=>(ptrAdd 0 v).bind fun v=>(nilCheckA e1).bind fun v_1=>(ptrAdd 2 v_1).bind fun v_2=>(readA st v_2 1 false).bind fun v_3=>(strV v_3).bind fun s=>callB (cw 32 [v,AV.str s] st) (fun v st=>outL false base (AOut.ret (AV.tup [])) st) fun v st=>outL false base (AOut.pan v) st else bif n==1 then (nilCheckA w0).bind fun v=>(ptrAdd 0 v).bind fun v=>callB (cw 32 [v,AV.str [UInt8.ofNat 110,UInt8.ofNat 117,UInt8.ofNat 108,UInt8.ofNat 108]] st) (fun v st=>outL false base (AOut.ret (AV.tup [])) st) fun v st=>outL false base (AOut.pan v) st else bif n==2 then (nilCheckA w0).bind fun v=>(ptrAdd 0 v).bind fun v=>callB (cw 32 [v,AV.str [UInt8.ofNat 102,UInt8.ofNat 97,UInt8.ofNat 108,UInt8.ofNat 115,UInt8.ofNat 101]] st) (fun v st=>outL false base (AOut.ret (AV.tup [])) st) fun v st=>outL false base (AOut.pan v) st else bif n==3 then (nilCheckA w0).bind fun v=>(ptrAdd 0 v).bind fun v=>callB (cw 32 [v,AV.str [UInt8.ofNat 116,UInt8.ofNat 114,UInt8.ofNat 117,UInt8.ofNat 101]] st) (fun v st=>outL false base (AOut.ret (AV.tup [])) st) fun v st=>outL false base (AOut.pan v) st else outL false base (AOut.ret (AV.tup [])) st else bif n==10 then bif decide (12<least2) then (nilCheckA w0).bind fun v=>(ptrAdd 0 v).bind fun v=>callB (cw 31 [v,AV.int .u8 40] st) (fun v st=>(nilCheckA w0).bind fun v=>(ptrAdd 0 v).bind fun v=>(strA BinOp.neq op7 []).bind fun v_1=>(boolV v_1).bind fun b=>bif b then (nilCheckA e1).bind fun v_2=>(ptrAdd 3 v_2).bind fun v_3=>(readA st v_3 1 false).bind fun v_4=>(idxSl st 4 v_4 0).bind fun v_5=>callB (cw 16 [w0,v_5,AV.int .i64 12] st) (fun v_6 st=>(nilCheckA w0).bind fun v_7=>(ptrAdd 0 v_7).bind fun v_8=>(strA BinOp.add [UInt8.ofNat 32] op7).bind fun v_9=>(strV v_9).bind fun s=>(strA BinOp.add s [UInt8.ofNat 32]).bind fun v_10=>(strV v_10).bind fun s=>callB (cw 32 [v_8,AV.str s] st) (fun v_11 st=>(nilCheckA e1).bind fun v_12=>(ptrAdd 3 v_12).bind fun v_13=>(readA st v_13 1 false).bind fun v_14=>(idxSl st 4 v_14 1).bind fun v_15=>callB (cw 16 [w0,v_15,AV.int .i64 13] st) (fun v_16 st=>(leaveA Tryd.prog (callDA Tryd.prog trydhints (cw) (runW Tryd.prog trydhints)) Tryd.f16 [(0,w0),(1,e1),(6,AV.int .i64 12),(7,AV.str op7),(57,AV.bool true)] [(31,[v,AV.int .u8 41]++[])] AMode.ret st).bind fun o=>outL false base o.fst o.snd) fun v_16 st=>(leaveA Tryd.prog (callDA Tryd.prog trydhints (cw) (runW Tryd.prog trydhints)) Tryd.f16 [(0,w0),(1,e1),(6,AV.int .i64 12),(7,AV.str op7),(57,AV.bool true)] [(31,[v,AV.int .u8 41]++[])] (AMode.pan v_16) st).bind fun o=>outL false base o.fst o.snd) fun v_11 st=>(leaveA Tryd.prog (callDA Tryd.prog trydhints (cw) (runW Tryd.prog trydhints)) Tryd.f16 [(0,w0),(1,e1),(6,AV.int .i64 12),(7,AV.str op7),(57,AV.bool true)] [(31,[v,AV.int .u8 41]++[])] (AMode.pan v_11) st).bind fun o=>outL false base o.fst o.snd) fun v_6 st=>(leaveA Tryd.prog (callDA Tryd.prog trydhints (cw) (runW Tryd.prog trydhints)) Tryd.f16 [(0,w0),(1,e1),(6,AV.int .i64 12),(7,AV.str op7),(57,AV.bool true)] [(31,[v,AV.int .u8 41]++[])] (AMode.pan v_6) st).bind fun o=>outL false base o.fst o.snd else (nilCheckA e1).bind fun v_2=>(ptrAdd 0 v_2).bind fun v_3=>(readA st v_3 1 false).bind fun v_4=>(intV IntKind.i64 v_4).bind fun n=>bif n==31 then (nilCheckA e1).bind fun v_5=>(ptrAdd 3 v_5).bind fun v_6=>(readA st v_6 1 false).bind fun v_7=>(idxSl st 4 v_7 0).bind fun v_8=>callB (cw 16 [w0,v_8,AV.int .i64 1] st) (fun v_9 st=>(nilCheckA w0).bind fun v_10=>(ptrAdd 0 v_10).bind fun v_11=>callB (cw 32 [v_11,AV.str [UInt8.ofNat 32,UInt8.ofNat 63,UInt8.ofNat 32]] st) (fun v_12 st=>(nilCheckA e1).bind fun v_13=>(ptrAdd 3 v_13).bind fun v_14=>(readA st v_14 1 false).bind fun v_15=>(idxSl st 4 v_15 1).bind fun v_16=>callB (cw 16 [w0,v_16,AV.int .i64 0] st) (fun v_17 st=>(nilCheckA w0).bind fun v_18=>(ptrAdd 0 v_18).bind fun v_19=>callB (cw 32 [v_19,AV.str [UInt8.ofNat 32,UInt8.ofNat 58,UInt8.ofNat 32]] st) (fun v_20 st=>(nilCheckA e1).bind fun v_21=>(ptrAdd 3 v_21).bind fun v_22=>(readA st v_22 1 false).bind fun v_23=>(idxSl st 4 v_23 2).bind fun v_24=>callB (cw 16 [w0,v_24,AV.int .i64 0] st) (fun v_25 st=>(leaveA Tryd.prog (callDA Tryd.prog trydhints (cw) (runW Tryd.prog trydhints)) Tryd.f16 [(0,w0),(1,e1),(87,AV.int .i64 n),(88,AV.bool true)] [(31,[v,AV.int .u8 41]++[])] AMode.ret st).bind fun o=>outL false base o.fst o.snd) fun v_25 st=>(leaveA Tryd.prog (callDA Tryd.prog trydhints (cw) (runW Tryd.prog trydhints)) Tryd.f16 [(0,w0),(1,e1),(87,AV.int .i64 n),(88,AV.bool true)] [(31,[v,AV.int .u8 41]++[])] (AMode.pan v_25) st).bind fun o=>outL false base o.fst o.snd) fun v_20 st=>(leaveA Tryd.prog (callDA Tryd.prog trydhints (cw) (runW Tryd.prog trydhints)) Tryd.f16 [(0,w0),(1,e1),(87,AV.int .i64 n),(88,AV.bool true)] [(31,[v,AV.int .u8 41]++[])] (AMode.pan v_20) st).bind fun o=>outL false base o.fst o.snd) fun v_17 st=>(leaveA Tryd.prog (callDA Tryd.prog trydhints (cw) (runW Tryd.prog trydhints)) Tryd.f16 [(0,w0),(1,e1),(87,AV.int .i64 n),(88,AV.bool true)] [(31,[v,AV.int .u8 41]++[])] (AMode.pan v_17) st).bind fun o=>outL false base o.fst o.snd) fun v_12 st=>(leaveA Tryd.prog (callDA Tryd.prog trydhints (cw) (runW Tryd.prog trydhints)) Tryd.f16 [(0,w0),(1,e1),(87,AV.int .i64 n),(88,AV.bool true)] [(31,[v,AV.int .u8 41]++[])] (AMode.pan v_12) st).bind fun o=>outL false base o.fst o.snd) fun v_9 st=>(leaveA Tryd.prog (callDA Tryd.prog trydhints (cw) (runW Tryd.prog trydhints)) Tryd.f16 [(0,w0),(1,e1),(87,AV.int .i64 n),(88,AV.bool true)] [(31,[v,AV.int .u8 41]++[])] (AMode.pan v_9) st).bind fun o=>outL false base o.fst o.snd else bif n==10 then (nilCheckA w0).bind fun v_5=>(ptrAdd 0 v_5).bind fun v_6=>callB (cw 31 [v_6,AV.int .u8 45] st) (fun v_7 st=>(nilCheckA e1).bind fun v_8=>(ptrAdd 3 v_8).bind fun v_9=>(readA st v_9 1 false).bind fun v_10=>(idxSl st 4 v_10 0).bind fun v_11=>callB (cw 16 [w0,v_11,AV.int .i64 12] st) (fun v_12 st=>(leaveA Tryd.prog (callDA Tryd.prog trydhints (cw) (runW Tryd.prog trydhints)) Tryd.f16 [(0,w0),(1,e1),(87,AV.int .i64 n),(88,AV.bool false),(119,AV.bool true)] [(31,[v,AV.int .u8 41]++[])] AMode.ret st).bind fun o=>outL false base o.fst o.snd) fun v_12 st=>(leaveA Tryd.prog (callDA Tryd.prog trydhints (cw) (runW Tryd.prog trydhints)) Tryd.f16 [(0,w0),(1,e1),(87,AV.int .i64 n),(88,AV.bool false),(119,AV.bool true)] [(31,[v,AV.int .u8 41]++[])] (AMode.pan v_12) st).bind fun o=>outL false base o.fst o.snd) fun v_7 st=>(leaveA Tryd.prog (callDA Tryd.prog trydhints (cw) (runW Tryd.prog trydhints)) Tryd.f16 [(0,w0),(1,e1),(87,AV.int .i64 n),(88,AV.bool false),(119,AV.bool true)] [(31,[v,AV.int .u8 41]++[])] (AMode.pan v_7) st).bind fun o=>outL false base o.fst o.snd else bif n==11 then (nilCheckA w0).bind fun v_5=>(ptrAdd 0 v_5).bind fun v_6=>callB (cw 31 [v_6,AV.int .u8 33] st) (fun v_7 st=>(nilCheckA e1).bind fun v_8=>(ptrAdd 3 v_8).bind fun v_9=>(readA st v_9 1 false).bind fun v_10=>(idxSl st 4 v_10 0).bind fun v_11=>callB (cw 16 [w0,v_11,AV.int .i64 12] st) (fun v_12 st=>(leaveA Tryd.prog (callDA Tryd.prog trydhints (cw) (runW Tryd.prog trydhints)) Tryd.f16 [(0,w0),(1,e1),(87,AV.int .i64 n),(88,AV.bool false),(119,AV.bool false),(132,AV.bool true)] [(31,[v,AV.int .u8 41]++[])] AMode.ret st).bind fun o=>outL false base o.fst o.snd) fun v_12 st=>(leaveA Tryd.prog (callDA Tryd.prog trydhints (cw) (runW Tryd.prog trydhints)) Tryd.f16 [(0,w0),(1,e1),(87,AV.int .i64 n),(88,AV.bool false),(119,AV.bool false),(132,AV.bool true)] [(31,[v,AV.int .u8 41]++[])] (AMode.pan v_12) st).bind fun o=>outL false base o.fst o.snd) fun v_7 st=>(leaveA Tryd.prog (callDA Tryd.prog trydhints (cw) (runW Tryd.prog trydhints)) Tryd.f16 [(0,w0),(1,e1),(87,AV.int .i64 n),(88,AV.bool false),(119,AV.bool false),(132,AV.bool true)] [(31,[v,AV.int .u8 41]++[])] (AMode.pan v_7) st).bind fun o=>outL false base o.fst o.snd else bif n==7 then (nilCheckA e1).bind fun v_5=>(ptrAdd 3 v_5).bind fun v_6=>(readA st v_6 1 false).bind fun v_7=>(idxSl st 4 v_7 0).bind fun v_8=>callB (cw 16 [w0,v_8,AV.int .i64 13] st) (fun v_9 st=>(nilCheckA w0).bind fun v_10=>(ptrAdd 0 v_10).bind fun v_11=>(nilCheckA e1).bind fun v_12=>(ptrAdd 2 v_12).bind fun v_13=>(readA st v_13 1 false).bind fun v_14=>(strV v_14).bind fun s=>(strA BinOp.add [UInt8.ofNat 46] s).bind fun v_15=>(strV v_15).bind fun s=>callB (cw 32 [v_11,AV.str s] st) (fun v_16 st=>(leaveA Tryd.prog (callDA Tryd.prog trydhints (cw) (runW Tryd.prog trydhints)) Tryd.f16 [(0,w0),(1,e1),(87,AV.int .i64 n),(88,AV.bool false),(119,AV.bool false),(132,AV.bool false),(145,AV.bool true)] [(31,[v,AV.int .u8 41]++[])] AMode.ret st).bind fun o=>outL false base o.fst o.snd) fun v_16 st=>(leaveA Tryd.prog (callDA Tryd.prog trydhints (cw) (runW Tryd.prog trydhints)) Tryd.f16 (List.filter (fun p=>!(some 154==some p.fst||(some 155==some p.fst||(some 156==some p.fst||(some 157==some p.fst||(some 158==some p.fst||(some 159==some p.fst||(some 160==some p.fst||(some 161==some p.fst||(some 162==some p.fst||false)))))))))) [(0,w0),(1,e1),(87,AV.int .i64 n),(88,AV.bool false),(119,AV.bool false),(132,AV.bool false),(145,AV.bool true)]) [(31,[v,AV.int .u8 41]++[])] (AMode.pan v_16) st).bind fun o=>outL false base o.fst o.snd) fun v_9 st=>(leaveA Tryd.prog (callDA Tryd.prog trydhints (cw) (runW Tryd.prog trydhints)) Tryd.f16 [(0,w0),(1,e1),(87,AV.int .i64 n),(88,AV.bool false),(119,AV.bool false),(132,AV.bool false),(145,AV.bool true)] [(31,[v,AV.int .u8 41]++[])] (AMode.pan v_9) st).bind fun o=>outL false base o.fst o.snd else bif n==8 then (nilCheckA e1).bind fun v_5=>(ptrAdd 3 v_5).bind fun v_6=>(readA st v_6 1 false).bind fun v_7=>(idxSl st 4 v_7 0).bind fun v_8=>callB (cw 16 [w0,v_8,AV.int .i64 13] st) (fun v_9 st=>(nilCheckA w0).bind fun v_10=>(ptrAdd 0 v_10).bind fun v_11=>callB (cw 31 [v_11,AV.int .u8 91] st) (fun v_12 st=>(nilCheckA e1).bind fun v_13=>(ptrAdd 3 v_13).bind fun v_14=>(readA st v_14 1 false).bind fun v_15=>(idxSl st 4 v_15 1).bind fun v_16=>callB (cw 16 [w0,v_16,AV.int .i64 0] st) (fun v_17 st=>(nilCheckA w0).bind fun v_18=>(ptrAdd 0 v_18).bind fun v_19=>callB (cw 31 [v_19,AV.int .u8 93] st) (fun v_20 st=>(leaveA Tryd.prog (callDA Tryd.prog trydhints (cw) (runW Tryd.prog trydhints)) Tryd.f16 [(0,w0),(1,e1),(87,AV.int .i64 n),(88,AV.bool false),(119,AV.bool false),(132,AV.bool false),(145,AV.bool false),(163,AV.bool true)] [(31,[v,AV.int .u8 41]++[])] AMode.ret st).bind fun o=>outL false base o.fst o.snd) fun v_20 st=>(leaveA Tryd.prog (callDA Tryd.prog trydhints (cw) (runW Tryd.prog trydhints)) Tryd.f16 [(0,w0),(1,e1),(87,AV.int .i64 n),(88,AV.bool false),(119,AV.bool false),(132,AV.bool false),(145,AV.bool false),(163,AV.bool true)] [(31,[v,AV.int .u8 41]++[])] (AMode.pan v_20) st).bind fun o=>outL false base o.fst o.snd) fun v_17 st=>(leaveA Tryd.prog (callDA Tryd.prog trydhints (cw) (runW Tryd.prog trydhints)) Tryd.f16 [(0,w0),(1,e1),(87,AV.int .i64 n),(88,AV.bool false),(119,AV.bool false),(132,AV.bool false),(145,AV.bool false),(163,AV.bool true)] [(31,[v,AV.int .u8 41]++[])] (AMode.pan v_17) st).bind fun o=>outL false base o.fst o.snd) fun v_12 st=>(leaveA Tryd.prog (callDA Tryd.prog trydhints (cw) (runW Tryd.prog trydhints)) Tryd.f16 [(0,w0),(1,e1),(87,AV.int .i64 n),(88,AV.bool false),(119,AV.bool false),(132,AV.bool false),(145,AV.bool false),(163,AV.bool true)] [(31,[v,AV.int .u8 41]++[])] (AMode.pan v_12) st).bind fun o=>outL false base o.fst o.snd) fun v_9 st=>(leaveA Tryd.prog (callDA Tryd.prog trydhints (cw) (runW Tryd.prog trydhints)) Tryd.f16 [(0,w0),(1,e1),(87,AV.int .i64 n),(88,AV.bool false),(119,AV.bool false),(132,AV.bool false),(145,AV.bool false),(163,AV.bool true)] [(31,[v,AV.int .u8 41]++[])] (AMode.pan v_9) st).bind fun o=>outL false base o.fst o.snd else bif n==9 then (nilCheckA w0).bind fun v_5=>(ptrAdd 0 v_5).bind fun v_6=>callB (cw 25 [] st) (fun v_7 st_1=>(nilCheckA e1).bind fun v_8=>(ptrAdd 1 v_8).bind fun v_9=>(readA st_1 v_9 1 false).bind fun v_10=>(intV IntKind.i64 v_10).bind fun n_1=>(natA (AV.int .i64 (IntKind.i64.wrap (n_1 - 1)))).bind fun j=>(idxSl st_1 1 v_7 j).bind fun v_11=>(readA st_1 v_11 1 false).bind fun v_12=>(strV v_12).bind fun s=>(strA BinOp.add s [UInt8.ofNat 40]).bind fun v_13=>(strV v_13).bind fun s_1=>callB (cw 32 [v_6,AV.str s_1] st_1) (fun v_14 st_2=>if ((if isIp v_9=true then true else (List.range.loop [st_2,st_1,st].length []).all fun s=>if 0≤s∧s≤1 then
 match [st_2,st_1,st][[st_2,st_1,st].length - 1 - s]? with
 | some st =>
  match Option.map (fun v=>(Res.val v,st)) (ldA Tryd.prog st 3 v_9) with
  | some (Res.val v',snd)=>(AV.int .i64 n_1).beq v'
  | x=>false
 | none=>false else true)&&true)=true then (nilCheckA e1).bind fun v_15=>(ptrAdd 3 v_15).bind fun v_16=>(readA st_2 v_16 1 false).bind fun v_17=>(idxSl st_2 4 v_17 0).bind fun v_18=>callB (cw 16 [w0,v_18,AV.int .i64 0] st_2) (fun v_19 st=>(nilCheckA w0).bind fun v_20=>(ptrAdd 0 v_20).bind fun v_21=>callB (cw 31 [v_21,AV.int .u8 41] st) (fun v_22 st=>(leaveA Tryd.prog (callDA Tryd.prog trydhints (cw) (runW Tryd.prog trydhints)) Tryd.f16 [(0,w0),(1,e1),(87,AV.int .i64 n),(88,AV.bool false),(119,AV.bool false),(132,AV.bool false),(145,AV.bool false),(163,AV.bool false),(187,AV.bool true)] [(31,[v,AV.int .u8 41]++[])] AMode.ret st).bind fun o=>outL false base o.fst o.snd) fun v_22 st=>(leaveA Tryd.prog (callDA Tryd.prog trydhints (cw) (runW Tryd.prog trydhints)) Tryd.f16 [(0,w0),(1,e1),(87,AV.int .i64 n),(88,AV.bool false),(119,AV.bool false),(132,AV.bool false),(145,AV.bool false),(163,AV.bool false),(187,AV.bool true)] [(31,[v,AV.int .u8 41]++[])] (AMode.pan v_22) st).bind fun o=>outL false base o.fst o.snd) fun v_19 st=>(leaveA Tryd.prog (callDA Tryd.prog trydhints (cw) (runW Tryd.prog trydhints)) Tryd.f16 [(0,w0),(1,e1),(87,AV.int .i64 n),(88,AV.bool false),(119,AV.bool false),(132,AV.bool false),(145,AV.bool false),(163,AV.bool false),(187,AV.bool true)] [(31,[v,AV.int .u8 41]++[])] (AMode.pan v_19) st).bind fun o=>outL false base o.fst o.snd else none) fun v_14 st_2=>if ((if isIp v_9=true then true else (List.range.loop [st_1,st].length []).all fun s=>if 0≤s∧s≤1 then
 match [st_1,st][[st_1,st].length - 1 - s]? with
 | some st =>
  match Option.map (fun v=>(Res.val v,st)) (ldA Tryd.prog st 3 v_9) with
  | some (Res.val v',snd)=>(AV.int .i64 n_1).beq v'
  | x=>false
 | none=>false else true)&&true)=true then none else none) fun v st=>none else bif n==4 then (nilCheckA w0).bind fun v_5=>(ptrAdd 0 v_5).bind fun v_6=>(nilCheckA e1).bind fun v_7=>(ptrAdd 1 v_7).bind fun v_8=>(readA st v_8 1 false).bind fun v_9=>(intV IntKind.i64 v_9).bind fun n_1=>callB (cw 33 [AV.int .i64 n_1] st) (fun v_10 st=>(strV v_10).bind fun s=>callB (cw 32 [v_6,AV.str s] st) (fun v_11 st=>(leaveA Tryd.prog (callDA Tryd.prog trydhints (cw) (runW Tryd.prog trydhints)) Tryd.f16 [(0,w0),(1,e1),(87,AV.int .i64 n),(88,AV.bool false),(119,AV.bool false),(132,AV.bool false),(145,AV.bool false),(163,AV.bool false),(187,AV.bool false),(213,AV.bool true)] [(31,[v,AV.int .u8 41]++[])] AMode.ret st).bind fun o=>outL false base o.fst o.snd) fun v_11 st=>(leaveA Tryd.prog (callDA Tryd.prog trydhints (cw) (runW Tryd.prog trydhints)) Tryd.f16 (List.filter (fun p=>!(some 215==some p.fst||(some 216==some p.fst||(some 217==some p.fst||(some 218==some p.fst||(some 219==some p.fst||(some 220==some p.fst||(some 221==some p.fst||(some 222==some p.fst||(some 223==some p.fst||false)))))))))) [(0,w0),(1,e1),(87,AV.int .i64 n),(88,AV.bool false),(119,AV.bool false),(132,AV.bool false),(145,AV.bool false),(163,AV.bool false),(187,AV.bool false),(213,AV.bool true)]) [(31,[v,AV.int .u8 41]++[])] (AMode.pan v_11) st).bind fun o=>outL false base o.fst o.snd) fun v_10 st=>(leaveA Tryd.prog (callDA Tryd.prog trydhints (cw) (runW Tryd.prog trydhints)) Tryd.f16 (List.filter (fun p=>!(some 215==some p.fst||(some 216==some p.fst||(some 217==some p.fst||(some 218==some p.fst||(some 219==some p.fst||(some 220==some p.fst||(some 221==some p.fst||(some 222==some p.fst||(some 223==some p.fst||false)))))))))) [(0,w0),(1,e1),(87,AV.int .i64 n),(88,AV.bool false),(119,AV.bool false),(132,AV.bool false),(145,AV.bool false),(163,AV.bool false),(187,AV.bool false),(213,AV.bool true)]) [(31,[v,AV.int .u8 41]++[])] (AMode.pan v_10) st).bind fun o=>outL false base o.fst o.snd else bif n==5 then (nilCheckA e1).bind fun v_5=>(ptrAdd 2 v_5).bind fun v_6=>(readA st v_6 1 false).bind fun v_7=>(strV v_7).bind fun s=>callB (cw 34 [w0,AV.str s] st) (fun v_8 st=>(leaveA Tryd.prog (callDA Tryd.prog trydhints (cw) (runW Tryd.prog trydhints)) Tryd.f16 [(0,w0),(1,e1),(87,AV.int .i64 n),(88,AV.bool false),(119,AV.bool false),(132,AV.bool false),(145,AV.bool false),(163,AV.bool false),(187,AV.bool false),(213,AV.bool false),(224,AV.bool true)] [(31,[v,AV.int .u8 41]++[])] AMode.ret st).bind fun o=>outL false base o.fst o.snd) fun v_8 st=>(leaveA Tryd.prog (callDA Tryd.prog trydhints (cw) (runW Tryd.prog trydhints)) Tryd.f16 [(0,w0),(1,e1),(87,AV.int .i64 n),(88,AV.bool false),(119,AV.bool false),(132,AV.bool false),(145,AV.bool false),(163,AV.bool false),(187,AV.bool false),(213,AV.bool false),(224,AV.bool true)] [(31,[v,AV.int .u8 41]++[])] (AMode.pan v_8) st).bind fun o=>outL false base o.fst o.snd else bif n==6 then (nilCheckA w0).bind fun v_5=>(ptrAdd 0 v_5).bind fun v_6=>(nilCheckA e1).bind fun v_7=>(ptrAdd 2 v_7).bind fun v_8=>(readA st v_8 1 false).bind fun v_9=>(strV v_9).bind fun s=>callB (cw 32 [v_6,AV.str s] st) (fun v_10 st=>(leaveA Tryd.prog (callDA Tryd.prog trydhints (cw) (runW Tryd.prog trydhints)) Tryd.f16 [(0,w0),(1,e1),(87,AV.int .i64 n),(88,AV.bool false),(119,AV.bool false),(132,AV.bool false),(145,AV.bool false),(163,AV.bool false),(187,AV.bool false),(213,AV.bool false),(224,AV.bool false),(232,AV.bool true)] [(31,[v,AV.int .u8 41]++[])] AMode.ret st).bind fun o=>outL false base o.fst o.snd) fun v_10 st=>(leaveA Tryd.prog (callDA Tryd.prog trydhints (cw) (runW Tryd.prog trydhints)) Tryd.f16 (List.filter (fun p=>!(some 234==some p.fst||(some 235==some p.fst||(some 236==some p.fst||(some 237==some p.fst||(some 238==some p.fst||(some 239==some p.fst||(some 240==some p.fst||(some 241==some p.fst||false))))))))) [(0,w0),(1,e1),(87,AV.int .i64 n),(88,AV.bool false),(119,AV.bool false),(132,AV.bool false),(145,AV.bool false),(163,AV.bool false),(187,AV.bool false),(213,AV.bool false),(224,AV.bool false),(232,AV.bool true)]) [(31,[v,AV.int .u8 41]++[])] (AMode.pan v_10) st).bind fun o=>outL false base o.fst o.snd else bif n==1 then (nilCheckA w0).bind fun v_5=>(ptrAdd 0 v_5).bind fun v_6=>callB (cw 32 [v_6,AV.str [UInt8.ofNat 110,UInt8.ofNat 117,UInt8.ofNat 108,UInt8.ofNat 108]] st) (fun v_7 st=>(leaveA Tryd.prog (callDA Tryd.prog trydhints (cw) (runW Tryd.prog trydhints)) Tryd.f16 [(0,w0),(1,e1),(87,AV.int .i64 n),(88,AV.bool false),(119,AV.bool false),(132,AV.bool false),(145,AV.bool false),(163,AV.bool false),(187,AV.bool false),(213,AV.bool false),(224,AV.bool false),(232,AV.bool false),(242,AV.bool true)] [(31,[v,AV.int .u8 41]++[])] AMode.ret st).bind fun o=>outL false base o.fst o.snd) fun v_7 st=>(leaveA Tryd.prog (callDA Tryd.prog trydhints (cw) (runW Tryd.prog trydhints)) Tryd.f16 [(0,w0),(1,e1),(87,AV.int .i64 n),(88,AV.bool false),(119,AV.bool false),(132,AV.bool false),(145,AV.bool false),(163,AV.bool false),(187,AV.bool false),(213,AV.bool false),(224,AV.bool false),(232,AV.bool false),(242,AV.bool true)] [(31,[v,AV.int .u8 41]++[])] (AMode.pan v_7) st).bind fun o=>outL false base o.fst o.snd else bif n==2 then (nilCheckA w0).bind fun v_5=>(ptrAdd 0 v_5).bind fun v_6=>callB (cw 32 [v_6,AV.str [UInt8.ofNat 102,UInt8.ofNat 97,UInt8.ofNat 108,UInt8.ofNat 115,UInt8.ofNat 101]] st) (fun v_7 st=>(leaveA Tryd.prog (callDA Tryd.prog trydhints (cw) (runW Tryd.prog trydhints)) Tryd.f16 [(0,w0),(1,e1),(87,AV.int .i64 n),(88,AV.bool false),(119,AV.bool false),(132,AV.bool false),(145,AV.bool false),(163,AV.bool false),(187,AV.bool false),(213,AV.bool false),(224,AV.bool false),(232,AV.bool false),(242,AV.bool false),(248,AV.bool true)] [(31,[v,AV.int .u8 41]++[])] AMode.ret st).bind fun o=>outL false base o.fst o.snd) fun v_7 st=>(leaveA Tryd.prog (callDA Tryd.prog trydhints (cw) (runW Tryd.prog trydhints)) Tryd.f16 [(0,w0),(1,e1),(87,AV.int .i64 n),(88,AV.bool false),(119,AV.bool false),(132,AV.bool false),(145,AV.bool false),(163,AV.bool false),(187,AV.bool false),(213,AV.bool false),(224,AV.bool false),(232,AV.bool false),(242,AV.bool false),(248,AV.bool true)] [(31,[v,AV.int .u8 41]++[])] (AMode.pan v_7) st).bind fun o=>outL false base o.fst o.snd else bif n==3 then (nilCheckA w0).bind fun v_5=>(ptrAdd 0 v_5).bind fun v_6=>callB (cw 32 [v_6,AV.str [UInt8.ofNat 116,UInt8.ofNat 114,UInt8.ofNat 117,UInt8.ofNat 101]] st) (fun v_7 st=>(leaveA Tryd.prog (callDA Tryd.prog trydhints (cw) (runW Tryd.prog trydhints)) Tryd.f16 [(0,w0),(1,e1),(87,AV.int .i64 n),(88,AV.bool false),(119,AV.bool false),(132,AV.bool false),(145,AV.bool false),(163,AV.bool false),(187,AV.bool false),(213,AV.bool false),(224,AV.bool false),(232,AV.bool false),(242,AV.bool false),(248,AV.bool false),(254,AV.bool true)] [(31,[v,AV.int .u8 41]++[])] AMode.ret st).bind fun o=>outL false base o.fst o.snd) fun v_7 st=>(leaveA Tryd.prog (callDA Tryd.prog trydhints (cw) (runW Tryd.prog trydhints)) Tryd.f16 [(0,w0),(1,e1),(87,AV.int .i64 n),(88,AV.bool false),(119,AV.bool false),(132,AV.bool false),(145,AV.bool false),(163,AV.bool false),(187,AV.bool false),(213,AV.bool false),(224,AV.bool false),(232,AV.bool false),(242,AV.bool false),(248,AV.bool false),(254,AV.bool true)] [(31,[v,AV.int .u8 41]++[])] (AMode.pan v_7) st).bind fun o=>outL false base o.fst o.snd else (leaveA Tryd.prog (callDA Tryd.prog trydhints (cw) (runW Tryd.prog trydhints)) Tryd.f16 [(0,w0),(1,e1),(87,AV.int .i64 n),(88,AV.bool false),(119,AV.bool false),(132,AV.bool false),(145,AV.bool false),(163,AV.bool false),(187,AV.bool false),(213,AV.bool false),(224,AV.bool false),(232,AV.bool false),(242,AV.bool false),(248,AV.bool false),(254,AV.bool false)] [(31,[v,AV.int .u8 41]++[])] AMode.ret st).bind fun o=>outL false base o.fst o.snd) fun v st=>outL false base (AOut.pan v) st else (strA BinOp.neq op7 []).bind fun v=>(boolV v).bind fun b=>bif b then (nilCheckA e1).bind fun v=>(ptrAdd 3 v).bind fun v=>(readA st v 1 false).bind fun v=>(idxSl st 4 v 0).bind fun v=>callB (cw 16 [w0,v,AV.int .i64 12] st) (fun v st=>(nilCheckA w0).bind fun v=>(ptrAdd 0 v).bind fun v=>(strA BinOp.add [UInt8.ofNat 32] op7).bind fun v_1=>(strV v_1).bind fun s=>(strA BinOp.add s [UInt8.ofNat 32]).bind fun v_2=>(strV v_2).bind fun s=>callB (cw 32 [v,AV.str s] st) (fun v st=>(nilCheckA e1).bind fun v=>(ptrAdd 3 v).bind fun v=>(readA st v 1 false).bind fun v=>(idxSl st 4 v 1).bind fun v=>callB (cw 16 [w0,v,AV.int .i64 13] st) (fun v st=>outL false base (AOut.ret (AV.tup [])) st) fun v st=>outL false base (AOut.pan v) st) fun v st=>outL false base (AOut.pan v) st) fun v st=>outL false base (AOut.pan v) st else (nilCheckA e1).bind fun v=>(ptrAdd 0 v).bind fun v=>(readA st v 1 false).bind fun v=>(intV IntKind.i64 v).bind fun n=>bif n==31 then (nilCheckA e1).bind fun v=>(ptrAdd 3 v).bind fun v=>(readA st v 1 false).bind fun v=>(idxSl st 4 v 0).bind fun v=>callB (cw 16 [w0,v,AV.int .i64 1] st) (fun v st=>(nilCheckA w0).bind fun v=>(ptrAdd 0 v).bind fun v=>callB (cw 32 [v,AV.str [UInt8.ofNat 32,UInt8.ofNat 63,UInt8.ofNat 32]] st) (fun v st=>(nilCheckA e1).bind fun v=>(ptrAdd 3 v).bind fun v=>(readA st v 1 false).bind fun v=>(idxSl st 4 v 1).bind fun v=>callB (cw 16 [w0,v,AV.int .i64 0] st) (fun v st=>(nilCheckA w0).bind fun v=>(ptrAdd 0 v).bind fun v=>callB (cw 32 [v,AV.str [UInt8.ofNat 32,UInt8.ofNat 58,UInt8.ofNat 32]] st) (fun v st=>(nilCheckA e1).bind fun v=>(ptrAdd 3 v).bind fun v=>(readA st v 1 false).bind fun v=>(idxSl st 4 v 2).bind fun v=>callB (cw 16 [w0,v,AV.int .i64 0] st) (fun v st=>outL false base (AOut.ret (AV.tup [])) st) fun v st=>outL false base (AOut.pan v) st) fun v st=>outL false base (AOut.pan v) st) fun v st=>outL false base (AOut.pan v) st) fun v st=>outL false base (AOut.pan v) st) fun v st=>outL false base (AOut.pan v) st else bif n==10 then (nilCheckA w0).bind fun v=>(ptrAdd 0 v).bind fun v=>callB (cw 31 [v,AV.int .u8 45] st) (fun v st=>(nilCheckA e1).bind fun v=>(ptrAdd 3 v).bind fun v=>(readA st v 1 false).bind fun v=>(idxSl st 4 v 0).bind fun v=>callB (cw 16 [w0,v,AV.int .i64 12] st) (fun v st=>outL false base (AOut.ret (AV.tup [])) st) fun v st=>outL false base (AOut.pan v) st) fun v st=>outL false base (AOut.pan v) st else bif n==11 then (nilCheckA w0).bind fun v=>(ptrAdd 0 v).bind fun v=>callB (cw 31 [v,AV.int .u8 33] st) (fun v st=>(nilCheckA e1).bind fun v=>(ptrAdd 3 v).bind fun v=>(readA st v 1 false).bind fun v=>(idxSl st 4 v 0).bind fun v=>callB (cw 16 [w0,v,AV.int .i64 12] st) (fun v st=>outL false base (AOut.ret (AV.tup [])) st) fun v st=>outL false base (AOut.pan v) st) fun v st=>outL false base (AOut.pan v) st else bif n==7 then (nilCheckA e1).bind fun v=>(ptrAdd 3 v).bind fun v=>(readA st v 1 false).bind fun v=>(idxSl st 4 v 0).bind fun v=>callB (cw 16 [w0,v,AV.int .i64 13] st) (fun v st=>(nilCheckA w0).bind fun v=>(ptrAdd 0 v).bind fun v=>(nilCheckA e1).bind fun v_1=>(ptrAdd 2 v_1).bind fun v_2=>(readA st v_2 1 false).bind fun v_3=>(strV v_3).bind fun s=>(strA BinOp.add [UInt8.ofNat 46] s).bind fun v_4=>(strV v_4).bind fun s=>callB (cw 32 [v,AV.str s] st) (fun v st=>outL false base (AOut.ret (AV.tup [])) st) fun v st=>outL false base (AOut.pan v) st) fun v st=>outL false base (AOut.pan v) st else bif n==8 then (nilCheckA e1).bind fun v=>(ptrAdd 3 v).bind fun v=>(readA st v 1 false).bind fun v=>(idxSl st 4 v 0).bind fun v=>callB (cw 16 [w0,v,AV.int .i64 13] st) (fun v st=>(nilCheckA w0).bind fun v=>(ptrAdd 0 v).bind fun v=>callB (cw 31 [v,AV.int .u8 91] st) (fun v st=>(nilCheckA e1).bind fun v=>(ptrAdd 3 v).bind fun v=>(readA st v 1 false).bind fun v=>(idxSl st 4 v 1).bind fun v=>callB (cw 16 [w0,v,AV.int .i64 0] st) (fun v st=>(nilCheckA w0).bind fun v=>(ptrAdd 0 v).bind fun v=>callB (cw 31 [v,AV.int .u8 93] st) (fun v st=>outL false base (AOut.ret (AV.tup [])) st) fun v st=>outL false base (AOut.pan v) st) fun v st=>outL false base (AOut.pan v) st) fun v st=>outL false base (AOut.pan v) st) fun v st=>outL false base (AOut.pan v) st else bif n==9 then (nilCheckA w0).bind fun v=>(ptrAdd 0 v).bind fun v_1=>callB (cw 25 [] st) (fun v_2 st_1=>(nilCheckA e1).bind fun v_3=>(ptrAdd 1 v_3).bind fun v_4=>(readA st_1 v_4 1 false).bind fun v_5=>(intV IntKind.i64 v_5).bind fun n_1=>(natA (AV.int .i64 (IntKind.i64.wrap (n_1 - 1)))).bind fun j=>(idxSl st_1 1 v_2 j).bind fun v_6=>(readA st_1 v_6 1 false).bind fun v_7=>(strV v_7).bind fun s=>(strA BinOp.add s [UInt8.ofNat 40]).bind fun v_8=>(strV v_8).bind fun s_1=>callB (cw 32 [v_1,AV.str s_1] st_1) (fun v_9 st_2=>if ((if isIp v_4=true then true else (List.range.loop [st_2,st_1,st].length []).all fun s=>if 0≤s∧s≤1 then
 match [st_2,st_1,st][[st_2,st_1,st].length - 1 - s]? with
 | some st =>
  match Option.map (fun v=>(Res.val v,st)) (ldA Tryd.prog st 3 v_4) with
  | some (Res.val v',snd)=>(AV.int .i64 n_1).beq v'
  | x=>false
 | none=>false else true)&&true)=true then (nilCheckA e1).bind fun v=>(ptrAdd 3 v).bind fun v=>(readA st_2 v 1 false).bind fun v=>(idxSl st_2 4 v 0).bind fun v=>callB (cw 16 [w0,v,AV.int .i64 0] st_2) (fun v st=>(nilCheckA w0).bind fun v=>(ptrAdd 0 v).bind fun v=>callB (cw 31 [v,AV.int .u8 41] st) (fun v st=>outL false base (AOut.ret (AV.tup [])) st) fun v st=>outL false base (AOut.pan v) st) fun v st=>outL false base (AOut.pan v) st else none) fun v_9 st_2=>if ((if isIp v_4=true then true else (List.range.loop [st_1,st].length []).all fun s=>if 0≤s∧s≤1 then
 match [st_1,st][[st_1,st].length - 1 - s]? with
 | some st =>
  match Option.map (fun v=>(Res.val v,st)) (ldA Tryd.prog st 3 v_4) with
  | some (Res.val v',snd)=>(AV.int .i64 n_1).beq v'
  | x=>false
 | none=>false else true)&&true)=true then none else none) fun v st=>none else bif n==4 then (nilCheckA w0).bind fun v=>(ptrAdd 0 v).bind fun v=>(nilCheckA e1).bind fun v_1=>(ptrAdd 1 v_1).bind fun v_2=>(readA st v_2 1 false).bind fun v_3=>(intV IntKind.i64 v_3).bind fun n=>callB (cw 33 [AV.int .i64 n] st) (fun v_4 st=>(strV v_4).bind fun s=>callB (cw 32 [v,AV.str s] st) (fun v st=>outL false base (AOut.ret (AV.tup [])) st) fun v st=>outL false base (AOut.pan v) st) fun v st=>outL false base (AOut.pan v) st else bif n==5 then (nilCheckA e1).bind fun v=>(ptrAdd 2 v).bind fun v=>(readA st v 1 false).bind fun v=>(strV v).bind fun s=>callB (cw 34 [w0,AV.str s] st) (fun v st=>outL false base (AOut.ret (AV.tup [])) st) fun v st=>outL false base (AOut.pan v) st else bif n==6 then (nilCheckA w0).bind fun v=>(ptrAdd 0 v).bind fun v=>(nilCheckA e1).bind fun v_1=>(ptrAdd 2 v_1).bind fun v_2=>(readA st v_2 1 false).bind fun v_3=>(strV v_3).bind fun s=>callB (cw 32 [v,AV.str s] st) (fun v st=>outL false base (AOut.ret (AV.tup [])) st) fun v st=>outL false base (AOut.pan v) st else bif n==1 then (nilCheckA w0).bind fun v=>(ptrAdd 0 v).bind fun v=>callB (cw 32 [v,AV.str [UInt8.ofNat 110,UInt8.ofNat 117,UInt8.ofNat 108,UInt8.ofNat 108]] st) (fun v st=>outL false base (AOut.ret (AV.tup [])) st) fun v st=>outL false base (AOut.pan v) st else bif n==2 then (nilCheckA w0).bind fun v=>(ptrAdd 0 v).bind fun v=>callB (cw 32 [v,AV.str [UInt8.ofNat 102,UInt8.ofNat 97,UInt8.ofNat 108,UInt8.ofNat 115,UInt8.ofNat 101]] st) (fun v st=>outL false base (AOut.ret (AV.tup [])) st) fun v st=>outL false base (AOut.pan v) st else bif n==3 then (nilCheckA w0).bind fun v=>(ptrAdd 0 v).bind fun v=>callB (cw 32 [v,AV.str [UInt8.ofNat 116,UInt8.ofNat 114,UInt8.ofNat 117,UInt8.ofNat 101]] st) (fun v st=>outL false base (AOut.ret (AV.tup [])) st) fun v st=>outL false base (AOut.pan v) st else outL false base (AOut.ret (AV.tup [])) st else bif n==11 then bif decide (12<least2) then (nilCheckA w0).bind fun v=>(ptrAdd 0 v).bind fun v=>callB (cw 31 [v,AV.int .u8 40] st) (fun v st=>(nilCheckA w0).bind fun v=>(ptrAdd 0 v).bind fun v=>(strA BinOp.neq op7 []).bind fun v_1=>(boolV v_1).bind fun b=>bif b then (nilCheckA e1).bind fun v_2=>(ptrAdd 3 v_2).bind fun v_3=>(readA st v_3 1 false).bind fun v_4=>(idxSl st 4 v_4 0).bind fun v_5=>callB (cw 16 [w0,v_5,AV.int .i64 12] st) (fun v_6 st=>(nilCheckA w0).bind fun v_7=>(ptrAdd 0 v_7).bind fun v_8=>(strA BinOp.add [UInt8.ofNat 32] op7).bind fun v_9=>(strV v_9).bind fun s=>(strA BinOp.add s [UInt8.ofNat 32]).bind fun v_10=>(strV v_10).bind fun s=>callB (cw 32 [v_8,AV.str s] st) (fun v_11 st=>(nilCheckA e1).bind fun v_12=>(ptrAdd 3 v_12).bind fun v_13=>(readA st v_13 1 false).bind fun v_14=>(idxSl st 4 v_14 1).bind fun v_15=>callB (cw 16 [w0,v_15,AV.int .i64 13] st) (fun v_16 st=>(leaveA Tryd.prog (callDA Tryd.prog trydhints (cw) (runW Tryd.prog trydhints)) Tryd.f16 [(0,w0),(1,e1),(6,AV.int .i64 12),(7,AV.str op7),(57,AV.bool true)] [(31,[v,AV.int .u8 41]++[])] AMode.ret st).bind fun o=>outL false base o.fst o.snd) fun v_16 st=>(leaveA Tryd.prog (callDA Tryd.prog trydhints (cw) (runW Tryd.prog trydhints)) Tryd.f16 [(0,w0),(1,e1),(6,AV.int .i64 12),(7,AV.str op7),(57,AV.bool true)] [(31,[v,AV.int .u8 41]++[])] (AMode.pan v_16) st).bind fun o=>outL false base o.fst o.snd) fun v_11 st=>(leaveA Tryd.prog (callDA Tryd.prog trydhints (cw) (runW Tryd.prog trydhints)) Tryd.f16 [(0,w0),(1,e1),(6,AV.int .i64 12),(7,AV.str op7),(57,AV.bool true)] [(31,[v,AV.int .u8 41]++[])] (AMode.pan v_11) st).bind fun o=>outL false base o.fst o.snd) fun v_6 st=>(leaveA Tryd.prog (callDA Tryd.prog trydhints (cw) (runW Tryd.prog trydhints)) Tryd.f16 [(0,w0),(1,e1),(6,AV.int .i64 12),(7,AV.str op7),(57,AV.bool true)] [(31,[v,AV.int .u8 41]++[])] (AMode.pan v_6) st).bind fun o=>outL false base o.fst o.snd else (nilCheckA e1).bind fun v_2=>(ptrAdd 0 v_2).bind fun v_3=>(readA st v_3 1 false).bind fun v_4=>(intV IntKind.i64 v_4).bind fun n=>bif n==31 then (nilCheckA e1).bind fun v_5=>(ptrAdd 3 v_5).bind fun v_6=>(readA st v_6 1 false).bind fun v_7=>(idxSl st 4 v_7 0).bind fun v_8=>callB (cw 16 [w0,v_8,AV.int .i64 1] st) (fun v_9 st=>(nilCheckA w0).bind fun v_10=>(ptrAdd 0 v_10).bind fun v_11=>callB (cw 32 [v_11,AV.str [UInt8.ofNat 32,UInt8.ofNat 63,UInt8.ofNat 32]] st) (fun v_12 st=>(nilCheckA e1).bind fun v_13=>(ptrAdd 3 v_13).bind fun v_14=>(readA st v_14 1 false).bind fun v_15=>(idxSl st 4 v_15 1).bind fun v_16=>callB (cw 16 [w0,v_16,AV.int .i64 0] st) (fun v_17 st=>(nilCheckA w0).bind fun v_18=>(ptrAdd 0 v_18).bind fun v_19=>callB (cw 32 [v_19,AV.str [UInt8.ofNat 32,UInt8.ofNat 58,UInt8.ofNat 32]] st) (fun v_20 st=>(nilCheckA e1).bind fun v_21=>(ptrAdd 3 v_21).bind fun v_22=>(readA st v_22 1 false).bind fun v_23=>(idxSl st 4 v_23 2).bind fun v_24=>callB (cw 16 [w0,v_24,AV.int .i64 0] st) (fun v_25 st=>(leaveA Tryd.prog (callDA Tryd.prog trydhints (cw) (runW Tryd.prog trydhints)) Tryd.f16 [(0,w0),(1,e1),(87,AV.int .i64 n),(88,AV.bool true)] [(31,[v,AV.int .u8 41]++[])] AMode.ret st).bind fun o=>outL false base o.fst o.snd) fun v_25 st=>(leaveA Tryd.prog (callDA Tryd.prog trydhints (cw) (runW Tryd.prog trydhints)) Tryd.f16 [(0,w0),(1,e1),(87,AV.int .i64 n),(88,AV.bool true)] [(31,[v,AV.int .u8 41]++[])] (AMode.pan v_25) st).bind fun o=>outL false base o.fst o.snd) fun v_20 st=>(leaveA Tryd.prog (callDA Tryd.prog trydhints (cw) (runW Tryd.prog trydhints)) Tryd.f16 [(0,w0),(1,e1),(87,AV.int .i64 n),(88,AV.bool true)] [(31,[v,AV.int .u8 41]++[])] (AMode.pan v_20) st).bind fun o=>outL false base o.fst o.snd) fun v_17 st=>(leaveA Tryd.prog (callDA Tryd.prog trydhints (cw) (runW Tryd.prog trydhints)) Tryd.f16 [(0,w0),(1,e1),(87,AV.int .i64 n),(88,AV.bool true)] [(31,[v,AV.int .u8 41]++[])] (AMode.pan v_17) st).bind fun o=>outL false base o.fst o.snd) fun v_12 st=>(leaveA Tryd.prog (callDA Tryd.prog trydhints (cw) (runW Tryd.prog trydhints)) Tryd.f16 [(0,w0),(1,e1),(87,AV.int .i64 n),(88,AV.bool true)] [(31,[v,AV.int .u8 41]++[])] (AMode.pan v_12) st).bind fun o=>outL false base o.fst o.snd) fun v_9 st=>(leaveA Tryd.prog (callDA Tryd.prog trydhints (cw) (runW Tryd.prog trydhints)) Tryd.f16 [(0,w0),(1,e1),(87,AV.int .i64 n),(88,AV.bool true)] [(31,[v,AV.int .u8 41]++[])] (AMode.pan v_9) st).bind fun o=>outL false base o.fst o.snd else bif n==10 then (nilCheckA w0).bind fun v_5=>(ptrAdd 0 v_5).bind fun v_6=>callB (cw 31 [v_6,AV.int .u8 45] st) (fun v_7 st=>(nilCheckA e1).bind fun v_8=>(ptrAdd 3 v_8).bind fun v_9=>(readA st v_9 1 false).bind fun v_10=>(idxSl st 4 v_10 0).bind fun v_11=>callB (cw 16 [w0,v_11,AV.int .i64 12] st) (fun v_12 st=>(leaveA Tryd.prog (callDA Tryd.prog trydhints (cw) (runW Tryd.prog trydhints)) Tryd.f16 [(0,w0),(1,e1),(87,AV.int .i64 n),(88,AV.bool false),(119,AV.bool true)] [(31,[v,AV.int .u8 41]++[])] AMode.ret st).bind fun o=>outL false base o.fst o.snd) fun v_12 st=>(leaveA Tryd.prog (callDA Tryd.prog trydhints (cw) (runW Tryd.prog trydhints)) Tryd.f16 [(0,w0),(1,e1),(87,AV.int .i64 n),(88,AV.bool false),(119,AV.bool true)] [(31,[v,AV.int .u8 41]++[])] (AMode.pan v_12) st).bind fun o=>outL false base o.fst o.snd) fun v_7 st=>(leaveA Tryd.prog (callDA Tryd.prog trydhints (cw) (runW Tryd.prog trydhints)) Tryd.f16 [(0,w0),(1,e1),(87,AV.int .i64 n),(88,AV.bool false),(119,AV.bool true)] [(31,[v,AV.int .u8 41]++[])] (AMode.pan v_7) st).bind fun o=>outL false base o.fst o.snd else bif n==11 then (nilCheckA w0).bind fun v_5=>(ptrAdd 0 v_5).bind fun v_6=>callB (cw 31 [v_6,AV.int .u8 33] st) (fun v_7 st=>(nilCheckA e1).bind fun v_8=>(ptrAdd 3 v_8).bind fun v_9=>(readA st v_9 1 false).bind fun v_10=>(idxSl st 4 v_10 0).bind fun v_11=>callB (cw 16 [w0,v_11,AV.int .i64 12] st) (fun v_12 st=>(leaveA Tryd.prog (callDA Tryd.prog trydhints (cw) (runW Tryd.prog trydhints)) Tryd.f16 [(0,w0),(1,e1),(87,AV.int .i64 n),(88,AV.bool false),(119,AV.bool false),(132,AV.bool true)] [(31,[v,AV.int .u8 41]++[])] AMode.ret st).bind fun o=>outL false base o.fst o.snd) fun v_12 st=>(leaveA Tryd.prog (callDA Tryd.prog trydhints (cw) (runW Tryd.prog trydhints)) Tryd.f16 [(0,w0),(1,e1),(87,AV.int .i64 n),(88,AV.bool false),(119,AV.bool false),(132,AV.bool true)] [(31,[v,AV.int .u8 41]++[])] (AMode.pan v_12) st).bind fun o=>outL false base o.fst o.snd) fun v_7 st=>(leaveA Tryd.prog (callDA Tryd.prog trydhints (cw) (runW Tryd.prog trydhints)) Tryd.f16 [(0,w0),(1,e1),(87,AV.int .i64 n),(88,AV.bool false),(119,AV.bool false),(132,AV.bool true)] [(31,[v,AV.int .u8 41]++[])] (AMode.pan v_7) st).bind fun o=>outL false base o.fst o.snd else bif n==7 then (nilCheckA e1).bind fun v_5=>(ptrAdd 3 v_5).bind fun v_6=>(readA st v_6 1 false).bind fun v_7=>(idxSl st 4 v_7 0).bind fun v_8=>callB (cw 16 [w0,v_8,AV.int .i64 13] st) (fun v_9 st=>(nilCheckA w0).bind fun v_10=>(ptrAdd 0 v_10).bind fun v_11=>(nilCheckA e1).bind fun v_12=>(ptrAdd 2 v_12).bind fun v_13=>(readA st v_13 1 false).bind fun v_14=>(strV v_14).bind fun s=>(strA BinOp.add [UInt8.ofNat 46] s).bind fun v_15=>(strV v_15).bind fun s=>callB (cw 32 [v_11,AV.str s] st) (fun v_16 st=>(leaveA Tryd.prog (callDA Tryd.prog trydhints (cw) (runW Tryd.prog trydhints)) Tryd.f16 [(0,w0),(1,e1),(87,AV.int .i64 n),(88,AV.bool false),(119,AV.bool false),(132,AV.bool false),(145,AV.bool true)] [(31,[v,AV.int .u8 41]++[])] AMode.ret st).bind fun o=>outL false base o.fst o.snd) fun v_16 st=>(leaveA Tryd.prog (callDA Tryd.prog trydhints (cw) (runW Tryd.prog trydhints)) Tryd.f16 (List.filter (fun p=>!(some 154==some p.fst||(some 155==some p.fst||(some 156==some p.fst||(some 157==some p.fst||(some 158==some p.fst||(some 159==some p.fst||(some 160==some p.fst||(some 161==some p.fst||(some 162==some p.fst||false)))))))))) [(0,w0),(1,e1),(87,AV.int .i64 n),(88,AV.bool false),(119,AV.bool false),(132,AV.bool false),(145,AV.bool true)]) [(31,[v,AV.int .u8 41]++[])] (AMode.pan v_16) st).bind fun o=>outL false base o.fst o.snd) fun v_9 st=>(leaveA Tryd.prog (callDA Tryd.prog trydhints (cw) (runW Tryd.prog trydhints)) Tryd.f16 [(0,w0),(1,e1),(87,AV.int .i64 n),(88,AV.bool false),(119,AV.bool false),(132,AV.bool false),(145,AV.bool true)] [(31,[v,AV.int .u8 41]++[])] (AMode.pan v_9) st).bind fun o=>outL false base o.fst o.snd else bif n==8 then (nilCheckA e1).bind fun v_5=>(ptrAdd 3 v_5).bind fun v_6=>(readA st v_6 1 false).bind fun v_7=>(idxSl st 4 v_7 0).bind fun v_8=>callB (cw 16 [w0,v_8,AV.int .i64 13] st) (fun v_9 st=>(nilCheckA w0).bind fun v_10=>(ptrAdd 0 v_10).bind fun v_11=>callB (cw 31 [v_11,AV.int .u8 91] st) (fun v_12 st=>(nilCheckA e1).bind fun v_13=>(ptrAdd 3 v_13).bind fun v_14=>(readA st v_14 1 false).bind fun v_15=>(idxSl st 4 v_15 1).bind fun v_16=>callB (cw 16 [w0,v_16,AV.int .i64 0] st) (fun v_17 st=>(nilCheckA w0).bind fun v_18=>(ptrAdd 0 v_18).bind fun v_19=>callB (cw 31 [v_19,AV.int .u8 93] st) (fun v_20 st=>(leaveA Tryd.prog (callDA Tryd.prog trydhints (cw) (runW Tryd.prog trydhints)) Tryd.f16 [(0,w0),(1,e1),(87,AV.int .i64 n),(88,AV.bool false),(119,AV.bool false),(132,AV.bool false),(145,AV.bool false),(163,AV.bool true)] [(31,[v,AV.int .u8 41]++[])] AMode.ret st).bind fun o=>outL false base o.fst o.snd) fun v_20 st=>(leaveA Tryd.prog (callDA Tryd.prog trydhints (cw) (runW Tryd.prog trydhints)) Tryd.f16 [(0,w0),(1,e1),(87,AV.int .i64 n),(88,AV.bool false),(119,AV.bool false),(132,AV.bool false),(145,AV.bool false),(163,AV.bool true)] [(31,[v,AV.int .u8 41]++[])] (AMode.pan v_20) st).bind fun o=>outL false base o.fst o.snd) fun v_17 st=>(leaveA Tryd.prog (callDA Tryd.prog trydhints (cw) (runW Tryd.prog trydhints)) Tryd.f16 [(0,w0),(1,e1),(87,AV.int .i64 n),(88,AV.bool false),(119,AV.bool false),(132,AV.bool false),(145,AV.bool false),(163,AV.bool true)] [(31,[v,AV.int .u8 41]++[])] (AMode.pan v_17) st).bind fun o=>outL false base o.fst o.snd) fun v_12 st=>(leaveA Tryd.prog (callDA Tryd.prog trydhints (cw) (runW Tryd.prog trydhints)) Tryd.f16 [(0,w0),(1,e1),(87,AV.int .i64 n),(88,AV.bool false),(119,AV.bool false),(132,AV.bool false),(145,AV.bool false),(163,AV.bool true)] [(31,[v,AV.int .u8 41]++[])] (AMode.pan v_12) st).bind fun o=>outL false base o.fst o.snd) fun v_9 st=>(leaveA Tryd.prog (callDA Tryd.prog trydhints (cw) (runW Tryd.prog trydhints)) Tryd.f16 [(0,w0),(1,e1),(87,AV.int .i64 n),(88,AV.bool false),(119,AV.bool false),(132,AV.bool false),(145,AV.bool false),(163,AV.bool true)] [(31,[v,AV.int .u8 41]++[])] (AMode.pan v_9) st).bind fun o=>outL false base o.fst o.snd else bif n==9 then (nilCheckA w0).bind fun v_5=>(ptrAdd 0 v_5).bind fun v_6=>callB (cw 25 [] st) (fun v_7 st_1=>(nilCheckA e1).bind fun v_8=>(ptrAdd 1 v_8).bind fun v_9=>(readA st_1 v_9 1 false).bind fun v_10=>(intV IntKind.i64 v_10).bind fun n_1=>(natA (AV.int .i64 (IntKind.i64.wrap (n_1 - 1)))).bind fun j=>(idxSl st_1 1 v_7 j).bind fun v_11=>(readA st_1 v_11 1 false).bind fun v_12=>(strV v_12).bind fun s=>(strA BinOp.add s [UInt8.ofNat 40]).bind fun v_13=>(strV v_13).bind fun s_1=>callB (cw 32 [v_6,AV.str s_1] st_1) (fun v_14 st_2=>if ((if isIp v_9=true then true else (List.range.loop [st_2,st_1,st].length []).all fun s=>if 0≤s∧s≤1 then
 match [st_2,st_1,st][[st_2,st_1,st].length - 1 - s]? with
 | some st =>
  match Option.map (fun v=>(Res.val v,st)) (ldA Tryd.prog st 3 v_9) with
  | some (Res.val v',snd)=>(AV.int .i64 n_1).beq v'
  | x=>false
 | none=>false else true)&&true)=true then (nilCheckA e1).bind fun v_15=>(ptrAdd 3 v_15).bind fun v_16=>(readA st_2 v_16 1 false).bind fun v_17=>(idxSl st_2 4 v_17 0).bind fun v_18=>callB (cw 16 [w0,v_18,AV.int .i64 0] st_2) (fun v_19 st=>(nilCheckA w0).bind fun v_20=>(ptrAdd 0 v_20).bind fun v_21=>callB (cw 31 [v_21,AV.int .u8 41] st) (fun v_22 st=>(leaveA Tryd.prog (callDA Tryd.prog trydhints (cw) (runW Tryd.prog trydhints)) Tryd.f16 [(0,w0),(1,e1),(87,AV.int .i64 n),(88,AV.bool false),(119,AV.bool false),(132,AV.bool false),(145,AV.bool false),(163,AV.bool false),(187,AV.bool true)] [(31,[v,AV.int .u8 41]++[])] AMode.ret st).bind fun o=>outL false base o.fst o.snd) fun v_22 st=>(leaveA Tryd.prog (callDA Tryd.prog trydhints (cw) (runW Tryd.prog trydhints)) Tryd.f16 [(0,w0),(1,e1),(87,AV.int .i64 n),(88,AV.bool false),(119,AV.bool false),(132,AV.bool false),(145,AV.bool false),(163,AV.bool false),(187,AV.bool true)] [(31,[v,AV.int .u8 41]++[])] (AMode.pan v_22) st).bind fun o=>outL false base o.fst o.snd) fun v_19 st=>(leaveA Tryd.prog (callDA Tryd.prog trydhints (cw) (runW Tryd.prog trydhints)) Tryd.f16 [(0,w0),(1,e1),(87,AV.int .i64 n),(88,AV.bool false),(119,AV.bool false),(132,AV.bool false),(145,AV.bool false),(163,AV.bool false),(187,AV.bool true)] [(31,[v,AV.int .u8 41]++[])] (AMode.pan v_19) st).bind fun o=>outL false base o.fst o.snd else none) fun v_14 st_2=>if ((if isIp v_9=true then true else (List.range.loop [st_1,st].length []).all fun s=>if 0≤s∧s≤1 then
 match [st_1,st][[st_1,st].length - 1 - s]? with
 | some st =>
  match Option.map (fun v=>(Res.val v,st)) (ldA Tryd.prog st 3 v_9) with
  | some (Res.val v',snd)=>(AV.int .i64 n_1).beq v'
  | x=>false
 | none=>false else true)&&true)=true then none else none) fun v st=>none else bif n==4 then (nilCheckA w0).bind fun v_5=>(ptrAdd 0 v_5).bind fun v_6=>(nilCheckA e1).bind fun v_7=>(ptrAdd 1 v_7).bind fun v_8=>(readA st v_8 1 false).bind fun v_9=>(intV IntKind.i64 v_9).bind fun n_1=>callB (cw 33 [AV.int .i64 n_1] st) (fun v_10 st=>(strV v_10).bind fun s=>callB (cw 32 [v_6,AV.str s] st) (fun v_11 st=>(leaveA Tryd.prog (callDA Tryd.prog trydhints (cw) (runW Tryd.prog trydhints)) Tryd.f16 [(0,w0),(1,e1),(87,AV.int .i64 n),(88,AV.bool false),(119,AV.bool false),(132,AV.bool false),(145,AV.bool false),(163,AV.bool false),(187,AV.bool false),(213,AV.bool true)] [(31,[v,AV.int .u8 41]++[])] AMode.ret st).bind fun o=>outL false base o.fst o.snd) fun v_11 st=>(leaveA Tryd.prog (callDA Tryd.prog trydhints (cw) (runW Tryd.prog trydhints)) Tryd.f16 (List.filter (fun p=>!(some 215==some p.fst||(some 216==some p.fst||(some 217==some p.fst||(some 218==some p.fst||(some 219==some p.fst||(some 220==some p.fst||(some 221==some p.fst||(some 222==some p.fst||(some 223==some p.fst||false)))))))))) [(0,w0),(1,e1),(87,AV.int .i64 n),(88,AV.bool false),(119,AV.bool false),(132,AV.bool false),(145,AV.bool false),(163,AV.bool false),(187,AV.bool false),(213,AV.bool true)]) [(31,[v,AV.int .u8 41]++[])] (AMode.pan v_11) st).bind fun o=>outL false base o.fst o.snd) fun v_10 st=>(leaveA Tryd.prog (callDA Tryd.prog trydhints (cw) (runW Tryd.prog trydhints)) Tryd.f16 (List.filter (fun p=>!(some 215==some p.fst||(some 216==some p.fst||(some 217==some p.fst||(some 218==some p.fst||(some 219==some p.fst||(some 220==some p.fst||(some 221==some p.fst||(some 222==some p.fst||(some 223==some p.fst||false)))))))))) [(0,w0),(1,e1),(87,AV.int .i64 n),(88,AV.bool false),(119,AV.bool false),(132,AV.bool false),(145,AV.bool false),(163,AV.bool false),(187,AV.bool false),(213,AV.bool true)]) [(31,[v,AV.int .u8 41]++[])] (AMode.pan v_10) st).bind fun o=>outL false base o.fst o.snd else bif n==5 then (nilCheckA e1).bind fun v_5=>(ptrAdd 2 v_5).bind fun v_6=>(readA st v_6 1 false).bind fun v_7=>(strV v_7).bind fun s=>callB (cw 34 [w0,AV.str s] st) (fun v_8 st=>(leaveA Tryd.prog (callDA Tryd.prog trydhints (cw) (runW Tryd.prog trydhints)) Tryd.f16 [(0,w0),(1,e1),(87,AV.int .i64 n),(88,AV.bool false),(119,AV.bool false),(132,AV.bool false),(145,AV.bool false),(163,AV.bool false),(187,AV.bool false),(213,AV.bool false),(224,AV.bool true)] [(31,[v,AV.int .u8 41]++[])] AMode.ret st).bind fun o=>outL false base o.fst o.snd) fun v_8 st=>(leaveA Tryd.prog (callDA Tryd.prog trydhints (cw) (runW Tryd.prog trydhints)) Tryd.f16 [(0,w0),(1,e1),(87,AV.int .i64 n),(88,AV.bool false),(119,AV.bool false),(132,AV.bool false),(145,AV.bool false),(163,AV.bool false),(187,AV.bool false),(213,AV.bool false),(224,AV.bool true)] [(31,[v,AV.int .u8 41]++[])] (AMode.pan v_8) st).bind fun o=>outL false base o.fst o.snd else bif n==6 then (nilCheckA w0).bind fun v_5=>(ptrAdd 0 v_5).bind fun v_6=>(nilCheckA e1).bind fun v_7=>(ptrAdd 2 v_7).bind fun v_8=>(readA st v_8 1 false).bind fun v_9=>(strV v_9).bind fun s=>callB (cw 32 [v_6,AV.str s] st) (fun v_10 st=>(leaveA Tryd.prog (callDA Tryd.prog trydhints (cw) (runW Tryd.prog trydhints)) Tryd.f16 [(0,w0),(1,e1),(87,AV.int .i64 n),(88,AV.bool false),(119,AV.bool false),(132,AV.bool false),(145,AV.bool false),(163,AV.bool false),(187,AV.bool false),(213,AV.bool false),(224,AV.bool false),(232,AV.bool true)] [(31,[v,AV.int .u8 41]++[])] AMode.ret st).bind fun o=>outL false base o.fst o.snd) fun v_10 st=>(leaveA Tryd.prog (callDA Tryd.prog trydhints (cw) (runW Tryd.prog trydhints)) Tryd.f16 (List.filter (fun p=>!(some 234==some p.fst||(some 235==some p.fst||(some 236==some p.fst||(some 237==some p.fst||(some 238==some p.fst||(some 239==some p.fst||(some 240==some p.fst||(some 241==some p.fst||false))))))))) [(0,w0),(1,e1),(87,AV.int .i64 n),(88,AV.bool false),(119,AV.bool false),(132,AV.bool false),(145,AV.bool false),(163,AV.bool false),(187,AV.bool false),(213,AV.bool false),(224,AV.bool false),(232,AV.bool true)]) [(31,[v,AV.int .u8 41]++[])] (AMode.pan v_10) st).bind fun o=>outL false base o.fst o.snd else bif n==1 then (nilCheckA w0).bind fun v_5=>(ptrAdd 0 v_5).bind fun v_6=>callB (cw 32 [v_6,AV.str [UInt8.ofNat 110,UInt8.ofNat 117,UInt8.ofNat 108,UInt8.ofNat 108]] st) (fun v_7 st=>(leaveA Tryd.prog (callDA Tryd.prog trydhints (cw) (runW Tryd.prog trydhints)) Tryd.f16 [(0,w0),(1,e1),(87,AV.int .i64 n),(88,AV.bool false),(119,AV.bool false),(132,AV.bool false),(145,AV.bool false),(163,AV.bool false),(187,AV.bool false),(213,AV.bool false),(224,AV.bool false),(232,AV.bool false),(242,AV.bool true)] [(31,[v,AV.int .u8 41]++[])] AMode.ret st).bind fun o=>outL false base o.fst o.snd) fun v_7 st=>(leaveA Tryd.prog (callDA Tryd.prog trydhints (cw) (runW Tryd.prog trydhints)) Tryd.f16 [(0,w0),(1,e1),(87,AV.int .i64 n),(88,AV.bool false),(119,AV.bool false),(132,AV.bool false),(145,AV.bool false),(163,AV.bool false),(187,AV.bool false),(213,AV.bool false),(224,AV.bool false),(232,AV.bool false),(242,AV.bool true)] [(31,[v,AV.int .u8 41]++[])] (AMode.pan v_7) st).bind fun o=>outL false base o.fst o.snd else bif n==2 then (nilCheckA w0).bind fun v_5=>(ptrAdd 0 v_5).bind fun v_6=>callB (cw 32 [v_6,AV.str [UInt8.ofNat 102,UInt8.ofNat 97,UInt8.ofNat 108,UInt8.ofNat 115,UInt8.ofNat 101]] st) (fun v_7 st=>(leaveA Tryd.prog (callDA Tryd.prog trydhints (cw) (runW Tryd.prog trydhints)) Tryd.f16 [(0,w0),(1,e1),(87,AV.int .i64 n),(88,AV.bool false),(119,AV.bool false),(132,AV.bool false),(145,AV.bool false),(163,AV.bool false),(187,AV.bool false),(213,AV.bool false),(224,AV.bool false),(232,AV.bool false),(242,AV.bool false),(248,AV.bool true)] [(31,[v,AV.int .u8 41]++[])] AMode.ret st).bind fun o=>outL false base o.fst o.snd) fun v_7 st=>(leaveA Tryd.prog (callDA Tryd.prog trydhints (cw) (runW Tryd.prog trydhints)) Tryd.f16 [(0,w0),(1,e1),(87,AV.int .i64 n),(88,AV.bool false),(119,AV.bool false),(132,AV.bool false),(145,AV.bool false),(163,AV.bool false),(187,AV.bool false),(213,AV.bool false),(224,AV.bool false),(232,AV.bool false),(242,AV.bool false),(248,AV.bool true)] [(31,[v,AV.int .u8 41]++[])] (AMode.pan v_7) st).bind fun o=>outL false base o.fst o.snd else bif n==3 then (nilCheckA w0).bind fun v_5=>(ptrAdd 0 v_5).bind fun v_6=>callB (cw 32 [v_6,AV.str [UInt8.ofNat 116,UInt8.ofNat 114,UInt8.ofNat 117,UInt8.ofNat 101]] st) (fun v_7 st=>(leaveA Tryd.prog (callDA Tryd.prog trydhints (cw) (runW Tryd.prog trydhints)) Tryd.f16 [(0,w0),(1,e1),(87,AV.int .i64 n),(88,AV.bool false),(119,AV.bool false),(132,AV.bool false),(145,AV.bool false),(163,AV.bool false),(187,AV.bool false),(213,AV.bool false),(224,AV.bool false),(232,AV.bool false),(242,AV.bool false),(248,AV.bool false),(254,AV.bool true)] [(31,[v,AV.int .u8 41]++[])] AMode.ret st).bind fun o=>outL false base o.fst o.snd) fun v_7 st=>(leaveA Tryd.prog (callDA Tryd.prog trydhints (cw) (runW Tryd.prog trydhints)) Tryd.f16 [(0,w0),(1,e1),(87,AV.int .i64 n),(88,AV.bool false),(119,AV.bool false),(132,AV.bool false),(145,AV.bool false),(163,AV.bool false),(187,AV.bool false),(213,AV.bool false),(224,AV.bool false),(232,AV.bool false),(242,AV.bool false),(248,AV.bool false),(254,AV.bool true)] [(31,[v,AV.int .u8 41]++[])] (AMode.pan v_7) st).bind fun o=>outL false base o.fst o.snd else (leaveA Tryd.prog (callDA Tryd.prog trydhints (cw) (runW Tryd.prog trydhints)) Tryd.f16 [(0,w0),(1,e1),(87,AV.int .i64 n),(88,AV.bool false),(119,AV.bool false),(132,AV.bool false),(145,AV.bool false),(163,AV.bool false),(187,AV.bool false),(213,AV.bool false),(224,AV.bool false),(232,AV.bool false),(242,AV.bool false),(248,AV.bool false),(254,AV.bool false)] [(31,[v,AV.int .u8 41]++[])] AMode.ret st).bind fun o=>outL false base o.fst o.snd) fun v st=>outL false base (AOut.pan v) st else (strA BinOp.neq op7 []).bind fun v=>(boolV v).bind fun b=>bif b then (nilCheckA e1).bind fun v=>(ptrAdd 3 v).bind fun v=>(readA st v 1 false).bind fun v=>(idxSl st 4 v 0).bind fun v=>callB (cw 16 [w0,v,AV.int .i64 12] st) (fun v st=>(nilCheckA w0).bind fun v=>(ptrAdd 0 v).bind fun v=>(strA BinOp.add [UInt8.ofNat 32] op7).bind fun v_1=>(strV v_1).bind fun s=>(strA BinOp.add s [UInt8.ofNat 32]).bind fun v_2=>(strV v_2).bind fun s=>callB (cw 32 [v,AV.str s] st) (fun v st=>(nilCheckA e1).bind fun v=>(ptrAdd 3 v).bind fun v=>(readA st v 1 false).bind fun v=>(idxSl st 4 v 1).bind fun v=>callB (cw 16 [w0,v,AV.int .i64 13] st) (fun v st=>outL false base (AOut.ret (AV.tup [])) st) fun v st=>outL false base (AOut.pan v) st) fun v st=>outL false base (AOut.pan v) st) fun v st=>outL false base (AOut.pan v) st else (nilCheckA e1).bind fun v=>(ptrAdd 0 v).bind fun v=>(readA st v 1 false).bind fun v=>(intV IntKind.i64 v).bind fun n=>bif n==31 then (nilCheckA e1).bind fun v=>(ptrAdd 3 v).bind fun v=>(readA st v 1 false).bind fun v=>(idxSl st 4 v 0).bind fun v=>callB (cw 16 [w0,v,AV.int .i64 1] st) (fun v st=>(nilCheckA w0).bind fun v=>(ptrAdd 0 v).bind fun v=>callB (cw 32 [v,AV.str [UInt8.ofNat 32,UInt8.ofNat 63,UInt8.ofNat 32]] st) (fun v st=>(nilCheckA e1).bind fun v=>(ptrAdd 3 v).bind fun v=>(readA st v 1 false).bind fun v=>(idxSl st 4 v 1).bind fun v=>callB (cw 16 [w0,v,AV.int .i64 0] st) (fun v st=>(nilCheckA w0).bind fun v=>(ptrAdd 0 v).bind fun v=>callB (cw 32 [v,AV.str [UInt8.ofNat 32,UInt8.ofNat 58,UInt8.ofNat 32]] st) (fun v st=>(nilCheckA e1).bind fun v=>(ptrAdd 3 v).bind fun v=>(readA st v 1 false).bind fun v=>(idxSl st 4 v 2).bind fun v=>callB (cw 16 [w0,v,AV.int .i64 0] st) (fun v st=>outL false base (AOut.ret (AV.tup [])) st) fun v st=>outL false base (AOut.pan v) st) fun v st=>outL false base (AOut.pan v) st) fun v st=>outL false base (AOut.pan v) st) fun v st=>outL false base (AOut.pan v) st) fun v st=>outL false base (AOut.pan v) st else bif n==10 then (nilCheckA w0).bind fun v=>(ptrAdd 0 v).bind fun v=>callB (cw 31 [v,AV.int .u8 45] st) (fun v st=>(nilCheckA e1).bind fun v=>(ptrAdd 3 v).bind fun v=>(readA st v 1 false).bind fun v=>(idxSl st 4 v 0).bind fun v=>callB (cw 16 [w0,v,AV.int .i64 12] st) (fun v st=>outL false base (AOut.ret (AV.tup [])) st) fun v st=>outL false base (AOut.pan v) st) fun v st=>outL false base (AOut.pan v) st else bif n==11 then (nilCheckA w0).bind fun v=>(ptrAdd 0 v).bind fun v=>callB (cw 31 [v,AV.int .u8 33] st) (fun v st=>(nilCheckA e1).bind fun v=>(ptrAdd 3 v).bind fun v=>(readA st v 1 false).bind fun v=>(idxSl st 4 v 0).bind fun v=>callB (cw 16 [w0,v,AV.int .i64 12] st) (fun v st=>outL false base (AOut.ret (AV.tup [])) st) fun v st=>outL false base (AOut.pan v) st) fun v st=>outL false base (AOut.pan v) st else bif n==7 then (nilCheckA e1).bind fun v=>(ptrAdd 3 v).bind fun v=>(readA st v 1 false).bind fun v=>(idxSl st 4 v 0).bind fun v=>callB (cw 16 [w0,v,AV.int .i64 13] st) (fun v st=>(nilCheckA w0).bind fun v=>(ptrAdd 0 v).bind fun v=>(nilCheckA e1).bind fun v_1=>(ptrAdd 2 v_1).bind fun v_2=>(readA st v_2 1 false).bind fun v_3=>(strV v_3).bind fun s=>(strA BinOp.add [UInt8.ofNat 46] s).bind fun v_4=>(strV v_4).bind fun s=>callB (cw 32 [v,AV.str s] st) (fun v st=>outL false base (AOut.ret (AV.tup [])) st) fun v st=>outL false base (AOut.pan v) st) fun v st=>outL false base (AOut.pan v) st else bif n==8 then (nilCheckA e1).bind fun v=>(ptrAdd 3 v).bind fun v=>(readA st v 1 false).bind fun v=>(idxSl st 4 v 0).bind fun v=>callB (cw 16 [w0,v,AV.int .i64 13] st) (fun v st=>(nilCheckA w0).bind fun v=>(ptrAdd 0 v).bind fun v=>callB (cw 31 [v,AV.int .u8 91] st) (fun v st=>(nilCheckA e1).bind fun v=>(ptrAdd 3 v).bind fun v=>(readA st v 1 false).bind fun v=>(idxSl st 4 v 1).bind fun v=>callB (cw 16 [w0,v,AV.int .i64 0] st) (fun v st=>(nilCheckA w0).bind fun v=>(ptrAdd 0 v).bind fun v=>callB (cw 31 [v,AV.int .u8 93] st) (fun v st=>outL false base (AOut.ret (AV.tup [])) st) fun v st=>outL false base (AOut.pan v) st) fun v st=>outL false base (AOut.pan v) st) fun v st=>outL false base (AOut.pan v) st) fun v st=>outL false base (AOut.pan v) st else bif n==9 then (nilCheckA w0).bind fun v=>(ptrAdd 0 v).bind fun v_1=>callB (cw 25 [] st) (fun v_2 st_1=>(nilCheckA e1).bind fun v_3=>(ptrAdd 1 v_3).bind fun v_4=>(readA st_1 v_4 1 false).bind fun v_5=>(intV IntKind.i64 v_5).bind fun n_1=>(natA (AV.int .i64 (IntKind.i64.wrap (n_1 - 1)))).bind fun j=>(idxSl st_1 1 v_2 j).bind fun v_6=>(readA st_1 v_6 1 false).bind fun v_7=>(strV v_7).bind fun s=>(strA BinOp.add s [UInt8.ofNat 40]).bind fun v_8=>(strV v_8).bind fun s_1=>callB (cw 32 [v_1,AV.str s_1] st_1) (fun v_9 st_2=>if ((if isIp v_4=true then true else (List.range.loop [st_2,st_1,st].length []).all fun s=>if 0≤s∧s≤1 then
 match [st_2,st_1,st][[st_2,st_1,st].length - 1 - s]? with
 | some st =>
  match Option.map (fun v=>(Res.val v,st)) (ldA Tryd.prog st 3 v_4) with
  | some (Res.val v',snd)=>(AV.int .i64 n_1).beq v'
  | x=>false
 | none=>false else true)&&true)=true then (nilCheckA e1).bind fun v=>(ptrAdd 3 v).bind fun v=>(readA st_2 v 1 false).bind fun v=>(idxSl st_2 4 v 0).bind fun v=>callB (cw 16 [w0,v,AV.int .i64 0] st_2) (fun v st=>(nilCheckA w0).bind fun v=>(ptrAdd 0 v).bind fun v=>callB (cw 31 [v,AV.int .u8 41] st) (fun v st=>outL false base (AOut.ret (AV.tup [])) st) fun v st=>outL false base (AOut.pan v) st) fun v st=>outL false base (AOut.pan v) st else none) fun v_9 st_2=>if ((if isIp v_4=true then true else (List.range.loop [st_1,st].length []).all fun s=>if 0≤s∧s≤1 then
 match [st_1,st][[st_1,st].length - 1 - s]? with
 | some st =>
  match Option.map (fun v=>(Res.val v,st)) (ldA Tryd.prog st 3 v_4) with
  | some (Res.val v',snd)=>(AV.int .i64 n_1).beq v'
  | x=>false
 | none=>false else true)&&true)=true then none else none) fun v st=>none else bif n==4 then (nilCheckA w0).bind fun v=>(ptrAdd 0 v).bind fun v=>(nilCheckA e1).bind fun v_1=>(ptrAdd 1 v_1).bind fun v_2=>(readA st v_2 1 false).bind fun v_3=>(intV IntKind.i64 v_3).bind fun n=>callB (cw 33 [AV.int .i64 n] st) (fun v_4 st=>(strV v_4).bind fun s=>callB (cw 32 [v,AV.str s] st) (fun v st=>outL false base (AOut.ret (AV.tup [])) st) fun v st=>outL false base (AOut.pan v) st) fun v st=>outL false base (AOut.pan v) st else bif n==5 then (nilCheckA e1).bind fun v=>(ptrAdd 2 v).bind fun v=>(readA st v 1 false).bind fun v=>(strV v).bind fun s=>callB (cw 34 [w0,AV.str s] st) (fun v st=>outL false base (AOut.ret (AV.tup [])) st) fun v st=>outL false base (AOut.pan v) st else bif n==6 then (nilCheckA w0).bind fun v=>(ptrAdd 0 v).bind fun v=>(nilCheckA e1).bind fun v_1=>(ptrAdd 2 v_1).bind fun v_2=>(readA st v_2 1 false).bind fun v_3=>(strV v_3).bind fun s=>callB (cw 32 [v,AV.str s] st) (fun v st=>outL false base (AOut.ret (AV.tup [])) st) fun v st=>outL false base (AOut.pan v) st else bif n==1 then (nilCheckA w0).bind fun v=>(ptrAdd 0 v).bind fun v=>callB (cw 32 [v,AV.str [UInt8.ofNat 110,UInt8.ofNat 117,UInt8.ofNat 108,UInt8.ofNat 108]] st) (fun v st=>outL false base (AOut.ret (AV.tup [])) st) fun v st=>outL false base (AOut.pan v) st else bif n==2 then (nilCheckA w0).bind fun v=>(ptrAdd 0 v).bind fun v=>callB (cw 32 [v,AV.str [UInt8.ofNat 102,UInt8.ofNat 97,UInt8.ofNat 108,UInt8.ofNat 115,UInt8.ofNat 101]] st) (fun v st=>outL false base (AOut.ret (AV.tup [])) st) fun v st=>outL false base (AOut.pan v) st else bif n==3 then (nilCheckA w0).bind fun v=>(ptrAdd 0 v).bind fun v=>callB (cw 32 [v,AV.str [UInt8.ofNat 116,UInt8.ofNat 114,UInt8.ofNat 117,UInt8.ofNat 101]] st) (fun v st=>outL false base (AOut.ret (AV.tup [])) st) fun v st=>outL false base (AOut.pan v) st else outL false base (AOut.ret (AV.tup [])) st else bif decide (level6<least2) then (nilCheckA w0).bind fun v=>(ptrAdd 0 v).bind fun v=>callB (cw 31 [v,AV.int .u8 40] st) (fun v st=>(nilCheckA w0).bind fun v=>(ptrAdd 0 v).bind fun v=>(strA BinOp.neq op7 []).bind fun v_1=>(boolV v_1).bind fun b=>bif b then (nilCheckA e1).bind fun v_2=>(ptrAdd 3 v_2).bind fun v_3=>(readA st v_3 1 false).bind fun v_4=>(idxSl st 4 v_4 0).bind fun v_5=>callB (cw 16 [w0,v_5,AV.int .i64 level6] st) (fun v_6 st=>(nilCheckA w0).bind fun v_7=>(ptrAdd 0 v_7).bind fun v_8=>(strA BinOp.add [UInt8.ofNat 32] op7).bind fun v_9=>(strV v_9).bind fun s=>(strA BinOp.add s [UInt8.ofNat 32]).bind fun v_10=>(strV v_10).bind fun s=>callB (cw 32 [v_8,AV.str s] st) (fun v_11 st=>(nilCheckA e1).bind fun v_12=>(ptrAdd 3 v_12).bind fun v_13=>(readA st v_13 1 false).bind fun v_14=>(idxSl st 4 v_14 1).bind fun v_15=>callB (cw 16 [w0,v_15,AV.int .i64 (IntKind.i64.wrap (level6+1))] st) (fun v_16 st=>(leaveA Tryd.prog (callDA Tryd.prog trydhints (cw) (runW Tryd.prog trydhints)) Tryd.f16 [(0,w0),(1,e1),(6,AV.int .i64 level6),(7,AV.str op7),(57,AV.bool true)] [(31,[v,AV.int .u8 41]++[])] AMode.ret st).bind fun o=>outL false base o.fst o.snd) fun v_16 st=>(leaveA Tryd.prog (callDA Tryd.prog trydhints (cw) (runW Tryd.prog trydhints)) Tryd.f16 [(0,w0),(1,e1),(6,AV.int .i64 level6),(7,AV.str op7),(57,AV.bool true)] [(31,[v,AV.int .u8 41]++[])] (AMode.pan v_16) st).bind fun o=>outL false base o.fst o.snd) fun v_11 st=>(leaveA Tryd.prog (callDA Tryd.prog trydhints (cw) (runW Tryd.prog trydhints)) Tryd.f16 [(0,w0),(1,e1),(6,AV.int .i64 level6),(7,AV.str op7),(57,AV.bool true)] [(31,[v,AV.int .u8 41]++[])] (AMode.pan v_11) st).bind fun o=>outL false base o.fst o.snd) fun v_6 st=>(leaveA Tryd.prog (callDA Tryd.prog trydhints (cw) (runW Tryd.prog trydhints)) Tryd.f16 [(0,w0),(1,e1),(6,AV.int .i64 level6),(7,AV.str op7),(57,AV.bool true)] [(31,[v,AV.int .u8 41]++[])] (AMode.pan v_6) st).bind fun o=>outL false base o.fst o.snd else (nilCheckA e1).bind fun v_2=>(ptrAdd 0 v_2).bind fun v_3=>(readA st v_3 1 false).bind fun v_4=>(intV IntKind.i64 v_4).bind fun n=>bif n==31 then (nilCheckA e1).bind fun v_5=>(ptrAdd 3 v_5).bind fun v_6=>(readA st v_6 1 false).bind fun v_7=>(idxSl st 4 v_7 0).bind fun v_8=>callB (cw 16 [w0,v_8,AV.int .i64 1] st) (fun v_9 st=>(nilCheckA w0).bind fun v_10=>(ptrAdd 0 v_10).bind fun v_11=>callB (cw 32 [v_11,AV.str [UInt8.ofNat 32,UInt8.ofNat 63,UInt8.ofNat 32]] st) (fun v_12 st=>(nilCheckA e1).bind fun v_13=>(ptrAdd 3 v_13).bind fun v_14=>(readA st v_14 1 false).bind fun v_15=>(idxSl st 4 v_15 1).bind fun v_16=>callB (cw 16 [w0,v_16,AV.int .i64 0] st) (fun v_17 st=>(nilCheckA w0).bind fun v_18=>(ptrAdd 0 v_18).bind fun v_19=>callB (cw 32 [v_19,AV.str [UInt8.ofNat 32,UInt8.ofNat 58,UInt8.ofNat 32]] st) (fun v_20 st=>(nilCheckA e1).bind fun v_21=>(ptrAdd 3 v_21).bind fun v_22=>(readA st v_22 1 false).bind fun v_23=>(idxSl st 4 v_23 2).bind fun v_24=>callB (cw 16 [w0,v_24,AV.int .i64 0] st) (fun v_25 st=>(leaveA Tryd.prog (callDA Tryd.prog trydhints (cw) (runW Tryd.prog trydhints)) Tryd.f16 [(0,w0),(1,e1),(87,AV.int .i64 n),(88,AV.bool true)] [(31,[v,AV.int .u8 41]++[])] AMode.ret st).bind fun o=>outL false base o.fst o.snd) fun v_25 st=>(leaveA Tryd.prog (callDA Tryd.prog trydhints (cw) (runW Tryd.prog trydhints)) Tryd.f16 [(0,w0),(1,e1),(87,AV.int .i64 n),(88,AV.bool true)] [(31,[v,AV.int .u8 41]++[])] (AMode.pan v_25) st).bind fun o=>outL false base o.fst o.snd) fun v_20 st=>(leaveA Tryd.prog (callDA Tryd.prog trydhints (cw) (runW Tryd.prog trydhints)) Tryd.f16 [(0,w0),(1,e1),(87,AV.int .i64 n),(88,AV.bool true)] [(31,[v,AV.int .u8 41]++[])] (AMode.pan v_20) st).bind fun o=>outL false base o.fst o.snd) fun v_17 st=>(leaveA Tryd.prog (callDA Tryd.prog trydhints (cw) (runW Tryd.prog trydhints)) Tryd.f16 [(0,w0),(1,e1),(87,AV.int .i64 n),(88,AV.bool true)] [(31,[v,AV.int .u8 41]++[])] (AMode.pan v_17) st).bind fun o=>outL false base o.fst o.snd) fun v_12 st=>(leaveA Tryd.prog (callDA Tryd.prog trydhints (cw) (runW Tryd.prog trydhints)) Tryd.f16 [(0,w0),(1,e1),(87,AV.int .i64 n),(88,AV.bool true)] [(31,[v,AV.int .u8 41]++[])] (AMode.pan v_12) st).bind fun o=>outL false base o.fst o.snd) fun v_9 st=>(leaveA Tryd.prog (callDA Tryd.prog trydhints (cw) (runW Tryd.prog trydhints)) Tryd.f16 [(0,w0),(1,e1),(87,AV.int .i64 n),(88,AV.bool true)] [(31,[v,AV.int .u8 41]++[])] (AMode.pan v_9) st).bind fun o=>outL false base o.fst o.snd else bif n==10 then (nilCheckA w0).bind fun v_5=>(ptrAdd 0 v_5).bind fun v_6=>callB (cw 31 [v_6,AV.int .u8 45] st) (fun v_7 st=>(nilCheckA e1).bind fun v_8=>(ptrAdd 3 v_8).bind fun v_9=>(readA st v_9 1 false).bind fun v_10=>(idxSl st 4 v_10 0).bind fun v_11=>callB (cw 16 [w0,v_11,AV.int .i64 12] st) (fun v_12 st=>(leaveA Tryd.prog (callDA Tryd.prog trydhints (cw) (runW Tryd.prog trydhints)) Tryd.f16 [(0,w0),(1,e1),(87,AV.int .i64 n),(88,AV.bool false),(119,AV.bool true)] [(31,[v,AV.int .u8 41]++[])] AMode.ret st).bind fun o=>outL false base o.fst o.snd) fun v_12 st=>(leaveA Tryd.prog (callDA Tryd.prog trydhints (cw) (runW Tryd.prog trydhints)) Tryd.f16 [(0,w0),(1,e1),(87,AV.int .i64 n),(88,AV.bool false),(119,AV.bool true)] [(31,[v,AV.int .u8 41]++[])] (AMode.pan v_12) st).bind fun o=>outL false base o.fst o.snd) fun v_7 st=>(leaveA Tryd.prog (callDA Tryd.prog trydhints (cw) (runW Tryd.prog trydhints)) Tryd.f16 [(0,w0),(1,e1),(87,AV.int .i64 n),(88,AV.bool false),(119,AV.bool true)] [(31,[v,AV.int .u8 41]++[])] (AMode.pan v_7) st).bind fun o=>outL false base o.fst o.snd else bif n==11 then (nilCheckA w0).bind fun v_5=>(ptrAdd 0 v_5).bind fun v_6=>callB (cw 31 [v_6,AV.int .u8 33] st) (fun v_7 st=>(nilCheckA e1).bind fun v_8=>(ptrAdd 3 v_8).bind fun v_9=>(readA st v_9 1 false).bind fun v_10=>(idxSl st 4 v_10 0).bind fun v_11=>callB (cw 16 [w0,v_11,AV.int .i64 12] st) (fun v_12 st=>(leaveA Tryd.prog (callDA Tryd.prog trydhints (cw) (runW Tryd.prog trydhints)) Tryd.f16 [(0,w0),(1,e1),(87,AV.int .i64 n),(88,AV.bool false),(119,AV.bool false),(132,AV.bool true)] [(31,[v,AV.int .u8 41]++[])] AMode.ret st).bind fun o=>outL false base o.fst o.snd) fun v_12 st=>(leaveA Tryd.prog (callDA Tryd.prog trydhints (cw) (runW Tryd.prog trydhints)) Tryd.f16 [(0,w0),(1,e1),(87,AV.int .i64 n),(88,AV.bool false),(119,AV.bool false),(132,AV.bool true)] [(31,[v,AV.int .u8 41]++[])] (AMode.pan v_12) st).bind fun o=>outL false base o.fst o.snd) fun v_7 st=>(leaveA Tryd.prog (callDA Tryd.prog trydhints (cw) (runW Tryd.prog trydhints)) Tryd.f16 [(0,w0),(1,e1),(87,AV.int .i64 n),(88,AV.bool false),(119,AV.bool false),(132,AV.bool true)] [(31,[v,AV.int .u8 41]++[])] (AMode.pan v_7) st).bind fun o=>outL false base o.fst o.snd else bif n==7 then (nilCheckA e1).bind fun v_5=>(ptrAdd 3 v_5).bind fun v_6=>(readA st v_6 1 false).bind fun v_7=>(idxSl st 4 v_7 0).bind fun v_8=>callB (cw 16 [w0,v_8,AV.int .i64 13] st) (fun v_9 st=>(nilCheckA w0).bind fun v_10=>(ptrAdd 0 v_10).bind fun v_11=>(nilCheckA e1).bind fun v_12=>(ptrAdd 2 v_12).bind fun v_13=>(readA st v_13 1 false).bind fun v_14=>(strV v_14).bind fun s=>(strA BinOp.add [UInt8.ofNat 46] s).bind fun v_15=>(strV v_15).bind fun s=>callB (cw 32 [v_11,AV.str s] st) (fun v_16 st=>(leaveA Tryd.prog (callDA Tryd.prog trydhints (cw) (runW Tryd.prog trydhints)) Tryd.f16 [(0,w0),(1,e1),(87,AV.int .i64 n),(88,AV.bool false),(119,AV.bool false),(132,AV.bool false),(145,AV.bool true)] [(31,[v,AV.int .u8 41]++[])] AMode.ret st).bind fun o=>outL false base o.fst o.snd) fun v_16 st=>(leaveA Tryd.prog (callDA Tryd.prog trydhints (cw) (runW Tryd.prog trydhints)) Tryd.f16 (List.filter (fun p=>!(some 154==some p.fst||(some 155==some p.fst||(some 156==some p.fst||(some 157==some p.fst||(some 158==some p.fst||(some 159==some p.fst||(some 160==some p.fst||(some 161==some p.fst||(some 162==some p.fst||false)))))))))) [(0,w0),(1,e1),(87,AV.int .i64 n),(88,AV.bool false),(119,AV.bool false),(132,AV.bool false),(145,AV.bool true)]) [(31,[v,AV.int .u8 41]++[])] (AMode.pan v_16) st).bind fun o=>outL false base o.fst o.snd) fun v_9 st=>(leaveA Tryd.prog (callDA Tryd.prog trydhints (cw) (runW Tryd.prog trydhints)) Tryd.f16 [(0,w0),(1,e1),(87,AV.int .i64 n),(88,AV.bool false),(119,AV.bool false),(132,AV.bool false),(145,AV.bool true)] [(31,[v,AV.int .u8 41]++[])] (AMode.pan v_9) st).bind fun o=>outL false base o.fst o.snd else bif n==8 then (nilCheckA e1).bind fun v_5=>(ptrAdd 3 v_5).bind fun v_6=>(readA st v_6 1 false).bind fun v_7=>(idxSl st 4 v_7 0).bind fun v_8=>callB (cw 16 [w0,v_8,AV.int .i64 13] st) (fun v_9 st=>(nilCheckA w0).bind fun v_10=>(ptrAdd 0 v_10).bind fun v_11=>callB (cw 31 [v_11,AV.int .u8 91] st) (fun v_12 st=>(nilCheckA e1).bind fun v_13=>(ptrAdd 3 v_13).bind fun v_14=>(readA st v_14 1 false).bind fun v_15=>(idxSl st 4 v_15 1).bind fun v_16=>callB (cw 16 [w0,v_16,AV.int .i64 0] st) (fun v_17 st=>(nilCheckA w0).bind fun v_18=>(ptrAdd 0 v_18).bind fun v_19=>callB (cw 31 [v_19,AV.int .u8 93] st) (fun v_20 st=>(leaveA Tryd.prog (callDA Tryd.prog trydhints (cw) (runW Tryd.prog trydhints)) Tryd.f16 [(0,w0),(1,e1),(87,AV.int .i64 n),(88,AV.bool false),(119,AV.bool false),(132,AV.bool false),(145,AV.bool false),(163,AV.bool true)] [(31,[v,AV.int .u8 41]++[])] AMode.ret st).bind fun o=>outL false base o.fst o.snd) fun v_20 st=>(leaveA Tryd.prog (callDA Tryd.prog trydhints (cw) (runW Tryd.prog trydhints)) Tryd.f16 [(0,w0),(1,e1),(87,AV.int .i64 n),(88,AV.bool false),(119,AV.bool false),(132,AV.bool false),(145,AV.bool false),(163,AV.bool true)] [(31,[v,AV.int .u8 41]++[])] (AMode.pan v_20) st).bind fun o=>outL false base o.fst o.snd) fun v_17 st=>(leaveA Tryd.prog (callDA Tryd.prog trydhints (cw) (runW Tryd.prog trydhints)) Tryd.f16 [(0,w0),(1,e1),(87,AV.int .i64 n),(88,AV.bool false),(119,AV.bool false),(132,AV.bool false),(145,AV.bool false),(163,AV.bool true)] [(31,[v,AV.int .u8 41]++[])] (AMode.pan v_17) st).bind fun o=>outL false base o.fst o.snd) fun v_12 st=>(leaveA Tryd.prog (callDA Tryd.prog trydhints (cw) (runW Tryd.prog trydhints)) Tryd.f16 [(0,w0),(1,e1),(87,AV.int .i64 n),(88,AV.bool false),(119,AV.bool false),(132,AV.bool false),(145,AV.bool false),(163,AV.bool true)] [(31,[v,AV.int .u8 41]++[])] (AMode.pan v_12) st).bind fun o=>outL false base o.fst o.snd) fun v_9 st=>(leaveA Tryd.prog (callDA Tryd.prog trydhints (cw) (runW Tryd.prog trydhints)) Tryd.f16 [(0,w0),(1,e1),(87,AV.int .i64 n),(88,AV.bool false),(119,AV.bool false),(132,AV.bool false),(145,AV.bool false),(163,AV.bool true)] [(31,[v,AV.int .u8 41]++[])] (AMode.pan v_9) st).bind fun o=>outL false base o.fst o.snd else bif n==9 then (nilCheckA w0).bind fun v_5=>(ptrAdd 0 v_5).bind fun v_6=>callB (cw 25 [] st) (fun v_7 st_1=>(nilCheckA e1).bind fun v_8=>(ptrAdd 1 v_8).bind fun v_9=>(readA st_1 v_9 1 false).bind fun v_10=>(intV IntKind.i64 v_10).bind fun n_1=>(natA (AV.int .i64 (IntKind.i64.wrap (n_1 - 1)))).bind fun j=>(idxSl st_1 1 v_7 j).bind fun v_11=>(readA st_1 v_11 1 false).bind fun v_12=>(strV v_12).bind fun s=>(strA BinOp.add s [UInt8.ofNat 40]).bind fun v_13=>(strV v_13).bind fun s_1=>callB (cw 32 [v_6,AV.str s_1] st_1) (fun v_14 st_2=>if ((if isIp v_9=true then true else (List.range.loop [st_2,st_1,st].length []).all fun s=>if 0≤s∧s≤1 then
 match [st_2,st_1,st][[st_2,st_1,st].length - 1 - s]? with
 | some st =>
  match Option.map (fun v=>(Res.val v,st)) (ldA Tryd.prog st 3 v_9) with
  | some (Res.val v',snd)=>(AV.int .i64 n_1).beq v'
  | x=>false
 | none=>false else true)&&true)=true then (nilCheckA e1).bind fun v_15=>(ptrAdd 3 v_15).bind fun v_16=>(readA st_2 v_16 1 false).bind fun v_17=>(idxSl st_2 4 v_17 0).bind fun v_18=>callB (cw 16 [w0,v_18,AV.int .i64 0] st_2) (fun v_19 st=>(nilCheckA w0).bind fun v_20=>(ptrAdd 0 v_20).bind fun v_21=>callB (cw 31 [v_21,AV.int .u8 41] st) (fun v_22 st=>(leaveA Tryd.prog (callDA Tryd.prog trydhints (cw) (runW Tryd.prog trydhints)) Tryd.f16 [(0,w0),(1,e1),(87,AV.int .i64 n),(88,AV.bool false),(119,AV.bool false),(132,AV.bool false),(145,AV.bool false),(163,AV.bool false),(187,AV.bool true)] [(31,[v,AV.int .u8 41]++[])] AMode.ret st).bind fun o=>outL false base o.fst o.snd) fun v_22 st=>(leaveA Tryd.prog (callDA Tryd.prog trydhints (cw) (runW Tryd.prog trydhints)) Tryd.f16 [(0,w0),(1,e1),(87,AV.int .i64 n),(88,AV.bool false),(119,AV.bool false),(132,AV.bool false),(145,AV.bool false),(163,AV.bool false),(187,AV.bool true)] [(31,[v,AV.int .u8 41]++[])] (AMode.pan v_22) st).bind fun o=>outL false base o.fst o.snd) fun v_19 st=>(leaveA Tryd.prog (callDA Tryd.prog trydhints (cw) (runW Tryd.prog trydhints)) Tryd.f16 [(0,w0),(1,e1),(87,AV.int .i64 n),(88,AV.bool false),(119,AV.bool false),(132,AV.bool false),(145,AV.bool false),(163,AV.bool false),(187,AV.bool true)] [(31,[v,AV.int .u8 41]++[])] (AMode.pan v_19) st).bind fun o=>outL false base o.fst o.snd else none) fun v_14 st_2=>if ((if isIp v_9=true then true else (List.range.loop [st_1,st].length []).all fun s=>if 0≤s∧s≤1 then
 match [st_1,st][[st_1,st].length - 1 - s]? with
 | some st =>
  match Option.map (fun v=>(Res.val v,st)) (ldA Tryd.prog st 3 v_9) with
  | some (Res.val v',snd)=>(AV.int .i64 n_1).beq v'
  | x=>false
 | none=>false else true)&&true)=true then none else none) fun v st=>none else bif n==4 then (nilCheckA w0).bind fun v_5=>(ptrAdd 0 v_5).bind fun v_6=>(nilCheckA e1).bind fun v_7=>(ptrAdd 1 v_7).bind fun v_8=>(readA st v_8 1 false).bind fun v_9=>(intV IntKind.i64 v_9).bind fun n_1=>callB (cw 33 [AV.int .i64 n_1] st) (fun v_10 st=>(strV v_10).bind fun s=>callB (cw 32 [v_6,AV.str s] st) (fun v_11 st=>(leaveA Tryd.prog (callDA Tryd.prog trydhints (cw) (runW Tryd.prog trydhints)) Tryd.f16 [(0,w0),(1,e1),(87,AV.int .i64 n),(88,AV.bool false),(119,AV.bool false),(132,AV.bool false),(145,AV.bool false),(163,AV.bool false),(187,AV.bool false),(213,AV.bool true)] [(31,[v,AV.int .u8 41]++[])] AMode.ret st).bind fun o=>outL false base o.fst o.snd) fun v_11 st=>(leaveA Tryd.prog (callDA Tryd.prog trydhints (cw) (runW Tryd.prog trydhints)) Tryd.f16 (List.filter (fun p=>!(some 215==some p.fst||(some 216==some p.fst||(some 217==some p.fst||(some 218==some p.fst||(some 219==some p.fst||(some 220==some p.fst||(some 221==some p.fst||(some 222==some p.fst||(some 223==some p.fst||false)))))))))) [(0,w0),(1,e1),(87,AV.int .i64 n),(88,AV.bool false),(119,AV.bool false),(132,AV.bool false),(145,AV.bool false),(163,AV.bool false),(187,AV.bool false),(213,AV.bool true)]) [(31,[v,AV.int .u8 41]++[])] (AMode.pan v_11) st).bind fun o=>outL false base o.fst o.snd) fun v_10 st=>(leaveA Tryd.prog (callDA Tryd.prog trydhints (cw) (runW Tryd.prog trydhints)) Tryd.f16 (List.filter (fun p=>!(some 215==some p.fst||(some 216==some p.fst||(some 217==some p.fst||(some 218==some p.fst||(some 219==some p.fst||(some 220==some p.fst||(some 221==some p.fst||(some 222==some p.fst||(some 223==some p.fst||false)))))))))) [(0,w0),(1,e1),(87,AV.int .i64 n),(88,AV.bool false),(119,AV.bool false),(132,AV.bool false),(145,AV.bool false),(163,AV.bool false),(187,AV.bool false),(213,AV.bool true)]) [(31,[v,AV.int .u8 41]++[])] (AMode.pan v_10) st).bind fun o=>outL false base o.fst o.snd else bif n==5 then (nilCheckA e1).bind fun v_5=>(ptrAdd 2 v_5).bind fun v_6=>(readA st v_6 1 false).bind fun v_7=>(strV v_7).bind fun s=>callB (cw 34 [w0,AV.str s] st) (fun v_8 st=>(leaveA Tryd.prog (callDA Tryd.prog trydhints (cw) (runW Tryd.prog trydhints)) Tryd.f16 [(0,w0),(1,e1),(87,AV.int .i64 n),(88,AV.bool false),(119,AV.bool false),(132,AV.bool false),(145,AV.bool false),(163,AV.bool false),(187,AV.bool false),(213,AV.bool false),(224,AV.bool true)] [(31,[v,AV.int .u8 41]++[])] AMode.ret st).bind fun o=>outL false base o.fst o.snd) fun v_8 st=>(leaveA Tryd.prog (callDA Tryd.prog trydhints (cw) (runW Tryd.prog trydhints)) Tryd.f16 [(0,w0),(1,e1),(87,AV.int .i64 n),(88,AV.bool false),(119,AV.bool false),(132,AV.bool false),(145,AV.bool false),(163,AV.bool false),(187,AV.bool false),(213,AV.bool false),(224,AV.bool true)] [(31,[v,AV.int .u8 41]++[])] (AMode.pan v_8) st).bind fun o=>outL false base o.fst o.snd else bif n==6 then (nilCheckA w0).bind fun v_5=>(ptrAdd 0 v_5).bind fun v_6=>(nilCheckA e1).bind fun v_7=>(ptrAdd 2 v_7).bind fun v_8=>(readA st v_8 1 false).bind fun v_9=>(strV v_9).bind fun s=>callB (cw 32 [v_6,AV.str s] st) (fun v_10 st=>(leaveA Tryd.prog (callDA Tryd.prog trydhints (cw) (runW Tryd.prog trydhints)) Tryd.f16 [(0,w0),(1,e1),(87,AV.int .i64 n),(88,AV.bool false),(119,AV.bool false),(132,AV.bool false),(145,AV.bool false),(163,AV.bool false),(187,AV.bool false),(213,AV.bool false),(224,AV.bool false),(232,AV.bool true)] [(31,[v,AV.int .u8 41]++[])] AMode.ret st).bind fun o=>outL false base o.fst o.snd) fun v_10 st=>(leaveA Tryd.prog (callDA Tryd.prog trydhints (cw) (runW Tryd.prog trydhints)) Tryd.f16 (List.filter (fun p=>!(some 234==some p.fst||(some 235==some p.fst||(some 236==some p.fst||(some 237==some p.fst||(some 238==some p.fst||(some 239==some p.fst||(some 240==some p.fst||(some 241==some p.fst||false))))))))) [(0,w0),(1,e1),(87,AV.int .i64 n),(88,AV.bool false),(119,AV.bool false),(132,AV.bool false),(145,AV.bool false),(163,AV.bool false),(187,AV.bool false),(213,AV.bool false),(224,AV.bool false),(232,AV.bool true)]) [(31,[v,AV.int .u8 41]++[])] (AMode.pan v_10) st).bind fun o=>outL false base o.fst o.snd else bif n==1 then (nilCheckA w0).bind fun v_5=>(ptrAdd 0 v_5).bind fun v_6=>callB (cw 32 [v_6,AV.str [UInt8.ofNat 110,UInt8.ofNat 117,UInt8.ofNat 108,UInt8.ofNat 108]] st) (fun v_7 st=>(leaveA Tryd.prog (callDA Tryd.prog trydhints (cw) (runW Tryd.prog trydhints)) Tryd.f16 [(0,w0),(1,e1),(87,AV.int .i64 n),(88,AV.bool false),(119,AV.bool false),(132,AV.bool false),(145,AV.bool false),(163,AV.bool false),(187,AV.bool false),(213,AV.bool false),(224,AV.bool false),(232,AV.bool false),(242,AV.bool true)] [(31,[v,AV.int .u8 41]++[])] AMode.ret st).bind fun o=>outL false base o.fst o.snd) fun v_7 st=>(leaveA Tryd.prog (callDA Tryd.prog trydhints (cw) (runW Tryd.prog trydhints)) Tryd.f16 [(0,w0),(1,e1),(87,AV.int .i64 n),(88,AV.bool false),(119,AV.bool false),(132,AV.bool false),(145,AV.bool false),(163,AV.bool false),(187,AV.bool false),(213,AV.bool false),(224,AV.bool false),(232,AV.bool false),(242,AV.bool true)] [(31,[v,AV.int .u8 41]++[])] (AMode.pan v_7) st).bind fun o=>outL false base o.fst o.snd else bif n==2 then (nilCheckA w0).bind fun v_5=>(ptrAdd 0 v_5).bind fun v_6=>callB (cw 32 [v_6,AV.str [UInt8.ofNat 102,UInt8.ofNat 97,UInt8.ofNat 108,UInt8.ofNat 115,UInt8.ofNat 101]] st) (fun v_7 st=>(leaveA Tryd.prog (callDA Tryd.prog trydhints (cw) (runW Tryd.prog trydhints)) Tryd.f16 [(0,w0),(1,e1),(87,AV.int .i64 n),(88,AV.bool false),(119,AV.bool false),(132,AV.bool false),(145,AV.bool false),(163,AV.bool false),(187,AV.bool false),(213,AV.bool false),(224,AV.bool false),(232,AV.bool false),(242,AV.bool false),(248,AV.bool true)] [(31,[v,AV.int .u8 41]++[])] AMode.ret st).bind fun o=>outL false base o.fst o.snd) fun v_7 st=>(leaveA Tryd.prog (callDA Tryd.prog trydhints (cw) (runW Tryd.prog trydhints)) Tryd.f16 [(0,w0),(1,e1),(87,AV.int .i64 n),(88,AV.bool false),(119,AV.bool false),(132,AV.bool false),(145,AV.bool false),(163,AV.bool false),(187,AV.bool false),(213,AV.bool false),(224,AV.bool false),(232,AV.bool false),(242,AV.bool false),(248,AV.bool true)] [(31,[v,AV.int .u8 41]++[])] (AMode.pan v_7) st).bind fun o=>outL false base o.fst o.snd else bif n==3 then (nilCheckA w0).bind fun v_5=>(ptrAdd 0 v_5).bind fun v_6=>callB (cw 32 [v_6,AV.str [UInt8.ofNat 116,UInt8.ofNat 114,UInt8.ofNat 117,UInt8.ofNat 101]] st) (fun v_7 st=>(leaveA Tryd.prog (callDA Tryd.prog trydhints (cw) (runW Tryd.prog trydhints)) Tryd.f16 [(0,w0),(1,e1),(87,AV.int .i64 n),(88,AV.bool false),(119,AV.bool false),(132,AV.bool false),(145,AV.bool false),(163,AV.bool false),(187,AV.bool false),(213,AV.bool false),(224,AV.bool false),(232,AV.bool false),(242,AV.bool false),(248,AV.bool false),(254,AV.bool true)] [(31,[v,AV.int .u8 41]++[])] AMode.ret st).bind fun o=>outL false base o.fst o.snd) fun v_7 st=>(leaveA Tryd.prog (callDA Tryd.prog trydhints (cw) (runW Tryd.prog trydhints)) Tryd.f16 [(0,w0),(1,e1),(87,AV.int .i64 n),(88,AV.bool false),(119,AV.bool false),(132,AV.bool false),(145,AV.bool false),(163,AV.bool false),(187,AV.bool false),(213,AV.bool false),(224,AV.bool false),(232,AV.bool false),(242,AV.bool false),(248,AV.bool false),(254,AV.bool true)] [(31,[v,AV.int .u8 41]++[])] (AMode.pan v_7) st).bind fun o=>outL false base o.fst o.snd else (leaveA Tryd.prog (callDA Tryd.prog trydhints (cw) (runW Tryd.prog trydhints)) Tryd.f16 [(0,w0),(1,e1),(87,AV.int .i64 n),(88,AV.bool false),(119,AV.bool false),(132,AV.bool false),(145,AV.bool false),(163,AV.bool false),(187,AV.bool false),(213,AV.bool false),(224,AV.bool false),(232,AV.bool false),(242,AV.bool false),(248,AV.bool false),(254,AV.bool false)] [(31,[v,AV.int .u8 41]++[])] AMode.ret st).bind fun o=>outL false base o.fst o.snd) fun v st=>outL false base (AOut.pan v) st else (strA BinOp.neq op7 []).bind fun v=>(boolV v).bind fun b=>bif b then (nilCheckA e1).bind fun v=>(ptrAdd 3 v).bind fun v=>(readA st v 1 false).bind fun v=>(idxSl st 4 v 0).bind fun v=>callB (cw 16 [w0,v,AV.int .i64 level6] st) (fun v st=>(nilCheckA w0).bind fun v=>(ptrAdd 0 v).bind fun v=>(strA BinOp.add [UInt8.ofNat 32] op7).bind fun v_1=>(strV v_1).bind fun s=>(strA BinOp.add s [UInt8.ofNat 32]).bind fun v_2=>(strV v_2).bind fun s=>callB (cw 32 [v,AV.str s] st) (fun v st=>(nilCheckA e1).bind fun v=>(ptrAdd 3 v).bind fun v=>(readA st v 1 false).bind fun v=>(idxSl st 4 v 1).bind fun v=>callB (cw 16 [w0,v,AV.int .i64 (IntKind.i64.wrap (level6+1))] st) (fun v st=>outL false base (AOut.ret (AV.tup [])) st) fun v st=>outL false base (AOut.pan v) st) fun v st=>outL false base (AOut.pan v) st) fun v st=>outL false base (AOut.pan v) st else (nilCheckA e1).bind fun v=>(ptrAdd 0 v).bind fun v=>(readA st v 1 false).bind fun v=>(intV IntKind.i64 v).bind fun n=>bif n==31 then (nilCheckA e1).bind fun v=>(ptrAdd 3 v).bind fun v=>(readA st v 1 false).bind fun v=>(idxSl st 4 v 0).bind fun v=>callB (cw 16 [w0,v,AV.int .i64 1] st) (fun v st=>(nilCheckA w0).bind fun v=>(ptrAdd 0 v).bind fun v=>callB (cw 32 [v,AV.str [UInt8.ofNat 32,UInt8.ofNat 63,UInt8.ofNat 32]] st) (fun v st=>(nilCheckA e1).bind fun v=>(ptrAdd 3 v).bind fun v=>(readA st v 1 false).bind fun v=>(idxSl st 4 v 1).bind fun v=>callB (cw 16 [w0,v,AV.int .i64 0] st) (fun v st=>(nilCheckA w0).bind fun v=>(ptrAdd 0 v).bind fun v=>callB (cw 32 [v,AV.str [UInt8.ofNat 32,UInt8.ofNat 58,UInt8.ofNat 32]] st) (fun v st=>(nilCheckA e1).bind fun v=>(ptrAdd 3 v).bind fun v=>(readA st v 1 false).bind fun v=>(idxSl st 4 v 2).bind fun v=>callB (cw 16 [w0,v,AV.int .i64 0] st) (fun v st=>outL false base (AOut.ret (AV.tup [])) st) fun v st=>outL false base (AOut.pan v) st) fun v st=>outL false base (AOut.pan v) st) fun v st=>outL false base (AOut.pan v) st) fun v st=>outL false base (AOut.pan v) st) fun v st=>outL false base (AOut.pan v) st else bif n==10 then (nilCheckA w0).bind fun v=>(ptrAdd 0 v).bind fun v=>callB (cw 31 [v,AV.int .u8 45] st) (fun v st=>(nilCheckA e1).bind fun v=>(ptrAdd 3 v).bind fun v=>(readA st v 1 false).bind fun v=>(idxSl st 4 v 0).bind fun v=>callB (cw 16 [w0,v,AV.int .i64 12] st) (fun v st=>outL false base (AOut.ret (AV.tup [])) st) fun v st=>outL false base (AOut.pan v) st) fun v st=>outL false base (AOut.pan v) st else bif n==11 then (nilCheckA w0).bind fun v=>(ptrAdd 0 v).bind fun v=>callB (cw 31 [v,AV.int .u8 33] st) (fun v st=>(nilCheckA e1).bind fun v=>(ptrAdd 3 v).bind fun v=>(readA st v 1 false).bind fun v=>(idxSl st 4 v 0).bind fun v=>callB (cw 16 [w0,v,AV.int .i64 12] st) (fun v st=>outL false base (AOut.ret (AV.tup [])) st) fun v st=>outL false base (AOut.pan v) st) fun v st=>outL false base (AOut.pan v) st else bif n==7 then (nilCheckA e1).bind fun v=>(ptrAdd 3 v).bind fun v=>(readA st v 1 false).bind fun v=>(idxSl st 4 v 0).bind fun v=>callB (cw 16 [w0,v,AV.int .i64 13] st) (fun v st=>(nilCheckA w0).bind fun v=>(ptrAdd 0 v).bind fun v=>(nilCheckA e1).bind fun v_1=>(ptrAdd 2 v_1).bind fun v_2=>(readA st v_2 1 false).bind fun v_3=>(strV v_3).bind fun s=>(strA BinOp.add [UInt8.ofNat 46] s).bind fun v_4=>(strV v_4).bind fun s=>callB (cw 32 [v,AV.str s] st) (fun v st=>outL false base (AOut.ret (AV.tup [])) st) fun v st=>outL false base (AOut.pan v) st) fun v st=>outL false base (AOut.pan v) st else bif n==8 then (nilCheckA e1).bind fun v=>(ptrAdd 3 v).bind fun v=>(readA st v 1 false).bind fun v=>(idxSl st 4 v 0).bind fun v=>callB (cw 16 [w0,v,AV.int .i64 13] st) (fun v st=>(nilCheckA w0).bind fun v=>(ptrAdd 0 v).bind fun v=>callB (cw 31 [v,AV.int .u8 91] st) (fun v st=>(nilCheckA e1).bind fun v=>(ptrAdd 3 v).bind fun v=>(readA st v 1 false).bind fun v=>(idxSl st 4 v 1).bind fun v=>callB (cw 16 [w0,v,AV.int .i64 0] st) (fun v st=>(nilCheckA w0).bind fun v=>(ptrAdd 0 v).bind fun v=>callB (cw 31 [v,AV.int .u8 93] st) (fun v st=>outL false base (AOut.ret (AV.tup [])) st) fun v st=>outL false base (AOut.pan v) st) fun v st=>outL false base (AOut.pan v) st) fun v st=>outL false base (AOut.pan v) st) fun v st=>outL false base (AOut.pan v) st else bif n==9 then (nilCheckA w0).bind fun v=>(ptrAdd 0 v).bind fun v_1=>callB (cw 25 [] st) (fun v_2 st_1=>(nilCheckA e1).bind fun v_3=>(ptrAdd 1 v_3).bind fun v_4=>(readA st_1 v_4 1 false).bind fun v_5=>(intV IntKind.i64 v_5).bind fun n_1=>(natA (AV.int .i64 (IntKind.i64.wrap (n_1 - 1)))).bind fun j=>(idxSl st_1 1 v_2 j).bind fun v_6=>(readA st_1 v_6 1 false).bind fun v_7=>(strV v_7).bind fun s=>(strA BinOp.add s [UInt8.ofNat 40]).bind fun v_8=>(strV v_8).bind fun s_1=>callB (cw 32 [v_1,AV.str s_1] st_1) (fun v_9 st_2=>if ((if isIp v_4=true then true else (List.range.loop [st_2,st_1,st].length []).all fun s=>if 0≤s∧s≤1 then
 match [st_2,st_1,st][[st_2,st_1,st].length - 1 - s]? with
 | some st =>
  match Option.map (fun v=>(Res.val v,st)) (ldA Tryd.prog st 3 v_4) with
  | some (Res.val v',snd)=>(AV.int .i64 n_1).beq v'
  | x=>false
 | none=>false else true)&&true)=true then (nilCheckA e1).bind fun v=>(ptrAdd 3 v).bind fun v=>(readA st_2 v 1 false).bind fun v=>(idxSl st_2 4 v 0).bind fun v=>callB (cw 16 [w0,v,AV.int .i64 0] st_2) (fun v st=>(nilCheckA w0).bind fun v=>(ptrAdd 0 v).bind fun v=>callB (cw 31 [v,AV.int .u8 41] st) (fun v st=>outL false base (AOut.ret (AV.tup [])) st) fun v st=>outL false base (AOut.pan v) st) fun v st=>outL false base (AOut.pan v) st else none) fun v_9 st_2=>if ((if isIp v_4=true then true else (List.range.loop [st_1,st].length []).all fun s=>if 0≤s∧s≤1 then
 match [st_1,st][[st_1,st].length - 1 - s]? with
 | some st =>
  match Option.map (fun v=>(Res.val v,st)) (ldA Tryd.prog st 3 v_4) with
  | some (Res.val v',snd)=>(AV.int .i64 n_1).beq v'
  | x=>false
 | none=>false else true)&&true)=true then none else none) fun v st=>none else bif n==4 then (nilCheckA w0).bind fun v=>(ptrAdd 0 v).bind fun v=>(nilCheckA e1).bind fun v_1=>(ptrAdd 1 v_1).bind fun v_2=>(readA st v_2 1 false).bind fun v_3=>(intV IntKind.i64 v_3).bind fun n=>callB (cw 33 [AV.int .i64 n] st) (fun v_4 st=>(strV v_4).bind fun s=>callB (cw 32 [v,AV.str s] st) (fun v st=>outL false base (AOut.ret (AV.tup [])) st) fun v st=>outL false base (AOut.pan v) st) fun v st=>outL false base (AOut.pan v) st else bif n==5 then (nilCheckA e1).bind fun v=>(ptrAdd 2 v).bind fun v=>(readA st v 1 false).bind fun v=>(strV v).bind fun s=>callB (cw 34 [w0,AV.str s] st) (fun v st=>outL false base (AOut.ret (AV.tup [])) st) fun v st=>outL false base (AOut.pan v) st else bif n==6 then (nilCheckA w0).bind fun v=>(ptrAdd 0 v).bind fun v=>(nilCheckA e1).bind fun v_1=>(ptrAdd 2 v_1).bind fun v_2=>(readA st v_2 1 false).bind fun v_3=>(strV v_3).bind fun s=>callB (cw 32 [v,AV.str s] st) (fun v st=>outL false base (AOut.ret (AV.tup [])) st) fun v st=>outL false base (AOut.pan v) st else bif n==1 then (nilCheckA w0).bind fun v=>(ptrAdd 0 v).bind fun v=>callB (cw 32 [v,AV.str [UInt8.ofNat 110,UInt8.ofNat 117,UInt8.ofNat 108,UInt8.ofNat 108]] st) (fun v st=>outL false base (AOut.ret (AV.tup [])) st) fun v st=>outL false base (AOut.pan v) st else bif n==2 then (nilCheckA w0).bind fun v=>(ptrAdd 0 v).bind fun v=>callB (cw 32 [v,AV.str [UInt8.ofNat 102,UInt8.ofNat 97,UInt8.ofNat 108,UInt8.ofNat 115,UInt8.ofNat 101]] st) (fun v st=>outL false base (AOut.ret (AV.tup [])) st) fun v st=>outL false base (AOut.pan v) st else bif n==3 then (nilCheckA w0).bind fun v=>(ptrAdd 0 v).bind fun v=>callB (cw 32 [v,AV.str [UInt8.ofNat 116,UInt8.ofNat 114,UInt8.ofNat 117,UInt8.ofNat 101]] st) (fun v st=>outL false base (AOut.ret (AV.tup [])) st) fun v st=>outL false base (AOut.pan v) st else outL false base (AOut.ret (AV.tup [])) st)=some r):aw 16 base (p16_0) {env:=[(0,w0),(1,e1),(2,AV.int .i64 least2),(6,AV.int .i64 level6),(7,AV.str op7),(12,v12),(13,AV.int .i64 v13),(14,AV.int .i64 v14)],defers:=[]} st=some r:=atW_of (Eq.trans (by kernel_rfl) h)
theorem F16_1 (w0:AV) (e1:AV) (least2:Int) (level6:Int) (op7:List UInt8) (i8:Int) (v12:AV) (v13:Int) (v14:Int) (v19:AV) (v20:Int) (v21:Int) (base:Nat) (n3:Nat) (st:St) {r:AOut×St} (h:(bif decide (v21<v20) then (natA (AV.int .i64 v21)).bind fun j=>(idxSl st 2 v19 j).bind fun v=>(readA st v 2 true).bind fun v=>(cellsV 2 v).bind fun cs=>(writeA (AObj.box 70 [AV.str [],AV.int .i64 0]::st) (AV.bp (st.length) 0) cs).bind fun st_1=>(readA st_1 (AV.bp (st.length) 1) 1 false).bind fun v=>(intV IntKind.i64 v).bind fun n=>(nilCheckA e1).bind fun v=>(ptrAdd 0 v).bind fun v=>(readA st_1 v 1 false).bind fun v=>(intV IntKind.i64 v).bind fun n_1=>bif n==n_1 then (readA st_1 (AV.bp (st.length) 0) 1 false).bind fun v=>(strV v).bind fun s=>(roundV (st.length) {env:=[(0,w0),(1,e1),(2,AV.int .i64 least2),(6,AV.int .i64 (IntKind.i64.wrap (i8+1))),(7,AV.str s),(8,AV.int .i64 i8),(12,v12),(13,AV.int .i64 v13),(14,AV.int .i64 v14),(19,v19),(20,AV.int .i64 v20),(21,AV.int .i64 (IntKind.i64.wrap (v21+1)))],defers:=[]} st_1).bind fun e=>aw 16 base (p16_1 n3) e.fst e.snd else (roundV (st.length) {env:=[(0,w0),(1,e1),(2,AV.int .i64 least2),(6,AV.int .i64 level6),(7,AV.str op7),(8,AV.int .i64 i8),(12,v12),(13,AV.int .i64 v13),(14,AV.int .i64 v14),(19,v19),(20,AV.int .i64 v20),(21,AV.int .i64 (IntKind.i64.wrap (v21+1)))],defers:=[]} st_1).bind fun e=>aw 16 base (p16_1 n3) e.fst e.snd
else (roundV n3 {env:=[(0,w0),(1,e1),(2,AV.int .i64 least2),(6,AV.int .i64 level6),(7,AV.str op7),(12,v12),(13,AV.int .i64 v13),(14,AV.int .i64 (IntKind.i64.wrap (v14+1)))],defers:=[]} st).bind fun e=>aw 16 base p16_0 e.fst e.snd)=some r):aw 16 base (p16_1 n3) {env:=[(0,w0),(1,e1),(2,AV.int .i64 least2),(6,AV.int .i64 level6),(7,AV.str op7),(8,AV.int .i64 i8),(12,v12),(13,AV.int .i64 v13),(14,AV.int .i64 v14),(19,v19),(20,AV.int .i64 v20),(21,AV.int .i64 v21)],defers:=[]} st=some r:=atW_of (Eq.trans (by kernel_rfl) h)
abbrev p23_0:List Dir:=[.sr,.sr,.sr,.sr,.sr,.sl,.sr,.bk]
theorem F23 (e0:AV) (c0:AV) (c1:AV) (c2:AV) (c3:AV) (st:St) {r:AOut×St} (h:((readA st c0 1 false).bind fun v=>(intV IntKind.i64 v).bind fun n=>(writeA st c0 [AV.int .i64 (IntKind.i64.wrap (n+1))]).bind fun st_1=>(readA st_1 c0 1 false).bind fun v=>(intV IntKind.i64 v).bind fun n=>(readA st_1 c1 1 false).bind fun v=>(intV IntKind.i64 v).bind fun n_1=>bif decide (n>n_1) then outL false (st.length) (AOut.ret (AV.bool false)) st_1 else (nilCheckA e0).bind fun v=>(ptrAdd 0 v).bind fun v_1=>(readA st_1 v_1 1 false).bind fun v_2=>(intV IntKind.i64 v_2).bind fun n_2=>callB (cw 24 [AV.int .i64 n_2] st_1) (fun v_3 st_2=>(intV IntKind.i64 v_3).bind fun n_3=>(nilCheckA e0).bind fun v_4=>(ptrAdd 3 v_4).bind fun v_5=>(readA st_2 v_5 1 false).bind fun v_6=>(lenSl v_6).bind fun v_7=>(intV IntKind.i64 v_7).bind fun n_4=>if ((if isIp v_5=true then true else (List.range.loop [st_2,st_1].length []).all fun s=>if 0≤s∧s≤1 then
 match [st_2,st_1][[st_2,st_1].length - 1 - s]? with
 | some st =>
  match Option.map (fun v=>(Res.val v,st)) (ldA Tryd.prog st 22 v_5) with
  | some (Res.val v',snd)=>v_6.beq v'
  | x=>false
 | none=>false else true)&&(notMp v_6&&true&&true))=true then bif n_3 != n_4 then outL false (st.length) (AOut.ret (AV.bool false)) st_2 else (nilCheckA e0).bind fun v=>(ptrAdd 1 v).bind fun v=>(readA st_2 v 1 false).bind fun v=>(intV IntKind.i64 v).bind fun n=>bif n==0 then (nilCheckA e0).bind fun v=>(ptrAdd 2 v).bind fun v=>(readA st_2 v 1 false).bind fun v=>(strV v).bind fun s=>(strA BinOp.eql s []).bind fun v=>(boolV v).bind fun b=>(nilCheckA e0).bind fun v=>(ptrAdd 0 v).bind fun v=>(readA st_2 v 1 false).bind fun v=>(intV IntKind.i64 v).bind fun n=>bif n==4 then (nilCheckA e0).bind fun v=>(ptrAdd 1 v).bind fun v=>(readA st_2 v 1 false).bind fun v=>(intV IntKind.i64 v).bind fun n=>bif decide (n≥0) then (nilCheckA e0).bind fun v=>(ptrAdd 2 v).bind fun v=>(readA st_2 v 1 false).bind fun v=>(strV v).bind fun s=>(strA BinOp.eql s []).bind fun v=>(boolV v).bind fun b=>(nilCheckA e0).bind fun v=>(ptrAdd 3 v).bind fun v=>(readA st_2 v 1 false).bind fun v=>(lenSl v).bind fun v=>(intV IntKind.i64 v).bind fun n=>aw 23 (st.length) p23_0 {env:=[(0,e0),(4,c3),(7,AV.bool b),(150,AV.int .i64 n),(151,AV.int .i64 0)],defers:=[]} st_2 else (nilCheckA e0).bind fun v=>(ptrAdd 3 v).bind fun v=>(readA st_2 v 1 false).bind fun v=>(lenSl v).bind fun v=>(intV IntKind.i64 v).bind fun n=>aw 23 (st.length) p23_0 {env:=[(0,e0),(4,c3),(7,AV.bool false),(150,AV.int .i64 n),(151,AV.int .i64 0)],defers:=[]} st_2 else bif n==9 then (nilCheckA e0).bind fun v=>(ptrAdd 1 v).bind fun v_8=>(readA st_2 v_8 1 false).bind fun v_9=>(intV IntKind.i64 v_9).bind fun n_5=>bif decide (n_5≥1) then (nilCheckA e0).bind fun v_10=>(ptrAdd 1 v_10).bind fun v_11=>(readA st_2 v_11 1 false).bind fun v_12=>(intV IntKind.i64 v_12).bind fun n_6=>callB (cw 25 [] st_2) (fun v_13 st_3=>(lenSl v_13).bind fun v_14=>(intV IntKind.i64 v_14).bind fun n_7=>bif decide (n_6≤n_7) then (nilCheckA e0).bind fun v_15=>(ptrAdd 2 v_15).bind fun v_16=>(readA st_3 v_16 1 false).bind fun v_17=>(strV v_17).bind fun s=>(strA BinOp.eql s []).bind fun v_18=>(boolV v_18).bind fun b_1=>if ((if isIp v_11=true then true else (List.range.loop [st_3,st_2].length []).all fun s=>if 0≤s∧s≤1 then
 match [st_3,st_2][[st_3,st_2].length - 1 - s]? with
 | some st =>
  match Option.map (fun v=>(Res.val v,st)) (ldA Tryd.prog st 3 v_11) with
  | some (Res.val v',snd)=>(AV.int .i64 n_6).beq v'
  | x=>false
 | none=>false else true)&&true)=true then (nilCheckA e0).bind fun v=>(ptrAdd 3 v).bind fun v=>(readA st_3 v 1 false).bind fun v=>(lenSl v).bind fun v=>(intV IntKind.i64 v).bind fun n=>aw 23 (st.length) p23_0 {env:=[(0,e0),(4,c3),(7,AV.bool b_1),(150,AV.int .i64 n),(151,AV.int .i64 0)],defers:=[]} st_3 else none else if ((if isIp v_11=true then true else (List.range.loop [st_3,st_2].length []).all fun s=>if 0≤s∧s≤1 then
 match [st_3,st_2][[st_3,st_2].length - 1 - s]? with
 | some st =>
  match Option.map (fun v=>(Res.val v,st)) (ldA Tryd.prog st 3 v_11) with
  | some (Res.val v',snd)=>(AV.int .i64 n_6).beq v'
  | x=>false
 | none=>false else true)&&true)=true then (nilCheckA e0).bind fun v=>(ptrAdd 3 v).bind fun v=>(readA st_3 v 1 false).bind fun v=>(lenSl v).bind fun v=>(intV IntKind.i64 v).bind fun n=>aw 23 (st.length) p23_0 {env:=[(0,e0),(4,c3),(7,AV.bool false),(150,AV.int .i64 n),(151,AV.int .i64 0)],defers:=[]} st_3 else none) fun v_13 st_3=>if ((if isIp v_11=true then true else (List.range.loop [st_2].length []).all fun s=>if 0≤s∧s≤1 then
 match [st_2][[st_2].length - 1 - s]? with
 | some st =>
  match Option.map (fun v=>(Res.val v,st)) (ldA Tryd.prog st 3 v_11) with
  | some (Res.val v',snd)=>(AV.int .i64 n_6).beq v'
  | x=>false
 | none=>false else true)&&true)=true then outL false (st.length) (AOut.pan v_13) st_3 else none else (nilCheckA e0).bind fun v=>(ptrAdd 3 v).bind fun v=>(readA st_2 v 1 false).bind fun v=>(lenSl v).bind fun v=>(intV IntKind.i64 v).bind fun n=>aw 23 (st.length) p23_0 {env:=[(0,e0),(4,c3),(7,AV.bool false),(150,AV.int .i64 n),(151,AV.int .i64 0)],defers:=[]} st_2 else bif n==5 then (nilCheckA e0).bind fun v=>(ptrAdd 1 v).bind fun v=>(readA st_2 v 1 false).bind fun v=>(intV IntKind.i64 v).bind fun n=>bif n==0 then (readA st_2 c2 1 false).bind fun v=>(boolV v).bind fun b=>bif b then (nilCheckA e0).bind fun v=>(ptrAdd 2 v).bind fun v=>(readA st_2 v 1 false).bind fun v=>(strV v).bind fun s=>callB (cw 26 [AV.str s] st_2) (fun v st_3=>(boolV v).bind fun b=>bif b then (nilCheckA e0).bind fun v=>(ptrAdd 3 v).bind fun v=>(readA st_3 v 1 false).bind fun v=>(lenSl v).bind fun v=>(intV IntKind.i64 v).bind fun n=>aw 23 (st.length) p23_0 {env:=[(0,e0),(4,c3),(7,AV.bool true),(150,AV.int .i64 n),(151,AV.int .i64 0)],defers:=[]} st_3 else (nilCheckA e0).bind fun v=>(ptrAdd 2 v).bind fun v=>(readA st_3 v 1 false).bind fun v=>(strV v).bind fun s=>callB (cw 27 [AV.str s] st_3) (fun v st_4=>(boolV v).bind fun b=>(nilCheckA e0).bind fun v=>(ptrAdd 3 v).bind fun v=>(readA st_4 v 1 false).bind fun v=>(lenSl v).bind fun v=>(intV IntKind.i64 v).bind fun n=>aw 23 (st.length) p23_0 {env:=[(0,e0),(4,c3),(7,AV.bool b),(150,AV.int .i64 n),(151,AV.int .i64 0)],defers:=[]} st_4) fun v st_4=>outL false (st.length) (AOut.pan v) st_4) fun v st_3=>outL false (st.length) (AOut.pan v) st_3 else (nilCheckA e0).bind fun v=>(ptrAdd 2 v).bind fun v=>(readA st_2 v 1 false).bind fun v=>(strV v).bind fun s=>callB (cw 27 [AV.str s] st_2) (fun v st_3=>(boolV v).bind fun b=>(nilCheckA e0).bind fun v=>(ptrAdd 3 v).bind fun v=>(readA st_3 v 1 false).bind fun v=>(lenSl v).bind fun v=>(intV IntKind.i64 v).bind fun n=>aw 23 (st.length) p23_0 {env:=[(0,e0),(4,c3),(7,AV.bool b),(150,AV.int .i64 n),(151,AV.int .i64 0)],defers:=[]} st_3) fun v st_3=>outL false (st.length) (AOut.pan v) st_3 else (nilCheckA e0).bind fun v=>(ptrAdd 3 v).bind fun v=>(readA st_2 v 1 false).bind fun v=>(lenSl v).bind fun v=>(intV IntKind.i64 v).bind fun n=>aw 23 (st.length) p23_0 {env:=[(0,e0),(4,c3),(7,AV.bool false),(150,AV.int .i64 n),(151,AV.int .i64 0)],defers:=[]} st_2 else bif n==6 then (readA st_2 c2 1 false).bind fun v=>(boolV v).bind fun b=>bif b then (nilCheckA e0).bind fun v=>(ptrAdd 2 v).bind fun v=>(readA st_2 v 1 false).bind fun v=>(strV v).bind fun s=>(strA BinOp.eql s []).bind fun v=>(boolV v).bind fun b=>(nilCheckA e0).bind fun v=>(ptrAdd 3 v).bind fun v=>(readA st_2 v 1 false).bind fun v=>(lenSl v).bind fun v=>(intV IntKind.i64 v).bind fun n=>aw 23 (st.length) p23_0 {env:=[(0,e0),(4,c3),(7,AV.bool b),(150,AV.int .i64 n),(151,AV.int .i64 0)],defers:=[]} st_2 else (nilCheckA e0).bind fun v=>(ptrAdd 1 v).bind fun v=>(readA st_2 v 1 false).bind fun v=>(intV IntKind.i64 v).bind fun n=>bif n==0 then (nilCheckA e0).bind fun v=>(ptrAdd 2 v).bind fun v=>(readA st_2 v 1 false).bind fun v=>(strV v).bind fun s=>callB (cw 28 [AV.str s] st_2) (fun v st_3=>(boolV v).bind fun b=>bif b then (nilCheckA e0).bind fun v=>(ptrAdd 2 v).bind fun v=>(readA st_3 v 1 false).bind fun v=>(strV v).bind fun s=>callB (cw 29 [AV.str s] st_3) (fun v st_4=>(intV IntKind.i64 v).bind fun n=>(nilCheckA e0).bind fun v=>(ptrAdd 3 v).bind fun v=>(readA st_4 v 1 false).bind fun v=>(lenSl v).bind fun v=>(intV IntKind.i64 v).bind fun n_5=>aw 23 (st.length) p23_0 {env:=[(0,e0),(4,c3),(7,AV.bool (n==0)),(150,AV.int .i64 n_5),(151,AV.int .i64 0)],defers:=[]} st_4) fun v st_4=>outL false (st.length) (AOut.pan v) st_4 else (nilCheckA e0).bind fun v=>(ptrAdd 3 v).bind fun v=>(readA st_3 v 1 false).bind fun v=>(lenSl v).bind fun v=>(intV IntKind.i64 v).bind fun n=>aw 23 (st.length) p23_0 {env:=[(0,e0),(4,c3),(7,AV.bool false),(150,AV.int .i64 n),(151,AV.int .i64 0)],defers:=[]} st_3) fun v st_3=>outL false (st.length) (AOut.pan v) st_3 else (nilCheckA e0).bind fun v=>(ptrAdd 3 v).bind fun v=>(readA st_2 v 1 false).bind fun v=>(lenSl v).bind fun v=>(intV IntKind.i64 v).bind fun n=>aw 23 (st.length) p23_0 {env:=[(0,e0),(4,c3),(7,AV.bool false),(150,AV.int .i64 n),(151,AV.int .i64 0)],defers:=[]} st_2 else bif n==7 then (nilCheckA e0).bind fun v=>(ptrAdd 1 v).bind fun v=>(readA st_2 v 1 false).bind fun v=>(intV IntKind.i64 v).bind fun n=>bif n==0 then (nilCheckA e0).bind fun v=>(ptrAdd 2 v).bind fun v=>(readA st_2 v 1 false).bind fun v=>(strV v).bind fun s=>callB (cw 28 [AV.str s] st_2) (fun v st_3=>(boolV v).bind fun b=>(nilCheckA e0).bind fun v=>(ptrAdd 3 v).bind fun v=>(readA st_3 v 1 false).bind fun v=>(lenSl v).bind fun v=>(intV IntKind.i64 v).bind fun n=>aw 23 (st.length) p23_0 {env:=[(0,e0),(4,c3),(7,AV.bool b),(150,AV.int .i64 n),(151,AV.int .i64 0)],defers:=[]} st_3) fun v st_3=>outL false (st.length) (AOut.pan v) st_3 else (nilCheckA e0).bind fun v=>(ptrAdd 3 v).bind fun v=>(readA st_2 v 1 false).bind fun v=>(lenSl v).bind fun v=>(intV IntKind.i64 v).bind fun n=>aw 23 (st.length) p23_0 {env:=[(0,e0),(4,c3),(7,AV.bool false),(150,AV.int .i64 n),(151,AV.int .i64 0)],defers:=[]} st_2 else (nilCheckA e0).bind fun v=>(ptrAdd 3 v).bind fun v=>(readA st_2 v 1 false).bind fun v=>(lenSl v).bind fun v=>(intV IntKind.i64 v).bind fun n=>aw 23 (st.length) p23_0 {env:=[(0,e0),(4,c3),(7,AV.bool b),(150,AV.int .i64 n),(151,AV.int .i64 0)],defers:=[]} st_2 else (nilCheckA e0).bind fun v=>(ptrAdd 0 v).bind fun v=>(readA st_2 v 1 false).bind fun v=>(intV IntKind.i64 v).bind fun n=>bif n==4 then (nilCheckA e0).bind fun v=>(ptrAdd 1 v).bind fun v=>(readA st_2 v 1 false).bind fun v=>(intV IntKind.i64 v).bind fun n=>bif decide (n≥0) then (nilCheckA e0).bind fun v=>(ptrAdd 2 v).bind fun v=>(readA st_2 v 1 false).bind fun v=>(strV v).bind fun s=>(strA BinOp.eql s []).bind fun v=>(boolV v).bind fun b=>(nilCheckA e0).bind fun v=>(ptrAdd 3 v).bind fun v=>(readA st_2 v 1 false).bind fun v=>(lenSl v).bind fun v=>(intV IntKind.i64 v).bind fun n=>aw 23 (st.length) p23_0 {env:=[(0,e0),(4,c3),(7,AV.bool b),(150,AV.int .i64 n),(151,AV.int .i64 0)],defers:=[]} st_2 else (nilCheckA e0).bind fun v=>(ptrAdd 3 v).bind fun v=>(readA st_2 v 1 false).bind fun v=>(lenSl v).bind fun v=>(intV IntKind.i64 v).bind fun n=>aw 23 (st.length) p23_0 {env:=[(0,e0),(4,c3),(7,AV.bool false),(150,AV.int .i64 n),(151,AV.int .i64 0)],defers:=[]} st_2 else bif n==9 then (nilCheckA e0).bind fun v=>(ptrAdd 1 v).bind fun v_8=>(readA st_2 v_8 1 false).bind fun v_9=>(intV IntKind.i64 v_9).bind fun n_5=>bif decide (n_5≥1) then (nilCheckA e0).bind fun v_10=>(ptrAdd 1 v_10).bind fun v_11=>(readA st_2 v_11 1 false).bind fun v_12=>(intV IntKind.i64 v_12).bind fun n_6=>callB (cw 25 [] st_2) (fun v_13 st_3=>(lenSl v_13).bind fun v_14=>(intV IntKind.i64 v_14).bind fun n_7=>bif decide (n_6≤n_7) then (nilCheckA e0).bind fun v_15=>(ptrAdd 2 v_15).bind fun v_16=>(readA st_3 v_16 1 false).bind fun v_17=>(strV v_17).bind fun s=>(strA BinOp.eql s []).bind fun v_18=>(boolV v_18).bind fun b=>if ((if isIp v_11=true then true else (List.range.loop [st_3,st_2].length []).all fun s=>if 0≤s∧s≤1 then
 match [st_3,st_2][[st_3,st_2].length - 1 - s]? with
 | some st =>
  match Option.map (fun v=>(Res.val v,st)) (ldA Tryd.prog st 3 v_11) with
  | some (Res.val v',snd)=>(AV.int .i64 n_6).beq v'
  | x=>false
 | none=>false else true)&&true)=true then (nilCheckA e0).bind fun v=>(ptrAdd 3 v).bind fun v=>(readA st_3 v 1 false).bind fun v=>(lenSl v).bind fun v=>(intV IntKind.i64 v).bind fun n=>aw 23 (st.length) p23_0 {env:=[(0,e0),(4,c3),(7,AV.bool b),(150,AV.int .i64 n),(151,AV.int .i64 0)],defers:=[]} st_3 else none else if ((if isIp v_11=true then true else (List.range.loop [st_3,st_2].length []).all fun s=>if 0≤s∧s≤1 then
 match [st_3,st_2][[st_3,st_2].length - 1 - s]? with
 | some st =>
  match Option.map (fun v=>(Res.val v,st)) (ldA Tryd.prog st 3 v_11) with
  | some (Res.val v',snd)=>(AV.int .i64 n_6).beq v'
  | x=>false
 | none=>false else true)&&true)=true then (nilCheckA e0).bind fun v=>(ptrAdd 3 v).bind fun v=>(readA st_3 v 1 false).bind fun v=>(lenSl v).bind fun v=>(intV IntKind.i64 v).bind fun n=>aw 23 (st.length) p23_0 {env:=[(0,e0),(4,c3),(7,AV.bool false),(150,AV.int .i64 n),(151,AV.int .i64 0)],defers:=[]} st_3 else none) fun v_13 st_3=>if ((if isIp v_11=true then true else (List.range.loop [st_2].length []).all fun s=>if 0≤s∧s≤1 then
 match [st_2][[st_2].length - 1 - s]? with
 | some st =>
  match Option.map (fun v=>(Res.val v,st)) (ldA Tryd.prog st 3 v_11) with
  | some (Res.val v',snd)=>(AV.int .i64 n_6).beq v'
  | x=>false
 | none=>false else true)&&true)=true then outL false (st.length) (AOut.pan v_13) st_3 else none else (nilCheckA e0).bind fun v=>(ptrAdd 3 v).bind fun v=>(readA st_2 v 1 false).bind fun v=>(lenSl v).bind fun v=>(intV IntKind.i64 v).bind fun n=>aw 23 (st.length) p23_0 {env:=[(0,e0),(4,c3),(7,AV.bool false),(150,AV.int .i64 n),(151,AV.int .i64 0)],defers:=[]} st_2 else bif n==5 then (nilCheckA e0).bind fun v=>(ptrAdd 1 v).bind fun v=>(readA st_2 v 1 false).bind fun v=>(intV IntKind.i64 v).bind fun n=>bif n==0 then (readA st_2 c2 1 false).bind fun v=>(boolV v).bind fun b=>bif b then (nilCheckA e0).bind fun v=>(ptrAdd 2 v).bind fun v=>(readA st_2 v 1 false).bind fun v=>(strV v).bind fun s=>callB (cw 26 [AV.str s] st_2) (fun v st_3=>(boolV v).bind fun b=>bif b then (nilCheckA e0).bind fun v=>(ptrAdd 3 v).bind fun v=>(readA st_3 v 1 false).bind fun v=>(lenSl v).bind fun v=>(intV IntKind.i64 v).bind fun n=>aw 23 (st.length) p23_0 {env:=[(0,e0),(4,c3),(7,AV.bool true),(150,AV.int .i64 n),(151,AV.int .i64 0)],defers:=[]} st_3 else (nilCheckA e0).bind fun v=>(ptrAdd 2 v).bind fun v=>(readA st_3 v 1 false).bind fun v=>(strV v).bind fun s=>callB (cw 27 [AV.str s] st_3) (fun v st_4=>(boolV v).bind fun b=>(nilCheckA e0).bind fun v=>(ptrAdd 3 v).bind fun v=>(readA st_4 v 1 false).bind fun v=>(lenSl v).bind fun v=>(intV IntKind.i64 v).bind fun n=>aw 23 (st.length) p23_0 {env:=[(0,e0),(4,c3),(7,AV.bool b),(150,AV.int .i64 n),(151,AV.int .i64 0)],defers:=[]} st_4) fun v st_4=>outL false (st.length) (AOut.pan v) st_4) fun v st_3=>outL false (st.length) (AOut.pan v) st_3 else (nilCheckA e0).bind fun v=>(ptrAdd 2 v).bind fun v=>(readA st_2 v 1 false).bind fun v=>(strV v).bind fun s=>callB (cw 27 [AV.str s] st_2) (fun v st_3=>(boolV v).bind fun b=>(nilCheckA e0).bind fun v=>(ptrAdd 3 v).bind fun v=>(readA st_3 v 1 false).bind fun v=>(lenSl v).bind fun v=>(intV IntKind.i64 v).bind fun n=>aw 23 (st.length) p23_0 {env:=[(0,e0),(4,c3),(7,AV.bool b),(150,AV.int .i64 n),(151,AV.int .i64 0)],defers:=[]} st_3) fun v st_3=>outL false (st.length) (AOut.pan v) st_3 else (nilCheckA e0).bind fun v=>(ptrAdd 3 v).bind fun v=>(readA st_2 v 1 false).bind fun v=>(lenSl v).bind fun v=>(intV IntKind.i64 v).bind fun n=>aw 23 (st.length) p23_0 {env:=[(0,e0),(4,c3),(7,AV.bool false),(150,AV.int .i64 n),(151,AV.int .i64 0)],defers:=[]} st_2 else bif n==6 then (readA st_2 c2 1 false).bind fun v=>(boolV v).bind fun b=>bif b then (nilCheckA e0).bind fun v=>(ptrAdd 2 v).bind fun v=>(readA st_2 v 1 false).bind fun v=>(strV v).bind fun s=>(strA BinOp.eql s []).bind fun v=>(boolV v).bind fun b=>(nilCheckA e0).bind fun v=>(ptrAdd 3 v).bind fun v=>(readA st_2 v 1 false).bind fun v=>(lenSl v).bind fun v=>(intV IntKind.i64 v).bind fun n=>aw 23 (st.length) p23_0 {env:=[(0,e0),(4,c3),(7,AV.bool b),(150,AV.int .i64 n),(151,AV.int .i64 0)],defers:=[]} st_2 else (nilCheckA e0).bind fun v=>(ptrAdd 1 v).bind fun v=>(readA st_2 v 1 false).bind fun v=>(intV IntKind.i64 v).bind fun n=>bif n==0 then (nilCheckA e0).bind fun v=>(ptrAdd 2 v).bind fun v=>(readA st_2 v 1 false).bind fun v=>(strV v).bind fun s=>callB (cw 28 [AV.str s] st_2) (fun v st_3=>(boolV v).bind fun b=>bif b then (nilCheckA e0).bind fun v=>(ptrAdd 2 v).bind fun v=>(readA st_3 v 1 false).bind fun v=>(strV v).bind fun s=>callB (cw 29 [AV.str s] st_3) (fun v st_4=>(intV IntKind.i64 v).bind fun n=>(nilCheckA e0).bind fun v=>(ptrAdd 3 v).bind fun v=>(readA st_4 v 1 false).bind fun v=>(lenSl v).bind fun v=>(intV IntKind.i64 v).bind fun n_5=>aw 23 (st.length) p23_0 {env:=[(0,e0),(4,c3),(7,AV.bool (n==0)),(150,AV.int .i64 n_5),(151,AV.int .i64 0)],defers:=[]} st_4) fun v st_4=>outL false (st.length) (AOut.pan v) st_4 else (nilCheckA e0).bind fun v=>(ptrAdd 3 v).bind fun v=>(readA st_3 v 1 false).bind fun v=>(lenSl v).bind fun v=>(intV IntKind.i64 v).bind fun n=>aw 23 (st.length) p23_0 {env:=[(0,e0),(4,c3),(7,AV.bool false),(150,AV.int .i64 n),(151,AV.int .i64 0)],defers:=[]} st_3) fun v st_3=>outL false (st.length) (AOut.pan v) st_3 else (nilCheckA e0).bind fun v=>(ptrAdd 3 v).bind fun v=>(readA st_2 v 1 false).bind fun v=>(lenSl v).bind fun v=>(intV IntKind.i64 v).bind fun n=>aw 23 (st.length) p23_0 {env:=[(0,e0),(4,c3),(7,AV.bool false),(150,AV.int .i64 n),(151,AV.int .i64 0)],defers:=[]} st_2 else bif n==7 then (nilCheckA e0).bind fun v=>(ptrAdd 1 v).bind fun v=>(readA st_2 v 1 false).bind fun v=>(intV IntKind.i64 v).bind fun n=>bif n==0 then (nilCheckA e0).bind fun v=>(ptrAdd 2 v).bind fun v=>(readA st_2 v 1 false).bind fun v=>(strV v).bind fun s=>callB (cw 28 [AV.str s] st_2) (fun v st_3=>(boolV v).bind fun b=>(nilCheckA e0).bind fun v=>(ptrAdd 3 v).bind fun v=>(readA st_3 v 1 false).bind fun v=>(lenSl v).bind fun v=>(intV IntKind.i64 v).bind fun n=>aw 23 (st.length) p23_0 {env:=[(0,e0),(4,c3),(7,AV.bool b),(150,AV.int .i64 n),(151,AV.int .i64 0)],defers:=[]} st_3) fun v st_3=>outL false (st.length) (AOut.pan v) st_3 else (nilCheckA e0).bind fun v=>(ptrAdd 3 v).bind fun v=>(readA st_2 v 1 false).bind fun v=>(lenSl v).bind fun v=>(intV IntKind.i64 v).bind fun n=>aw 23 (st.length) p23_0 {env:=[(0,e0),(4,c3),(7,AV.bool false),(150,AV.int .i64 n),(151,AV.int .i64 0)],defers:=[]} st_2 else (nilCheckA e0).bind fun v=>(ptrAdd 3 v).bind fun v=>(readA st_2 v 1 false).bind fun v=>(lenSl v).bind fun v=>(intV IntKind.i64 v).bind fun n=>aw 23 (st.length) p23_0 {env:=[(0,e0),(4,c3),(7,AV.bool false),(150,AV.int .i64 n),(151,AV.int .i64 0)],defers:=[]} st_2 else none) fun v st=>none)=some r):cw 23 [e0,c0,c1,c2,c3] st=some r:=callW_of (Eq.trans (by kernel_rfl) h)
theorem F23_0 (e0:AV) (v4:AV) (fine7:Bool) (v150:Int) (v151:Int) (base:Nat) (st:St) {r:AOut×St} (h:(bif decide (v151<v150) then bif fine7 then (readA st v4 1 false).bind fun v=>(nilCheckA e0).bind fun v_1=>(ptrAdd 3 v_1).bind fun v_2=>(readA st v_2 1 false).bind fun v_3=>(natA (AV.int .i64 v151)).bind fun j=>(idxSl st 4 v_3 j).bind fun v_4=>(fnV v).bind fun q=>if (if q.fst=61 then some sameX else if q.fst=63 then some indexX else none).isSome=true then none else callB (cw q.fst ([v_4]++q.snd) st) (fun v st_1=>(boolV v).bind fun b=>(roundV (st.length) {env:=[(0,e0),(4,v4),(7,AV.bool b),(150,AV.int .i64 v150),(151,AV.int .i64 (IntKind.i64.wrap (v151+1)))],defers:=[]} st_1).bind fun e=>aw 23 base p23_0 e.fst e.snd) fun v st=>outL false base (AOut.pan v) st else (roundV (st.length) {env:=[(0,e0),(4,v4),(7,AV.bool false),(150,AV.int .i64 v150),(151,AV.int .i64 (IntKind.i64.wrap (v151+1)))],defers:=[]} st).bind fun e=>aw 23 base p23_0 e.fst e.snd
else outL false base (AOut.ret (AV.bool fine7)) st)=some r):aw 23 base (p23_0) {env:=[(0,e0),(4,v4),(7,AV.bool fine7),(150,AV.int .i64 v150),(151,AV.int .i64 v151)],defers:=[]} st=some r:=atW_of (Eq.trans (by kernel_rfl) h)
theorem F3 (x0_Op:Int) (x0_Int:Int) (x0_Str:List UInt8) (x0_Kids:AV) (st:St) {r:AOut×St} (h:((cellsV 4 (AV.agg [AV.int .i64 x0_Op,AV.int .i64 x0_Int,AV.str x0_Str,x0_Kids])).bind fun cs=>callB (cw 7 [] (AObj.free 0::AObj.box 24 cs::st)) (fun v st_1=>(boolV v).bind fun b=>bif !b then outL false (st.length) (AOut.ret (AV.bool false)) st_1 else (readA st_1 (AV.bp (st.length) 0) 4 true).bind fun v=>callB (cw 8 [v] st_1) (fun v st_2=>(boolV v).bind fun b=>bif !b then outL false (st.length) (AOut.ret (AV.bool true)) st_2 else (readA st_2 (AV.bp (st.length) 0) 4 true).bind fun v=>callB (cw 9 [v] st_2) (fun v st_3=>(extractA 0 v).bind fun v_1=>(strV v_1).bind fun s=>(extractA 1 v).bind fun v=>(intV IntKind.i64 v).bind fun n=>callB (cw 10 [AV.int .i64 n] st_3) (fun v st_4=>(intV IntKind.i64 v).bind fun n_1=>bif n_1 != 0 then (strA BinOp.eql s []).bind fun v=>(boolV v).bind fun b=>bif b then callB (cw 10 [AV.int .i64 n] st_4) (fun v st_5=>(intV IntKind.i64 v).bind fun n=>outL false (st.length) (AOut.ret (AV.bool (n==1003))) st_5) fun v st_5=>outL false (st.length) (AOut.pan v) st_5 else outL false (st.length) (AOut.ret (AV.bool false)) st_4 else callB (cw 11 [AV.str s] st_4) (fun v st_5=>(extractA 0 v).bind fun v_2=>(extractA 1 v).bind fun v_3=>(intV IntKind.i64 v_3).bind fun n=>(extractA 2 v).bind fun v=>(intV IntKind.i64 v).bind fun n=>(cellsV 4 v_2).bind fun cs=>(writeA (AObj.free 0::AObj.box 24 [AV.int .i64 0,AV.int .i64 0,AV.str [],AV.nils]::st_5) (AV.bp (st_5.length) 0) cs).bind fun st_6=>callB (cw 10 [AV.int .i64 n] st_6) (fun v st_7=>(intV IntKind.i64 v).bind fun n_2=>bif n_2==0 then (readA st_7 (AV.bp (st.length) 0) 4 true).bind fun v=>(readA st_7 (AV.bp (st_5.length) 0) 4 true).bind fun v_4=>callB (cw 12 [v,v_4] st_7) (fun v st_8=>(boolV v).bind fun b=>bif b then outL false (st.length) (AOut.ret (AV.bool true)) st_8 else callB (cw 10 [AV.int .i64 n] st_8) (fun v st_9=>(intV IntKind.i64 v).bind fun n_3=>bif n_3==1002 then outL false (st.length) (AOut.ret (AV.bool true)) st_9 else callB (cw 10 [AV.int .i64 n] st_9) (fun v st_10=>(intV IntKind.i64 v).bind fun n=>outL false (st.length) (AOut.ret (AV.bool (n==1001))) st_10) fun v st_10=>outL false (st.length) (AOut.pan v) st_10) fun v st_9=>outL false (st.length) (AOut.pan v) st_9) fun v st_8=>outL false (st.length) (AOut.pan v) st_8 else callB (cw 10 [AV.int .i64 n] st_7) (fun v st_8=>(intV IntKind.i64 v).bind fun n_3=>bif n_3==1002 then outL false (st.length) (AOut.ret (AV.bool true)) st_8 else callB (cw 10 [AV.int .i64 n] st_8) (fun v st_9=>(intV IntKind.i64 v).bind fun n=>outL false (st.length) (AOut.ret (AV.bool (n==1001))) st_9) fun v st_9=>outL false (st.length) (AOut.pan v) st_9) fun v st_8=>outL false (st.length) (AOut.pan v) st_8) fun v st_7=>outL false (st.length) (AOut.pan v) st_7) fun v st_5=>outL false (st.length) (AOut.pan v) st_5) fun v st_4=>outL false (st.length) (AOut.pan v) st_4) fun v st_3=>outL false (st.length) (AOut.pan v) st_3) fun v st_2=>outL false (st.length) (AOut.pan v) st_2) fun v st_1=>outL false (st.length) (AOut.pan v) st_1)=some r):cw 3 [AV.agg [AV.int .i64 x0_Op,AV.int .i64 x0_Int,AV.str x0_Str,x0_Kids]] st=some r:=callW_of (Eq.trans (by kernel_rfl) h)
abbrev p6_0:List Dir:=[.sr,.sr,.sr,.sr,.sl,.sr,.bk]
theorem F6_0 (kind1:Int) (k5:Int) (s6:List UInt8) (i7:Int) (base:Nat) (st:St) {r:AOut×St} (h:(bif decide (i7<k5) then bif bits BinOp.and IntKind.i64 kind1 3==0 then (strA BinOp.add [UInt8.ofNat 40] s6).bind fun v=>(strV v).bind fun s=>(strA BinOp.add s [UInt8.ofNat 41]).bind fun v=>(strV v).bind fun s=>aw 6 base p6_0 {env:=[(1,AV.int .i64 kind1),(5,AV.int .i64 k5),(6,AV.str s),(7,AV.int .i64 (IntKind.i64.wrap (i7+1)))],defers:=[]} st else bif bits BinOp.and IntKind.i64 kind1 3==1 then (strA BinOp.add [UInt8.ofNat 45] s6).bind fun v=>(strV v).bind fun s=>aw 6 base p6_0 {env:=[(1,AV.int .i64 kind1),(5,AV.int .i64 k5),(6,AV.str s),(7,AV.int .i64 (IntKind.i64.wrap (i7+1)))],defers:=[]} st else bif bits BinOp.and IntKind.i64 kind1 3==2 then (strA BinOp.add [UInt8.ofNat 98,UInt8.ofNat 91] s6).bind fun v=>(strV v).bind fun s=>(strA BinOp.add s [UInt8.ofNat 93]).bind fun v=>(strV v).bind fun s=>aw 6 base p6_0 {env:=[(1,AV.int .i64 kind1),(5,AV.int .i64 k5),(6,AV.str s),(7,AV.int .i64 (IntKind.i64.wrap (i7+1)))],defers:=[]} st else (strA BinOp.add [UInt8.ofNat 99,UInt8.ofNat 32,UInt8.ofNat 63,UInt8.ofNat 32,UInt8.ofNat 98,UInt8.ofNat 32,UInt8.ofNat 58,UInt8.ofNat 32] s6).bind fun v=>(strV v).bind fun s=>aw 6 base p6_0 {env:=[(1,AV.int .i64 kind1),(5,AV.int .i64 k5),(6,AV.str s),(7,AV.int .i64 (IntKind.i64.wrap (i7+1)))],defers:=[]} st
else callB (cw 11 [AV.str s6] st) (fun v st=>(extractA 0 v).bind fun v_1=>(extractA 1 v).bind fun v_2=>(intV IntKind.i64 v_2).bind fun n=>(extractA 2 v).bind fun v=>(intV IntKind.i64 v).bind fun n_1=>(cellsV 4 v_1).bind fun cs=>(writeA (AObj.free 0::AObj.box 24 [AV.int .i64 0,AV.int .i64 0,AV.str [],AV.nils]::st) (AV.bp (st.length) 0) cs).bind fun st=>bif decide (k5<32) then callB (cw 10 [AV.int .i64 n_1] st) (fun v st=>(intV IntKind.i64 v).bind fun n=>outL false base (AOut.ret (AV.bool (n==0))) st) fun v st=>outL false base (AOut.pan v) st else callB (cw 10 [AV.int .i64 n_1] st) (fun v st=>(intV IntKind.i64 v).bind fun n_2=>bif n_2==1001 then bif decide (n>0) then outL false base (AOut.ret (AV.bool (decide (n<(s6.length:Int))))) st else outL false base (AOut.ret (AV.bool false)) st else outL false base (AOut.ret (AV.bool false)) st) fun v st=>outL false base (AOut.pan v) st) fun v st=>outL false base (AOut.pan v) st)=some r):aw 6 base p6_0 {env:=[(1,AV.int .i64 kind1),(5,AV.int .i64 k5),(6,AV.str s6),(7,AV.int .i64 i7)],defers:=[]} st=some r:=atW_of (Eq.trans (by kernel_rfl) h)
theorem F7 (st:St) {r:AOut×St} (h:(callB (cw 11 [AV.str [UInt8.ofNat 45,UInt8.ofNat 40,UInt8.ofNat 97,UInt8.ofNat 126,UInt8.ofNat 39,UInt8.ofNat 120,UInt8.ofNat 39,UInt8.ofNat 41,UInt8.ofNat 32,UInt8.ofNat 63,UInt8.ofNat 32,UInt8.ofNat 33,UInt8.ofNat 98,UInt8.ofNat 32,UInt8.ofNat 58,UInt8.ofNat 32,UInt8.ofNat 40,UInt8.ofNat 40,UInt8.ofNat 99,UInt8.ofNat 41,UInt8.ofNat 41]] st) (fun v st_1=>(extractA 0 v).bind fun v_1=>(extractA 1 v).bind fun v_2=>(intV IntKind.i64 v_2).bind fun n=>(extractA 2 v).bind fun v=>(intV IntKind.i64 v).bind fun n=>(cellsV 4 v_1).bind fun cs=>(writeA (AObj.free 0::AObj.box 24 [AV.int .i64 0,AV.int .i64 0,AV.str [],AV.nils]::st_1) (AV.bp (st_1.length) 0) cs).bind fun st_2=>(readA st_2 (AV.bp (st_1.length) 0) 4 true).bind fun v=>callB (cw 9 [v] st_2) (fun v st_3=>(extractA 0 v).bind fun v_3=>(strV v_3).bind fun s=>(extractA 1 v).bind fun v=>(intV IntKind.i64 v).bind fun n_1=>callB (cw 11 [AV.str [UInt8.ofNat 97,UInt8.ofNat 32,UInt8.ofNat 98]] st_3) (fun v st_4=>(extractA 0 v).bind fun v_4=>(extractA 1 v).bind fun v_5=>(intV IntKind.i64 v_5).bind fun n_2=>(extractA 2 v).bind fun v=>(intV IntKind.i64 v).bind fun n_3=>(cellsV 4 v_4).bind fun cs=>(writeA (AObj.free 0::AObj.box 24 [AV.int .i64 0,AV.int .i64 0,AV.str [],AV.nils]::st_4) (AV.bp (st_4.length) 0) cs).bind fun st_5=>callB (cw 10 [AV.int .i64 n] st_5) (fun v st_6=>(intV IntKind.i64 v).bind fun n=>bif n==0 then callB (cw 10 [AV.int .i64 n_1] st_6) (fun v st_7=>(intV IntKind.i64 v).bind fun n=>bif n==0 then (strA BinOp.eql s [UInt8.ofNat 45,UInt8.ofNat 40,UInt8.ofNat 97,UInt8.ofNat 32,UInt8.ofNat 126,UInt8.ofNat 32,UInt8.ofNat 39,UInt8.ofNat 120,UInt8.ofNat 39,UInt8.ofNat 41,UInt8.ofNat 32,UInt8.ofNat 63,UInt8.ofNat 32,UInt8.ofNat 33,UInt8.ofNat 98,UInt8.ofNat 32,UInt8.ofNat 58,UInt8.ofNat 32,UInt8.ofNat 99]).bind fun v=>(boolV v).bind fun b=>bif b then callB (cw 10 [AV.int .i64 n_3] st_7) (fun v st_8=>(intV IntKind.i64 v).bind fun n=>bif n==1000 then outL false (st.length) (AOut.ret (AV.bool (n_2==2))) st_8 else outL false (st.length) (AOut.ret (AV.bool false)) st_8) fun v st_8=>outL false (st.length) (AOut.pan v) st_8 else outL false (st.length) (AOut.ret (AV.bool false)) st_7 else outL false (st.length) (AOut.ret (AV.bool false)) st_7) fun v st_7=>outL false (st.length) (AOut.pan v) st_7 else outL false (st.length) (AOut.ret (AV.bool false)) st_6) fun v st_6=>outL false (st.length) (AOut.pan v) st_6) fun v st_4=>outL false (st.length) (AOut.pan v) st_4) fun v st_3=>outL false (st.length) (AOut.pan v) st_3) fun v st_1=>outL false (st.length) (AOut.pan v) st_1)=some r):cw 7 [] st=some r:=callW_of (Eq.trans (by kernel_rfl) h)
end Go.Abs
