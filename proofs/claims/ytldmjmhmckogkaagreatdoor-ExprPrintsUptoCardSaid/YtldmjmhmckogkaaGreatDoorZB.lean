/- ExprPrints returns true for every expression of bulk at most 1048576 and leaves it as it was: where the package-level variables that the row lists stand as it lists them. -/
import Derived.Test.YtldmjmhmckogkaaGreatDoorZA
import Derived.Calls
import Derived.ScopeJumps
import Derived.Defers
import Derived.IntWalk
set_option linter.unusedVariables false
set_option linter.unusedSimpArgs false
set_option linter.unusedSectionVars false
open Option (bind_some bind_eq_some_iff map_eq_some_iff map_some)
open UInt8 (ofNat)
namespace Go.Abs
open Go Go.RowKit
section
variable {P:Program} {W:World} {bs:Nat} {σ:Gh} {st:St} {w:World}
def Qj (P:Program) (H:zN):Prop :=
 ∀g F,H.ext g=some F→∀(W:World) (bs:Nat) (σ:Gh) (st:St) (w:World) (vs:List Value) (as:List AV) (a:AV),WF P W bs σ st w→qX P σ vs as→F as=some a→∃v,(callFunc g vs.toArray).run P w = .ok (.value v) w∧Rep P σ v a
theorem Ky {s:Sem Value} {v:Value} {w':World} {σ':Gh} {a:AV} {st':St} (hr:s.run P w = .ok v w') (hl:σ.Le σ') (hw:WF P W bs σ' st' w') (hrep:Rep P σ' v a) :
  VP P W bs σ st' ((do pure (Next.value (←s)):Sem Next).run P w) (.val a):=⟨v,w',σ',by simp [hr],hl,hw,hrep⟩
theorem qk {s:Sem Value} {a:AV} (h:WF P W bs σ st w) (hr:∃v,s.run P w = .ok v w∧Rep P σ v a) :
  VP P W bs σ st ((do pure (Next.value (←s)):Sem Next).run P w) (.val a):=by
 obtain ⟨v,h1,h2⟩:=hr
 exact Ky h1 (.refl _) h h2
theorem JN {s:Sem Value} {r:AV×St} (hr:∃v w' σ',s.run P w = .ok v w'∧σ.Le σ'∧WF P W bs σ' r.2 w'∧Rep P σ' v r.1) :
  VP P W bs σ r.2 ((do pure (Next.value (←s)):Sem Next).run P w) (.val r.1):=by
 obtain ⟨v,w',σ',h1,h2,h3,h4⟩:=hr
 exact Ky h1 h2 h3 h4
theorem Uw {s:Sem Value} {r:AV×St} (hr:∃v w',s.run P w = .ok v w'∧WF P W bs σ r.2 w'∧Rep P σ v r.1) :
  VP P W bs σ r.2 ((do pure (Next.value (←s)):Sem Next).run P w) (.val r.1):=by
 obtain ⟨v,w',h1,h3,h4⟩:=hr
 exact Ky h1 (.refl _) h3 h4
theorem DZ {s:Sem Unit} {st':St} (hr:∃w',s.run P w = .ok () w'∧WF P W bs σ st' w'):VP P W bs σ st' ((do s;pure Next.skip:Sem Next).run P w) .skip:=by
 obtain ⟨w',h1,h2⟩:=hr
 exact ⟨w',σ,by simp [h1],.refl _,h2⟩
theorem MV {home:Option (Nat×Bool)} {b:Builtin} {ts:Array TypeId} {ty:TypeId} {cs:Array Bool} {vs:List Value} {as:List AV} {r:Res×St} (h:WF P W bs σ st w) (hv:qX P σ vs as)
  (hb:qK P st home b ts as=some r):VP P W bs σ r.2 ((builtin b ts ty cs vs.toArray).run P w) r.1:=by
 unfold qK at hb
 split at hb
 ·rename_i s x
  obtain ⟨sv,xv,rfl,h1,h2⟩:=hv.two
  obtain ⟨t,ht,h3⟩:=bind_eq_some_iff.1 hb
  split at h3
  ·simp at h3
  ·simp at h3
  ·rename_i d hni hd
   obtain ⟨q,hq,rfl⟩:=map_eq_some_iff.1 h3
   cases hts:ts[1]? with
   |none=>rw [hts] at hd;simp at hd
   |some u =>
    rw [hts] at hd hni
    cases hu:P.underlying u with
    |none=>simp [hu] at hd
    |some d =>
     exact JN (Nv h ht hts hu (fun k e=>hni k (by simp [hu,e])) h1 h2 hq)
 ·rename_i x
  obtain ⟨xv,rfl,h1⟩:=hv.one
  obtain ⟨t,ht,h3⟩:=bind_eq_some_iff.1 hb
  obtain ⟨q,hq,rfl⟩:=map_eq_some_iff.1 h3
  exact qk h (Ia h ht h1 hq)
 ·rename_i d s
  obtain ⟨dv,sv,rfl,h1,h2⟩:=hv.two
  obtain ⟨t,ht,h3⟩:=bind_eq_some_iff.1 hb
  obtain ⟨q,hq,rfl⟩:=map_eq_some_iff.1 h3
  exact Uw (Ho h ht h1 h2 hq)
 ·rename_i x rest
  obtain ⟨xv,us,rfl,h1,h2⟩:=hv.head
  obtain ⟨q,hq,rfl⟩:=map_eq_some_iff.1 hb
  exact qk h (by
   obtain ⟨v,e1,e2⟩:=DR (w:=w) h1 (xs:=us) (as:=rest) h2.2 h2.1 hq
   exact ⟨v,by simpa [Builtin.max_] using e1,e2⟩)
 ·rename_i x rest
  obtain ⟨xv,us,rfl,h1,h2⟩:=hv.head
  obtain ⟨q,hq,rfl⟩:=map_eq_some_iff.1 hb
  exact qk h (by
   obtain ⟨v,e1,e2⟩:=EC (w:=w) h1 (xs:=us) (as:=rest) h2.2 h2.1 hq
   exact ⟨v,by simpa [Builtin.min_] using e1,e2⟩)
 ·rename_i x
  obtain ⟨xv,rfl,h1⟩:=hv.one
  obtain ⟨q,hq,rfl⟩:=map_eq_some_iff.1 hb
  exact qk h (Gl h h1 hq)
 ·rename_i p n
  obtain ⟨pv,nv,rfl,h1,h2⟩:=hv.two
  cases h2
  obtain ⟨q,hq,rfl⟩:=map_eq_some_iff.1 hb
  exact Uw (r:=(q,st)) (WH h h1 hq)
 ·simp at hb
theorem qC {st:St} {x:Option AV} {r:Res×St} (h:vA st x=some r):∃a,x=some a∧r=(.val a,st):=by
 obtain ⟨a,h1,h2⟩:=map_eq_some_iff.1 h
 exact ⟨a,h1,h2.symm⟩
theorem QA {x:Option (AV×St)} {r:Res×St} (h:vsA x=some r):∃q,x=some q∧r=(.val q.1,q.2):=by
 obtain ⟨a,h1,h2⟩:=map_eq_some_iff.1 h
 exact ⟨a,h1,h2.symm⟩
theorem Mi {x:Option St} {r:Res×St} (h:usA x=some r):∃q,x=some q∧r=(.skip,q):=by
 obtain ⟨a,h1,h2⟩:=map_eq_some_iff.1 h
 exact ⟨a,h1,h2.symm⟩
theorem ZZ {α β:Type} (xs:Array α) (g:α→β):(xs.toList.map g).toArray=xs.map g:=by
 apply Array.ext';simp
theorem zaD {ev:Operand→Option AV} {ρ:Operand→Value} (henv:∀x a,ev x=some a→Rep P σ (ρ x) a):∀(x:Option Operand),(∀y ∈ x,(ev y).isSome=true)→Gj P σ (x.map ρ) (x.bind ev)
 |none,_=>.none
 |some y,h=>by
  obtain ⟨a,ha⟩:=Option.isSome_iff_exists.1 (h y rfl)
  show Gj P σ (some (ρ y)) (ev y)
  rw [ha]
  exact .some (henv y a ha)
theorem Eo {ev:Operand→Option AV}:∀{xs:List Operand} {as:List AV},evs ev xs=some as→∀y ∈ xs,(ev y).isSome=true
 |[],_,_,_,hy=>by simp at hy
 |x::xs,as,h,y,hy=>by
  simp only [evs] at h
  obtain ⟨a,ha,h2⟩:=bind_eq_some_iff.1 h
  obtain ⟨as',has,_⟩:=map_eq_some_iff.1 h2
  rcases List.mem_cons.1 hy with rfl | hy
  ·rw [ha];rfl
  ·exact Eo has y hy
theorem zay {H:zN} {f:FuncId} {ev:Operand→Option AV} {ρ:Operand→Value} {base:Nat} {o:Oper} {r:Res×St} (hX:Qj P H) (hfn:∀g,ρ (.func g) = .func (.func g) #[] #[]) (henv:∀x a,ev x=some a→Rep P σ (ρ x) a) (h:WF P W bs σ st w)
  (ho:opA P H f ev st base o.dst o.op=some r):VP P W bs σ r.2 ((execOp ρ o).run P w) r.1:=by
 unfold execOp
 cases hop:o.op with
 |move x =>
  rw [hop] at ho;obtain ⟨a,ha,rfl⟩:=qC ho
  exact ⟨ρ x,w,σ,rfl,.refl _,h,henv x a ha⟩
 |assign x =>
  rw [hop] at ho;obtain ⟨a,ha,rfl⟩:=qC ho
  exact ⟨ρ x,w,σ,rfl,.refl _,h,henv x a ha⟩
 |pick c x y =>
  rw [hop] at ho;obtain ⟨a,ha,rfl⟩:=qC ho
  unfold El at ha
  obtain ⟨ca,hc,h2⟩:=bind_eq_some_iff.1 ha
  have hcr:=henv c ca hc
  split at h2
  ·generalize hρ:ρ c=cv at hcr
   cases hcr
   exact ⟨ρ x,w,σ,by simp [hρ,asBool],.refl _,h,henv x a h2⟩
  ·generalize hρ:ρ c=cv at hcr
   cases hcr
   exact ⟨ρ y,w,σ,by simp [hρ,asBool],.refl _,h,henv y a h2⟩
  ·simp at h2
 |alloc t =>
  rw [hop] at ho;obtain ⟨q,hq,rfl⟩:=QA ho
  exact JN (EY h hq)
 |box t x =>
  rw [hop] at ho;obtain ⟨q,hq,rfl⟩:=QA ho
  unfold IF at hq
  obtain ⟨a,ha,h2⟩:=bind_eq_some_iff.1 hq
  split at h2
  ·simp at h2
  ·rename_i ht
   cases h2
   exact JN (Iu h (henv x a ha) (by simpa using ht))
 |build t ps =>
  rw [hop] at ho;obtain ⟨a,ha,rfl⟩:=qC ho
  obtain ⟨as,has,h2⟩:=bind_eq_some_iff.1 ha
  exact qk h (by
   have:=Bo (w:=w) (Wo henv has) h2
   rw [ZZ] at this
   exact this)
 |buildSlice t len ps =>
  rw [hop] at ho;obtain ⟨q,hq,rfl⟩:=QA ho
  unfold qP at hq
  split at hq
  ·rename_i e ht
   obtain ⟨kd,hk,h3⟩:=bind_eq_some_iff.1 hq
   obtain ⟨z,hz,h4⟩:=bind_eq_some_iff.1 h3
   obtain ⟨as,has,h5⟩:=bind_eq_some_iff.1 h4
   exact JN (by
    have:=MF h ht hk hz (Wo henv has) h5
    rw [ZZ] at this
    exact this)
  ·simp at hq
 |load t a =>
  rw [hop] at ho;obtain ⟨v,hv,rfl⟩:=qC ho
  obtain ⟨p,hp,h2⟩:=bind_eq_some_iff.1 hv
  exact qk h (Nm h (henv a p hp) h2)
 |store t a x =>
  rw [hop] at ho;obtain ⟨q,hq,rfl⟩:=Mi ho
  obtain ⟨p,hp,h2⟩:=bind_eq_some_iff.1 hq
  obtain ⟨v,hv,h3⟩:=bind_eq_some_iff.1 h2
  exact DZ (FS h (henv a p hp) (henv x v hv) h3)
 |nilCheck x =>
  rw [hop] at ho;obtain ⟨a,ha,rfl⟩:=qC ho
  obtain ⟨p,hp,h2⟩:=bind_eq_some_iff.1 ha
  have hr:=henv x p hp
  unfold zb at h2
  split at h2
  ·cases h2
   generalize hρ:ρ x=xv at hr
   have hr':=hr
   cases hr
   exact ⟨_,w,σ,by simp [hρ],.refl _,h,hr'⟩
  ·cases h2
   generalize hρ:ρ x=xv at hr
   have hr':=hr
   cases hr
   exact ⟨_,w,σ,by simp [hρ],.refl _,h,hr'⟩
  ·cases h2
   generalize hρ:ρ x=xv at hr
   have hr':=hr
   cases hr
   exact ⟨_,w,σ,by simp [hρ],.refl _,h,hr'⟩
  ·simp at h2
 |binOp op t x y c =>
  rw [hop] at ho;obtain ⟨a,ha,rfl⟩:=qC ho
  obtain ⟨xa,hx,h2⟩:=bind_eq_some_iff.1 ha
  obtain ⟨ya,hy,h3⟩:=bind_eq_some_iff.1 h2
  exact qk h (Il (henv x xa hx) (henv y ya hy) h3)
 |unOp op t x =>
  rw [hop] at ho;obtain ⟨a,ha,rfl⟩:=qC ho
  obtain ⟨xa,hx,h2⟩:=bind_eq_some_iff.1 ha
  exact qk h (zab (henv x xa hx) h2)
 |convert s d x =>
  rw [hop] at ho;obtain ⟨q,hq,rfl⟩:=QA ho
  obtain ⟨xa,hx,h2⟩:=bind_eq_some_iff.1 hq
  exact JN (CF h (henv x xa hx) h2)
 |makeInterface t x =>
  rw [hop] at ho;obtain ⟨a,ha,rfl⟩:=qC ho
  exact qk h (by
   unfold Lm at ha
   cases hd:P.underlying t with
   |none=>rw [hd] at ha;simp at ha
   |some d =>
    rw [hd] at ha
    cases hx:ev x with
    |none=>rw [hx] at ha;cases d<;>simp at ha
    |some xa =>
     rw [hx] at ha
     exact FL (t:=t) (henv x xa hx) (by rw [hd];cases d<;>first | (simp at ha;done) | simpa using ha))
 |makeFunc fn first cap =>
  rw [hop] at ho;obtain ⟨a,ha,rfl⟩:=qC ho
  unfold Ek at ha
  split at ha
  ·rename_i g
   split at ha
   ·rename_i h0
    obtain ⟨as,has,rfl⟩:=map_eq_some_iff.1 ha
    have hf:first=#[]:=Array.eq_empty_of_size_eq_zero h0
    subst hf
    have hr:=QF henv has
    refine qk h ⟨.func (.func g) #[] (cap.map ρ),by simp [Instr.makeFunc],?_⟩
    exact .fn g (cap.map ρ) as (by simpa using hr.1) (fun j v a h1 h2=>hr.2 j v a (by simpa using h1) h2)
   ·simp at ha
  ·simp at ha
 |makeMap t rsv =>
  rw [hop] at ho
  cases rsv with
  |some _=>simp [opA] at ho
  |none =>
   simp only [opA,Option.some.injEq] at ho
   subst ho
   have hl:=σ.le_setB (b:=w.heap.size) (h.idB st.length (Nat.le_refl _))
   have hB:(σ.setB st.length w.heap.size).B st.length=some w.heap.size:=by
    show (if _ then _ else _)=_
    rw [if_pos rfl]
   refine Ky (σ':=σ.setB st.length w.heap.size) (v:=.map (some w.heap.size)) (w':=w.alloc (.map #[] 0)) (by simp [Instr.makeMap]) hl ?_ (.mp _ _ hB)
   refine h.step (o:=st.length) (x:=.amap []) (T:=w.heap.size) hl (h.below.alloc (Nat.le_trans h.bsle h.size) _) (fun p hp=>by rw [St.get_cons,if_neg hp]) (by rw [St.get_cons,if_pos rfl]) (by simp)
    (fun b _ hb=>jA w _ hb) (fun p y _ hp=>Zc h (Nat.le_refl _) p y hp) (fun _ _ _ hv=>.inl hv)
    (fun i v hv=>absurd (h.imm _ _ _ hv).1 (fun hh=>by have:=jv hh;omega)) (fun _ _ hy=>.inl hy) (fun y hy=>absurd (h.shp _ _ hy) (fun hh=>by have:=Zn hh;omega))
    (fun _ _ _ hy=>.inl hy) (fun o' y hy=>?_) (fun _ _ _ _ hy=>.inl hy) ?_ trivial (fun b hb=>?_)
   ·change (if o'=st.length then some w.heap.size else σ.B o')=some y at hy
    split at hy
    ·right;assumption
    ·left;exact hy
   ·exact ⟨w.heap.size,#[],0,hB,Nat.le_trans h.bsle h.size,qt w _,rfl,by simp⟩
   ·rw [show (σ.setB st.length w.heap.size).B st.length=some b from hb] at hB
    exact Option.some.inj hB
 |makeSlice t l c =>
  rw [hop] at ho;obtain ⟨q,hq,rfl⟩:=QA ho
  obtain ⟨la,hl,h2⟩:=bind_eq_some_iff.1 hq
  obtain ⟨ca,hc,h3⟩:=bind_eq_some_iff.1 h2
  exact JN (Gs h (henv l la hl) (henv c ca hc) h3)
 |slice t x lo hi mx =>
  rw [hop] at ho;obtain ⟨a,ha,rfl⟩:=qC ho
  obtain ⟨xa,hx,h2⟩:=bind_eq_some_iff.1 ha
  obtain ⟨bs',hb,h3⟩:=bind_eq_some_iff.1 h2
  have hm:=Eo hb
  exact qk h (EX h (henv x xa hx) (zaD henv lo (fun y hy=>hm y (by cases lo<;>simp_all))) (zaD henv hi (fun y hy=>hm y (by cases hi<;>simp_all))) (zaD henv mx (fun y hy=>hm y (by cases mx<;>simp_all))) h3)
 |fieldAddr t x i =>
  rw [hop] at ho;obtain ⟨a,ha,rfl⟩:=qC ho
  obtain ⟨xa,hx,h2⟩:=bind_eq_some_iff.1 ha
  exact qk h (Gi (henv x xa hx) h2)
 |field t x i =>
  rw [hop] at ho;obtain ⟨a,ha,rfl⟩:=qC ho
  obtain ⟨xa,hx,h2⟩:=bind_eq_some_iff.1 ha
  exact qk h (FZ (henv x xa hx) h2)
 |indexAddr t x i =>
  rw [hop] at ho;obtain ⟨a,ha,rfl⟩:=qC ho
  obtain ⟨xa,hx,h2⟩:=bind_eq_some_iff.1 ha
  obtain ⟨ia,hi,h3⟩:=bind_eq_some_iff.1 h2
  exact qk h (Gw h (henv x xa hx) (henv i ia hi) h3)
 |index t x i =>
  rw [hop] at ho;obtain ⟨a,ha,rfl⟩:=qC ho
  obtain ⟨xa,hx,h2⟩:=bind_eq_some_iff.1 ha
  obtain ⟨ia,hi,h3⟩:=bind_eq_some_iff.1 h2
  exact qk h (FE (henv x xa hx) (henv i ia hi) h3)
 |lookup t x k ok =>
  rw [hop] at ho;obtain ⟨a,ha,rfl⟩:=qC ho
  obtain ⟨xa,hx,h2⟩:=bind_eq_some_iff.1 ha
  obtain ⟨ka,hk,h3⟩:=bind_eq_some_iff.1 h2
  exact qk h (Np h (henv x xa hx) (henv k ka hk) h3)
 |mapUpdate t m k x =>
  rw [hop] at ho;obtain ⟨q,hq,rfl⟩:=Mi ho
  obtain ⟨ma,hm,h2⟩:=bind_eq_some_iff.1 hq
  obtain ⟨ka,hk,h3⟩:=bind_eq_some_iff.1 h2
  obtain ⟨xa,hx,h4⟩:=bind_eq_some_iff.1 h3
  exact DZ (Gv h (henv m ma hm) (henv k ka hk) (henv x xa hx) h4)
 |range t x =>
  rw [hop] at ho;obtain ⟨q,hq,rfl⟩:=QA ho
  obtain ⟨xa,hx,h2⟩:=bind_eq_some_iff.1 hq
  exact JN (Fi h (henv x xa hx) h2)
 |next x isStr =>
  rw [hop] at ho;obtain ⟨q,hq,rfl⟩:=QA ho
  obtain ⟨xa,hx,h2⟩:=bind_eq_some_iff.1 hq
  exact Uw (CK h (henv x xa hx) h2)
 |typeAssert x xt t ok =>
  rw [hop] at ho;obtain ⟨a,ha,rfl⟩:=qC ho
  obtain ⟨xa,hx,h2⟩:=bind_eq_some_iff.1 ha
  exact qk h (Dt (henv x xa hx) h2)
 |extract t i =>
  rw [hop] at ho;obtain ⟨a,ha,rfl⟩:=qC ho
  obtain ⟨xa,hx,h2⟩:=bind_eq_some_iff.1 ha
  exact qk h (Nj (henv t xa hx) h2)
 |call c =>
  rw [hop] at ho
  simp only [opA,Yl] at ho
  split at ho
  ·rename_i b hc
   obtain ⟨as,has,h2⟩:=bind_eq_some_iff.1 ho
   have hr:=MV (ty:=o.type) (cs:=c.args.map fun | .const _=>true | _=>false) h (QF henv has) h2
   simp only [resolve,hc]
   rw [ZZ] at hr
   exact hr
  ·rename_i g hc
   obtain ⟨F,hF,h2⟩:=bind_eq_some_iff.1 ho
   obtain ⟨as,has,h3⟩:=bind_eq_some_iff.1 h2
   obtain ⟨a,ha,rfl⟩:=qC h3
   obtain ⟨v,h4,h5⟩:=hX g F hF W bs σ st w _ as a h (QF henv has) ha
   rw [ZZ] at h4
   refine ⟨v,w,σ,?_,.refl _,h,h5⟩
   simp only [resolve,hc,hfn,Deferred.ofValue,Sem.run_bind,Sem.run_pure,Result.andThen_ok,invoke,Array.empty_append,Array.append_empty]
   exact h4
  ·simp at ho
 |defer c =>
  rw [hop] at ho
  simp only [opA,Ub] at ho
  split at ho
  ·rename_i x hc
   obtain ⟨fv,hfv,h2⟩:=bind_eq_some_iff.1 ho
   split at h2
   ·rename_i g cap
    obtain ⟨as,has,rfl⟩:=map_eq_some_iff.1 h2
    have hr:=henv x _ hfv
    generalize hρ:ρ x=xv at hr
    cases hr with
    |fn _ cs _ hs hcap =>
    have hargs:=QF henv has
    refine ⟨cs,c.args.map ρ,w,σ,?_,.refl _,h,?_⟩
    ·simp [resolve,hc,hρ,Deferred.ofValue]
    ·have:=hargs.append (us:=cs.toList) (bs:=cap) ⟨by simpa using hs,fun j v a h1 h2=>hcap j v a (by simpa using h1) h2⟩
     simpa using this
   ·simp at h2
  ·simp at ho
 |panic x =>
  rw [hop] at ho
  obtain ⟨xa,hx,h2⟩:=bind_eq_some_iff.1 ho
  unfold NS at h2
  split at h2
  ·cases h2
   have hr:=henv x _ hx
   generalize hρ:ρ x=xv at hr
   have hr':=hr
   cases hr
   exact ⟨_,w,σ,by simp [hρ,Instr.panic],.refl _,h,hr'⟩
  ·simp at h2
 |_=>rw [hop] at ho;simp [opA] at ho
end
end Go.Abs
namespace Go.Abs
open Go Go.RowKit
section
variable {P:Program} {H:zN} {W:World} {bs:Nat} {σ σ':Gh} {st:St} {w:World} {f:FuncId} {nt:Nat}
def qx (P:Program) (H:zN) (σ:Gh):Prop:=∀g row,H.glob g=some row→Rep P σ (.pointer (some ⟨g,0,none⟩)) (.ip row 0)
theorem qx.mono (h:qx P H σ) (hl:σ.Le σ'):qx P H σ':=fun g row hg=>(h g row hg).mono hl
structure ZU (P:Program) (H:zN) (f:FuncId) (σ:Gh) (nt:Nat) (tmps:Array Value) (loc env:Env):Prop where
 size:nt≤tmps.size
 val:∀t v,look loc env t=some v→Rep P σ (tmps.getD t undef) v
 loc:∀t v,Env.get loc t=some v→(H.keep f).contains t=false
 kept:∀t v,Env.get env t=some v→(H.keep f).contains t=true
 srt:env.Pairwise fun p q=>p.1<q.1
def CJ (P:Program) (σ:Gh) (d:Deferred) (p:FuncId×List AV):Prop:=∃cap args,d=⟨.fn (.func p.1) cap,args⟩∧qX P σ (args.toList++cap.toList) p.2
inductive jE (P:Program) (σ:Gh):List Deferred→List (FuncId×List AV)→Prop where
 |nil:jE P σ [] []
 |cons {d:Deferred} {p:FuncId×List AV} {ds:List Deferred} {ps:List (FuncId×List AV)} (h:CJ P σ d p) (hs:jE P σ ds ps):jE P σ (d::ds) (p::ps)
theorem ZU.mono {tmps:Array Value} {loc env:Env} (h:ZU P H f σ nt tmps loc env) (hl:σ.Le σ'):ZU P H f σ' nt tmps loc env:=⟨h.size,fun t v hv=>(h.val t v hv).mono hl,h.loc,h.kept,h.srt⟩
theorem jE.mono {ds:List Deferred} {ps:List (FuncId×List AV)} (h:jE P σ ds ps) (hl:σ.Le σ'):jE P σ' ds ps:=by
 induction h with
 |nil=>exact .nil
 |cons h _ ih =>
  obtain ⟨cap,args,rfl,hr⟩:=h
  exact .cons ⟨cap,args,rfl,hr.mono hl⟩ ih
structure jy (P:Program) (H:zN) (f:FuncId) (σ:Gh) (nt:Nat) (a:Act) (loc:Env) (fr:Fr):Prop where
 env:ZU P H f σ nt a.tmps loc fr.env
 defs:jE P σ a.defers fr.defers
theorem jy.mono {a:Act} {loc:Env} {fr:Fr} (h:jy P H f σ nt a loc fr) (hl:σ.Le σ'):jy P H f σ' nt a loc fr:=⟨h.env.mono hl,h.defs.mono hl⟩
theorem Env.get_set:∀(e:Env) (t s:Nat) (v:AV),Env.get (Env.set e t v) s=if s=t then some v else Env.get e s
 |[],t,s,v=>by
  simp only [Env.set,Env.get]
  by_cases h:t=s
  ·subst h;simp
  ·rw [if_neg h,if_neg (fun e=>h e.symm)]
 |(k,u)::r,t,s,v=>by
  simp only [Env.set]
  split
  ·rename_i hk
   subst hk
   simp only [Env.get]
   by_cases h:k=s
   ·subst h;simp
   ·rw [if_neg h,if_neg (fun e=>h e.symm),if_neg h]
  ·split
   ·simp only [Env.get]
    by_cases h:t=s
    ·subst h;simp
    ·have h':¬s=t:=fun e=>h e.symm
     rw [if_neg h,if_neg h']
   ·rename_i hk _
    simp only [Env.get]
    by_cases h:k=s
    ·subst h
     rw [if_pos rfl,if_neg (fun e=>hk e),if_pos rfl]
    ·rw [if_neg h,if_neg h,Env.get_set r t s v]
theorem Env.mem_set:∀{e:Env} {t:Nat} {v:AV} {p:Nat×AV},p ∈ Env.set e t v→p=(t,v)∨p ∈ e
 |[],t,v,p,h=>by simpa [Env.set] using h
 |(k,u)::r,t,v,p,h=>by
  simp only [Env.set] at h
  split at h
  ·rcases List.mem_cons.1 h with h | h
   ·exact .inl h
   ·exact .inr (List.mem_cons_of_mem _ h)
  ·split at h
   ·rcases List.mem_cons.1 h with h | h
    ·exact .inl h
    ·exact .inr h
   ·rcases List.mem_cons.1 h with h | h
    ·exact .inr (h▸List.mem_cons_self)
    ·rcases Env.mem_set h with h | h
     ·exact .inl h
     ·exact .inr (List.mem_cons_of_mem _ h)
theorem Env.set_srt:∀{e:Env} {t:Nat} {v:AV},e.Pairwise (fun p q=>p.1<q.1)→(Env.set e t v).Pairwise fun p q=>p.1<q.1
 |[],t,v,_=>by simp [Env.set]
 |(k,u)::r,t,v,h=>by
  obtain ⟨h1,h2⟩:=List.pairwise_cons.1 h
  simp only [Env.set]
  split
  ·rename_i hk
   subst hk
   exact List.pairwise_cons.2 ⟨h1,h2⟩
  ·split
   ·rename_i hk hlt
    refine List.pairwise_cons.2 ⟨fun q hq=>?_,h⟩
    rcases List.mem_cons.1 hq with rfl | hq
    ·exact hlt
    ·exact Nat.lt_trans hlt (h1 q hq)
   ·rename_i hk hlt
    refine List.pairwise_cons.2 ⟨fun q hq=>?_,Env.set_srt h2⟩
    rcases Env.mem_set hq with rfl | hq
    ·show k<t;omega
    ·exact h1 q hq
theorem Env.get_mem:∀{e:Env} {t:Nat} {v:AV},Env.get e t=some v→(t,v) ∈ e
 |[],t,v,h=>by simp [Env.get] at h
 |(k,u)::r,t,v,h=>by
  simp only [Env.get] at h
  split at h
  ·rename_i hk;subst hk;cases h;exact List.mem_cons_self
  ·exact List.mem_cons_of_mem _ (Env.get_mem h)
theorem Env.mem_get:∀{e:Env} {t:Nat} {v:AV},e.Pairwise (fun p q=>p.1<q.1)→(t,v) ∈ e→Env.get e t=some v
 |(k,u)::r,t,v,hs,h=>by
  obtain ⟨h1,h2⟩:=List.pairwise_cons.1 hs
  simp only [Env.get]
  rcases List.mem_cons.1 h with h | h
  ·cases h;simp
  ·have:=h1 _ h
   rw [if_neg (show ¬k=t from Nat.ne_of_lt this)]
   exact Env.mem_get h2 h
theorem Env.get_filter {e:Env} {t:Nat} {v:AV} {p:Nat×AV→Bool} (hs:e.Pairwise fun p q=>p.1<q.1) (h:Env.get (e.filter p) t=some v):Env.get e t=some v∧p (t,v)=true:=by
 have:=List.mem_filter.1 (Env.get_mem h)
 exact ⟨Env.mem_get hs this.1,this.2⟩
theorem ZU.drop {tmps:Array Value} {loc env:Env} (h:ZU P H f σ nt tmps loc env):ZU P H f σ nt tmps [] env:=by
 refine ⟨h.size,fun t v hv=>?_,fun t v hv=>by simp [Env.get] at hv,h.kept,h.srt⟩
 have hv':Env.get env t=some v:=by simpa [look,Env.get] using hv
 refine h.val t v ?_
 unfold look
 cases hl:Env.get loc t with
 |none=>exact hv'
 |some u =>
  have h1:=h.loc t u hl
  have h2:=h.kept t v hv'
  rw [h1] at h2;simp at h2
theorem jy.drop {a:Act} {loc:Env} {fr:Fr} (h:jy P H f σ nt a loc fr):jy P H f σ nt a [] fr:=⟨h.env.drop,h.defs⟩
theorem XT (tmps:Array Value) (d t:Nat) (v:Value) (hd:d<tmps.size):(tmps.setIfInBounds d v).getD t undef=if t=d then v else tmps.getD t undef:=by
 by_cases h:t=d
 ·subst h
  rw [if_pos rfl]
  simp [Array.getD,hd]
 ·rw [if_neg h]
  simp only [Array.getD_eq_getD_getElem?]
  rw [Array.getElem?_setIfInBounds_ne (fun e=>h e.symm)]
theorem ZU.put {tmps:Array Value} {loc env:Env} {d:Nat} {v:Value} {x:AV} (h:ZU P H f σ nt tmps loc env) (hd:d<nt) (hv:Rep P σ v x) :
  ZU P H f σ nt (tmps.setIfInBounds d v) (jY H f (some d) x loc env).1 (jY H f (some d) x loc env).2:=by
 have hds:d<tmps.size:=Nat.lt_of_lt_of_le hd h.size
 unfold jY
 by_cases hk:(H.keep f).contains d=true
 ·simp only [hk,if_true]
  refine ⟨by simpa using h.size,fun t u hu=>?_,h.loc,fun t u hu=>?_,Env.set_srt h.srt⟩
  ·rw [XT _ _ _ _ hds]
   unfold look at hu
   cases hl:Env.get loc t with
   |some u' =>
    rw [hl] at hu
    have hne:t≠d:=fun e=>by subst e;have:=h.loc t u' hl;rw [hk] at this;simp at this
    rw [if_neg hne]
    cases hu
    exact h.val t _ (by simp [look,hl])
   |none =>
    rw [hl] at hu
    simp only [Env.get_set] at hu
    by_cases e:t=d
    ·rw [if_pos e] at hu ⊢;cases hu;exact hv
    ·rw [if_neg e] at hu ⊢
     exact h.val t _ (by simp [look,hl,hu])
  ·rw [Env.get_set] at hu
   by_cases e:t=d
   ·subst e;exact hk
   ·rw [if_neg e] at hu;exact h.kept t u hu
 ·simp only [hk,Bool.false_eq_true,if_false]
  have hk':(H.keep f).contains d=false:=by simpa using hk
  refine ⟨by simpa using h.size,fun t u hu=>?_,fun t u hu=>?_,h.kept,h.srt⟩
  ·rw [XT _ _ _ _ hds]
   unfold look at hu
   simp only [Env.get] at hu
   by_cases e:d=t
   ·rw [if_pos e] at hu
    rw [if_pos e.symm]
    cases hu;exact hv
   ·rw [if_neg e] at hu
    rw [if_neg (fun x=>e x.symm)]
    exact h.val t _ hu
  ·simp only [Env.get] at hu
   by_cases e:d=t
   ·subst e;exact hk'
   ·rw [if_neg e] at hu;exact h.loc t u hu
theorem jy.put {a:Act} {loc:Env} {fr:Fr} {dst:Option Tmp} {v:Value} {x:AV} (h:jy P H f σ nt a loc fr) (hd:∀d,dst=some d→d<nt) (hv:Rep P σ v x) :
  jy P H f σ nt (a.put dst v) (jY H f dst x loc fr.env).1 {fr with env:=(jY H f dst x loc fr.env).2}:=by
 cases dst with
 |none=>exact h
 |some d=>exact ⟨h.env.put (hd d rfl) hv,h.defs⟩
theorem jy.eval {a:Act} {loc:Env} {fr:Fr} (h:jy P H f σ nt a loc fr) (hg:qx P H σ):∀x v,evO H loc fr.env x=some v→Rep P σ (a.eval x) v
 | .tmp t,v,hv=>h.env.val t v hv
 | .const u,v,hv=>ZF 6 u v hv
 | .global g,v,hv=>by
  obtain ⟨row,hr,rfl⟩:=map_eq_some_iff.1 hv
  exact hg g row hr
 | .func g,v,hv=>by
  simp only [evO,Option.some.injEq] at hv
  subst hv
  exact .fn g #[] [] rfl (by simp)
theorem Mq {a:Act} {loc:Env} {fr:Fr} {ops:Array Oper} {o:Oper} {b:Bool} (h:jy P H f σ nt a loc fr) (hw:Zg ops loc fr.env o=some b):Region.wanted o (yielded ops a.tmps)=b:=by
 unfold Zg at hw
 unfold Region.wanted
 split at hw
 ·rename_i hg
  cases hw
  rw [hg]
 ·rename_i j want hg
  obtain ⟨d,hd,h2⟩:=bind_eq_some_iff.1 hw
  obtain ⟨v,hv,h3⟩:=bind_eq_some_iff.1 h2
  have hr:=h.env.val d v hv
  rw [hg]
  unfold yielded
  simp only [hd,bind_some]
  split at h3
  ·rename_i b'
   cases h3
   generalize hx:a.tmps.getD d undef=x at hr
   cases hr
   have:a.tmps[d]?=some (.bool b'):=by
    rw [Array.getD_eq_getD_getElem?] at hx
    cases he:a.tmps[d]? with
    |none=>rw [he] at hx;simp [undef] at hx
    |some y=>rw [he] at hx;simp at hx;rw [hx]
   rw [this]
   cases b'<;>cases want<;>rfl
  ·cases h3
   generalize hx:a.tmps.getD d undef=x at hr
   cases hr with
   |tup cs as hs hR =>
   have:a.tmps[d]?=none∨a.tmps[d]?=some (.tuple cs):=by
    rw [Array.getD_eq_getD_getElem?] at hx
    cases he:a.tmps[d]? with
    |none=>exact .inl rfl
    |some y=>rw [he] at hx;simp at hx;rw [hx];exact .inr rfl
   rcases this with e | e<;>rw [e]<;>rfl
  ·simp at h3
theorem ZU.filter {tmps:Array Value} {env:Env} {p:Nat×AV→Bool} (h:ZU P H f σ nt tmps [] env):ZU P H f σ nt tmps [] (env.filter p):=by
 refine ⟨h.size,fun t v hv=>?_,h.loc,fun t v hv=>h.kept t v (Env.get_filter h.srt hv).1,h.srt.filter _⟩
 exact h.val t v (by simpa [look,Env.get] using (Env.get_filter h.srt (by simpa [look,Env.get] using hv)).1)
theorem Gh.Le.trunc {n:Nat} (hl:σ.Le σ') (hR:∀o e,n≤o→σ.R o e=none) (hB:∀o,n≤o→σ.B o=none) (hL:∀o e k,n≤o→σ.L o e k=none):σ.Le (σ'.trunc n):=by
 refine ⟨hl.I,hl.sh,fun o e x hx=>?_,fun o x hx=>?_,fun t e k x hx=>?_,hl.lo⟩
 ·show (if o<n then _ else _)=_
  by_cases h:o<n
  ·rw [if_pos h];exact hl.R _ _ _ hx
  ·rw [hR o e (by omega)] at hx;simp at hx
 ·show (if o<n then _ else _)=_
  by_cases h:o<n
  ·rw [if_pos h];exact hl.B _ _ hx
  ·rw [hB o (by omega)] at hx;simp at hx
 ·show (if t<n then _ else _)=_
  by_cases h:t<n
  ·rw [if_pos h];exact hl.L _ _ _ _ hx
  ·rw [hL t e k (by omega)] at hx;simp at hx
end
end Go.Abs
namespace Go.Abs
open Go Go.RowKit
section
variable {P:Program} {H:zN} {W:World} {bs:Nat} {σ σ':Gh} {st:St} {w:World} {f:FuncId} {nt base:Nat}
def VR (P:Program) (W:World) (bs:Nat) (σ:Gh) (o:zd) (st':St):Ending→World→Prop
 | .returned v,w'=>∃a σ',o = .ret a∧σ.Le σ'∧WF P W bs σ' st' w'∧Rep P σ' v a
 | .panicked ch,w'=>∃a v σ',o = .pan a∧ch=[{v:=v,recovered:=false}]∧σ.Le σ'∧WF P W bs σ' st' w'∧Rep P σ' v a
 | .outgrown,_=>False
def Has (P:Program) (g:FuncId):Prop:=∃fn,P.funcs[g]?=some fn∧fn.body.isNone=false∧(fn.name == "runtime.NumGoroutine")=false
abbrev jX:=FuncId→List AV→St→Option (zd×St)
def ZD (P:Program) (H:zN) (W:World) (bs:Nat) (callF:jX):Prop :=
 ∀g as st r,callF g as st=some r→Has P g∧∀σ w vs,WF P W bs σ st w→qx P H σ→qX P σ vs as→Calls P g vs.toArray w (VR P W bs σ r.1 r.2)
theorem JO {g:FuncId} (h:Has P g) (args:Array Value):(callFunc g args).run P w = .ok (.enter g args) w:=by
 obtain ⟨fn,h1,h2,h3⟩:=h
 simp only [callFunc,Sem.run_bind,run_program,Result.andThen_ok,h1,h2,h3,Bool.false_eq_true,if_false,Sem.run_pure]
theorem Kn {o:Oper} {a:Act} {w:World} {K K':Act→World→Prop} {Q Q':Exit→Act→World→Prop} (h:∀a w,K a w→K' a w) (hq:∀e a w,Q e a w→Q' e a w) (hh:o.wp P a w K Q):o.wp P a w K' Q':=by
 unfold Oper.wp at *
 generalize (execOp a.eval o).run P w=r at *
 cases r with
 |ok n w' =>
  cases n<;>simp only [Oper.upon] at hh ⊢ <;>
   first
    |exact h _ _ hh
    |exact Calls.mono hh (fun e w'' he=>by
      cases e with
      |returned v=>exact h _ _ he
      |panicked ch=>exact hq _ _ _ he
      |outgrown=>exact ⟨he.choose,he.choose_spec.choose,hq _ _ _ he.choose_spec.choose_spec⟩)
    |exact Rows.mono hh (fun _ _ he=>h _ _ he)
 |halt x w'=>cases x<;>simp only [Oper.upon] at hh ⊢<;>first | exact hq _ _ _ hh | exact hh
theorem ZJ {ops:Array Oper} {Q Q':Exit→Act→World→Prop} (hq:∀e a w,Q e a w→Q' e a w):∀{l:List Nat} {a:Act} {w:World},wpOps P ops Q l a w→wpOps P ops Q' l a w
 |[],a,w,h=>hq _ _ _ h
 |i::rest,a,w,h=>by
  simp only [wpOps] at h ⊢
  split
  ·rename_i ho
   simp only [ho] at h
   exact ZJ hq h
  ·rename_i o ho
   simp only [ho] at h
   split
   ·rename_i hw
    simp only [hw,if_true] at h
    rcases h with h | ⟨h,a',w',h'⟩
    ·exact .inl (Kn (fun _ _ hk=>ZJ hq hk) hq h)
    ·exact .inr ⟨h,a',w',hq _ _ _ h'⟩
   ·rename_i hw
    simp only [hw] at h
    exact ZJ hq h
theorem YL {callF:jX} {o:Oper} {ev:Operand→Option AV} {a:Act} {r:Res×St} {next:Act→World→Prop} {Q:Exit→Act→World→Prop}
  (hX:Qj P H) (hC:ZD P H W bs callF) (h:WF P W bs σ st w) (hg:qx P H σ) (henv:∀x v,ev x=some v→Rep P σ (a.eval x) v) (hs:ZA P H callF f base o ev st=some r)
  (hval:∀v x w' σ',r.1 = .val x→σ.Le σ'→WF P W bs σ' r.2 w'→Rep P σ' v x→next (a.put o.dst v) w')
  (hskip:∀w' σ',r.1 = .skip→σ.Le σ'→WF P W bs σ' r.2 w'→next (a.put o.dst undef) w')
  (hdefer:∀g as d w' σ',r.1 = .defer g as→σ.Le σ'→WF P W bs σ' r.2 w'→CJ P σ' d (g,as)→next ({a with defers:=d::a.defers}.put o.dst undef) w')
  (hpan:∀v x w' σ',r.1 = .pan x→σ.Le σ'→WF P W bs σ' r.2 w'→Rep P σ' v x→Q (.panic [{v:=v,recovered:=false}]) a w') :
  o.wp P a w next Q:=by
 unfold ZA at hs
 have called:∀g as (vs:List Value),jr H (ev) o.op=some (some (g,as))→qX P σ vs as→(Has P g→(execOp a.eval o).run P w = .ok (.enter g vs.toArray) w)→o.wp P a w next Q:=by
  intro g as vs hco hr hrun
  rw [hco] at hs
  obtain ⟨q,hq,h2⟩:=map_eq_some_iff.1 hs
  obtain ⟨hh,hcall⟩:=hC g as st q hq
  unfold Oper.wp
  rw [hrun hh,Oper.upon_enter]
  refine (hcall σ w vs h hg hr).mono fun e w' he=>?_
  cases e with
  |returned v =>
   obtain ⟨x,σ',e1,e2,e3,e4⟩:=he
   rw [e1] at h2
   subst h2
   exact hval v x w' σ' rfl e2 e3 e4
  |panicked ch =>
   obtain ⟨x,v,σ',e1,rfl,e2,e3,e4⟩:=he
   rw [e1] at h2
   subst h2
   exact hpan v x w' σ' rfl e2 e3 e4
  |outgrown=>exact he.elim
 cases hco:jr H (ev) o.op with
 |none =>
  rw [hco] at hs
  have hr:=zay hX (fun g=>rfl) henv h hs
  unfold Oper.wp
  obtain ⟨res,st'⟩:=r
  cases res with
  |val x =>
   obtain ⟨v,w',σ',e1,e2,e3,e4⟩:=hr
   rw [e1,Oper.upon_value]
   exact hval v x w' σ' rfl e2 e3 e4
  |skip =>
   obtain ⟨w',σ',e1,e2,e3⟩:=hr
   rw [e1,Oper.upon_skip]
   exact hskip w' σ' rfl e2 e3
  |defer g as =>
   obtain ⟨cap,args,w',σ',e1,e2,e3,e4⟩:=hr
   rw [e1,Oper.upon_defer]
   exact hdefer g as _ w' σ' rfl e2 e3 ⟨cap,args,rfl,e4⟩
  |pan x =>
   obtain ⟨v,w',σ',e1,e2,e3,e4⟩:=hr
   rw [e1,Oper.upon_panic]
   exact hpan v x w' σ' rfl e2 e3 e4
 |some c =>
  cases c with
  |none=>rw [hco] at hs;simp at hs
  |some ga =>
   obtain ⟨g,as⟩:=ga
   have hco':=hco
   unfold jr at hco
   split at hco
   ·rename_i c hop
    split at hco
    ·rename_i x hcal
     split at hco
     ·rename_i g'
      split at hco
      ·simp at hco
      ·simp only [Option.some.injEq] at hco
       obtain ⟨as',has,e1⟩:=map_eq_some_iff.1 hco
       cases e1
       have hr:=QF henv has
       refine called g as _ hco' hr (fun hh=>?_)
       rw [ZZ]
       simp only [execOp,hop,resolve,hcal,Act.eval,Deferred.ofValue,Sem.run_bind,Sem.run_pure,Result.andThen_ok,invoke,Array.empty_append,Array.append_empty]
       exact JO hh _
     ·simp only [Option.some.injEq] at hco
      obtain ⟨fv,hfv,h3⟩:=bind_eq_some_iff.1 hco
      split at h3
      ·rename_i g' cap
       split at h3
       ·simp at h3
       ·obtain ⟨as',has,e1⟩:=map_eq_some_iff.1 h3
        cases e1
        have hr:=QF henv has
        have hfr:=henv x _ hfv
        generalize hx:a.eval x=xv at hfr
        cases hfr with
        |fn _ cs _ hcs hcap =>
        have hrr:=hr.append (us:=cs.toList) (bs:=cap) ⟨by simpa using hcs,fun j v b h1 h2=>hcap j v b (by simpa using h1) h2⟩
        refine called g _ _ hco' hrr (fun hh=>?_)
        have e2:(List.map a.eval c.args.toList++cs.toList).toArray=c.args.map a.eval++cs:=by apply Array.ext';simp
        rw [e2]
        simp only [execOp,hop,resolve,hcal,hx,Deferred.ofValue,Sem.run_bind,Sem.run_pure,Result.andThen_ok,invoke,Array.empty_append]
        exact JO hh _
      ·simp at h3
    ·simp at hco
   ·simp at hco
theorem MH {callF:jX} {o:Oper} {loc:Env} {fr:Fr} {a:Act} {r:Res×St} {next:Act→World→Prop} {Q:Exit→Act→World→Prop}
  (hX:Qj P H) (hC:ZD P H W bs callF) (h:WF P W bs σ st w) (hg:qx P H σ) (hf:jy P H f σ nt a loc fr) (hs:ZB P H callF f base o loc fr.env st=some r)
  (hval:∀v x w' σ',r.1 = .val x→σ.Le σ'→WF P W bs σ' r.2 w'→Rep P σ' v x→next (a.put o.dst v) w')
  (hskip:∀w' σ',r.1 = .skip→σ.Le σ'→WF P W bs σ' r.2 w'→next (a.put o.dst undef) w')
  (hdefer:∀g as d w' σ',r.1 = .defer g as→σ.Le σ'→WF P W bs σ' r.2 w'→CJ P σ' d (g,as)→next ({a with defers:=d::a.defers}.put o.dst undef) w')
  (hpan:∀v x w' σ',r.1 = .pan x→σ.Le σ'→WF P W bs σ' r.2 w'→Rep P σ' v x→Q (.panic [{v:=v,recovered:=false}]) a w') :
  o.wp P a w next Q :=
 YL hX hC h hg (hf.eval hg) hs hval hskip hdefer hpan
def HD (P:Program) (σ:Gh):Exit→AX→Prop
 | .normal,.normal=>True
 | .exit i,.exit j=>i=j
 | .goto i,.goto j=>i=j
 | .ret,.ret=>True
 | .panic ch,.panic a=>∃v,ch=[{v:=v,recovered:=false}]∧Rep P σ v a
 |_,_=>False
def jP (P:Program) (H:zN) (W:World) (bs:Nat) (f:FuncId) (nt:Nat) (σ:Gh) (r:AX×Fr×St) (e:Exit) (a:Act) (w:World):Prop :=
 ∃σ',σ.Le σ'∧WF P W bs σ' r.2.2 w∧jy P H f σ' nt a [] r.2.1∧HD P σ' e r.1
theorem jP.up {r:AX×Fr×St} {e:Exit} {a:Act} {w:World} (hl:σ.Le σ') (h:jP P H W bs f nt σ' r e a w):jP P H W bs f nt σ r e a w:=by
 obtain ⟨τ,h1,h2⟩:=h
 exact ⟨τ,hl.trans h1,h2⟩
theorem Mh {o:Oper} {loc:Env} {fr:Fr} {a:Act} {v:Value} {x:AV} {l:Env×Fr×St} (h:WF P W bs σ st w) (hf:jy P H f σ nt a loc fr) (hd:∀d,o.dst=some d→d<nt) (hv:Rep P σ v x)
  (hl:jc H f o (.val x) loc fr st=some l):∃σ',σ.Le σ'∧WF P W bs σ' l.2.2 w∧jy P H f σ' nt (a.put o.dst v) l.1 l.2.1:=by
 unfold jc at hl
 cases hod:o.dst with
 |none =>
  rw [hod] at hl
  simp only [Option.some.injEq] at hl
  subst hl
  exact ⟨σ,.refl _,h,hf⟩
 |some d =>
  rw [hod] at hl
  simp only at hl
  obtain ⟨q,hq,rfl⟩:=map_eq_some_iff.1 hl
  have:∃σ',σ.Le σ'∧WF P W bs σ' q.2 w∧Rep P σ' v q.1:=by
   split at hq
   ·exact Un h hv hq
   ·cases hq;exact ⟨σ,.refl _,h,hv⟩
  obtain ⟨σ',h1,h2,h3⟩:=this
  exact ⟨σ',h1,h2,(hf.mono h1).put (dst:=some d) (fun d' hd'=>hd d' (by rw [hod,hd'])) h3⟩
theorem jZ:Rep P σ undef qm:=.tup #[] [] rfl (by simp)
theorem XN {callF:jX} {ops:Array Oper} (hX:Qj P H) (hC:ZD P H W bs callF) (hdst:∀(i:Nat) o d,ops[i]?=some o→o.dst=some d→d<nt) :
  ∀(l:List Oper) (i:Nat) (loc:Env) (fr:Fr) (st:St) (r:AX×Fr×St) (σ:Gh) (a:Act) (w:World),ops.toList.drop i=l→XP P H callF f base ops l loc fr st=some r→WF P W bs σ st w→qx P H σ→jy P H f σ nt a loc fr →
   wpOps P ops (jP P H W bs f nt σ r) (List.range' i l.length) a w
 |[],i,loc,fr,st,r,σ,a,w,hdrop,ho,h,hg,hf=>by
  simp only [XP,Option.some.injEq] at ho
  subst ho
  exact ⟨σ,.refl _,h,hf.drop,trivial⟩
 |o::rest,i,loc,fr,st,r,σ,a,w,hdrop,ho,h,hg,hf=>by
  have hio:ops[i]?=some o:=by
   have:(ops.toList.drop i)[0]?=some o:=by rw [hdrop];rfl
   rw [List.getElem?_drop] at this
   simpa using this
  have hrest:ops.toList.drop (i+1)=rest:=by
   rw [←List.drop_drop,hdrop];rfl
  have hd:=hdst i o
  simp only [XP] at ho
  obtain ⟨b,hb,h2⟩:=bind_eq_some_iff.1 ho
  have hwant:=Mq hf hb
  simp only [List.length_cons,List.range'_succ,wpOps,hio,hwant]
  cases b with
  |false =>
   simp only [Bool.false_eq_true,if_false] at h2 ⊢
   exact XN hX hC hdst rest (i+1) _ _ _ r σ _ w hrest h2 h hg (hf.put (fun d hd'=>hd d hio hd') jZ)
  |true =>
   simp only [if_true] at h2 ⊢
   obtain ⟨q,hq,h3⟩:=bind_eq_some_iff.1 h2
   left
   refine MH hX hC h hg hf hq (fun v x w' σ' e1 e2 e3 e4=>?_) (fun w' σ' e1 e2 e3=>?_) (fun g as d w' σ' e1 e2 e3 e4=>?_) (fun v x w' σ' e1 e2 e3 e4=>?_)
   ·rw [e1] at h3
    obtain ⟨l,hl,h4⟩:=bind_eq_some_iff.1 h3
    obtain ⟨σ'',k1,k2,k3⟩:=Mh e3 (hf.mono e2) (fun d hd'=>hd d hio hd') e4 hl
    have:=XN hX hC hdst rest (i+1) l.1 l.2.1 l.2.2 r σ'' _ w' hrest h4 k2 (hg.mono (e2.trans k1)) k3
    exact ZJ (fun e a w hh=>hh.up (e2.trans k1)) this
   ·rw [e1] at h3
    obtain ⟨l,hl,h4⟩:=bind_eq_some_iff.1 h3
    simp only [jc,Option.some.injEq] at hl
    subst hl
    have:=XN hX hC hdst rest (i+1) _ _ _ r σ' _ w' hrest h4 e3 (hg.mono e2) ((hf.mono e2).put (fun d hd'=>hd d hio hd') jZ)
    exact ZJ (fun e a w hh=>hh.up e2) this
   ·rw [e1] at h3
    obtain ⟨l,hl,h4⟩:=bind_eq_some_iff.1 h3
    simp only [jc,Option.some.injEq] at hl
    subst hl
    have hf2:jy P H f σ' nt {a with defers:=d::a.defers} loc {fr with defers:=(g,as)::fr.defers}:=⟨(hf.mono e2).env,.cons e4 (hf.mono e2).defs⟩
    have:=XN hX hC hdst rest (i+1) _ _ _ r σ' _ w' hrest h4 e3 (hg.mono e2) (hf2.put (fun d hd'=>hd d hio hd') jZ)
    exact ZJ (fun e a w hh=>hh.up e2) this
   ·rw [e1] at h3
    simp only [Option.some.injEq] at h3
    subst h3
    exact ⟨σ',e2,e3,(hf.mono e2).drop,v,rfl,e4⟩
end
end Go.Abs
namespace Go.Abs
open Go Go.RowKit
section
variable {P:Program} {H:zN} {W:World} {bs:Nat} {σ σ':Gh} {st:St} {w:World} {f:FuncId} {nt base:Nat}
theorem Fd {n:Nat} {vs:Array Value} {row:List AV} (hc:AV.closeds n row=true) (h:∀(j:Nat) v a,vs[j]?=some v→row[j]?=some a→Rep P σ v a) :
  ∀(j:Nat) v a,vs[j]?=some v→row[j]?=some a→Rep P (σ.trunc n) v a:=fun j v a h1 h2=>(h j v a h1 h2).trunc (AV.closeds_at hc h2)
theorem St.get_mem {st:St} {o:Nat} {x:zh} (h:st.get o=some x):x ∈ st:=by
 unfold St.get at h
 split at h
 ·exact List.mem_of_getElem? h
 ·simp at h
theorem WF.truncLe {n:Nat} (h:WF P W bs σ st w) (hn:n≤st.length) (hc:St.closed n (st.trunc n)=true):WF P W bs (σ.trunc n) (st.trunc n) w:=by
 have hget:∀o x,(st.trunc n).get o=some x→o<n∧st.get o=some x∧zh.closed n x=true:=fun o x hx=>by
  have hcl:=List.all_eq_true.1 hc x (St.get_mem hx)
  rw [St.get_trunc hn] at hx
  split at hx
  ·rename_i ho;exact ⟨ho,hx,hcl⟩
  ·simp at hx
 have tR:∀{o e},o<n→(σ.trunc n).R o e=σ.R o e:=fun ho=>by show (if _ then _ else _)=_;rw [if_pos ho]
 have tB:∀{o},o<n→(σ.trunc n).B o=σ.B o:=fun ho=>by show (if _ then _ else _)=_;rw [if_pos ho]
 have tL:∀{o e k},o<n→(σ.trunc n).L o e k=σ.L o e k:=fun ho=>by show (if _ then _ else _)=_;rw [if_pos ho]
 have town:∀{o x b},o<n→Jr (σ.trunc n) o x b→Jr σ o x b:=fun {o x b} ho hx=>by
  cases x with
  |free ep=>exact hx
  |box ty row=>exact (tB ho).symm.trans hx
  |rows kd ep rs=>obtain ⟨y,hy⟩:=hx;exact ⟨y,(tR ho)▸hy⟩
  |spare ep k=>obtain ⟨y,hy⟩:=hx;exact ⟨y,(tL ho)▸hy⟩
  |iter s pos=>exact (tB ho).symm.trans hx
  |amap es=>exact (tB ho).symm.trans hx
 refine ⟨h.below,h.bsle,h.imm,h.shp,fun o x hx=>?_,fun o x hx=>?_,fun o o' x x' b hx hx' h1 h2=>?_,fun o e ho=>?_,fun o ho=>?_,fun o e k ho=>?_,h.lo⟩
 ·obtain ⟨ho,hg,hcl⟩:=hget o x hx
  have hob:=h.obj o x hg
  cases x with
  |free ep=>trivial
  |box ty row =>
   obtain ⟨b,vs,h1,h2,h3,h4,h5,h7,h6⟩:=hob
   exact ⟨b,vs,by rw [tB ho];exact h1,h2,h3,h4,h5,h7,Fd (by simpa [zh.closed] using hcl) h6⟩
  |rows kd ep rs =>
   obtain ⟨b,base,h1,h2,h3,h4,h5,h6⟩:=hob
   refine ⟨b,base,by rw [tR ho];exact h1,h2,h3,h4,h5,fun i r j a q1 q2=>?_⟩
   obtain ⟨v,q3,q4,q5⟩:=h6 i r j a q1 q2
   exact ⟨v,q3,q4,q5.trunc (AV.closeds_at (AV.closedss_at (by simpa [zh.closed] using hcl) q1) q2)⟩
  |spare ep k =>
   obtain ⟨b,s,h1,h2,h3⟩:=hob
   exact ⟨b,s,by rw [tL ho];exact h1,h2,h3⟩
  |iter s pos =>
   obtain ⟨b,s',h1,h2⟩:=hob
   exact ⟨b,s',by rw [tB ho];exact h1,h2⟩
  |amap es =>
   obtain ⟨b,ents,clock,h1,h2,h3,h4,h5⟩:=hob
   refine ⟨b,ents,clock,by rw [tB ho];exact h1,h2,h3,h4,fun i e p q1 q2=>?_⟩
   have:=List.all_eq_true.1 (show (es.all fun p=>AV.closed n p.1&&AV.closed n p.2)=true from hcl) p (List.mem_of_getElem? q2)
   simp only [Bool.and_eq_true] at this
   obtain ⟨q3,q4⟩:=h5 i e p q1 q2
   exact ⟨q3.trunc this.1,q4.trunc this.2⟩
 ·obtain ⟨ho,hg,hcl⟩:=hget o x hx
  have hf:=h.fresh o x hg
  cases x with
  |free ep=>exact ⟨fun e he=>by rw [tR ho];exact hf.1 e he,fun e k he=>by rw [tL ho];exact hf.2 e k he⟩
  |rows kd ep rs=>exact ⟨fun e he=>by rw [tR ho];exact hf.1 e he,fun e k he=>by rw [tL ho];exact hf.2 e k he⟩
  |spare ep k=>exact ⟨fun e he=>by rw [tR ho];exact hf.1 e he,fun e k he=>by rw [tL ho];exact hf.2.1 e k he,fun k hk=>by rw [tL ho];exact hf.2.2 k hk⟩
  |_=>trivial
 ·obtain ⟨ho,hg,_⟩:=hget o x hx
  obtain ⟨ho',hg',_⟩:=hget o' x' hx'
  exact h.sep o o' x x' b hg hg' (town ho h1) (town ho' h2)
 ·rw [St.length_trunc hn] at ho
  show (if o<n then _ else _)=_
  rw [if_neg (by omega)]
 ·rw [St.length_trunc hn] at ho
  show (if o<n then _ else _)=_
  rw [if_neg (by omega)]
 ·rw [St.length_trunc hn] at ho
  show (if o<n then _ else _)=_
  rw [if_neg (by omega)]
theorem WF.trunc {n:Nat} (h:WF P W bs σ st w) (hc:St.closed n (st.trunc n)=true):WF P W bs (σ.trunc n) (st.trunc n) w:=by
 rcases Nat.le_total n st.length with hn | hn
 ·exact h.truncLe hn hc
 ·have e1:st.trunc n=st:=by unfold St.trunc;rw [show st.length - n=0 by omega];rfl
  have e2:σ.trunc n=σ:=by
   obtain ⟨I,sh,R,B,L,lo⟩:=σ
   unfold Gh.trunc
   congr 1
   ·funext o e
    split
    ·rfl
    ·exact (h.idR o e (by omega)).symm
   ·funext o
    split
    ·rfl
    ·exact (h.idB o (by omega)).symm
   ·funext t e k
    split
    ·rfl
    ·exact (h.idL t e k (by omega)).symm
  rw [e1,e2];exact h
def qi (H:zN) (f:FuncId) (nt:Nat):Code→Bool
 | .region id ops d=>(ops.toList.all fun o=>match o.dst with | some d=>decide (d<nt) | none=>true)&&(!d||WG H f id ops)
 | .seq a b=>qi H f nt a&&qi H f nt b
 | .cond _ a b=>qi H f nt a&&qi H f nt b
 | .block _ b=>qi H f nt b
 | .loop b=>qi H f nt b
 | .rangeFunc _ _ a b=>qi H f nt a&&qi H f nt b
 | .scope b=>qi H f nt b
 |_=>true
theorem JQ:∀{c rest:Code} {l:Nat},qi H f nt c=true→findLabel c l=some rest→qi H f nt rest=true
 | .seq a b,rest,l,h,hl=>by
  simp only [qi,Bool.and_eq_true] at h
  simp only [findLabel] at hl
  split at hl
  ·rename_i r hr
   cases hl
   simp only [qi,Bool.and_eq_true]
   exact ⟨JQ h.1 hr,h.2⟩
  ·exact JQ h.2 hl
 | .label l',rest,l,h,hl=>by
  simp only [findLabel] at hl
  split at hl
  ·cases hl;rfl
  ·simp at hl
 | .skip,_,_,_,hl=>by simp [findLabel] at hl
 | .region _ _ _,_,_,_,hl=>by simp [findLabel] at hl
 | .cond _ _ _,_,_,_,hl=>by simp [findLabel] at hl
 | .block _ _,_,_,_,hl=>by simp [findLabel] at hl
 | .loop _,_,_,_,hl=>by simp [findLabel] at hl
 | .rangeFunc _ _ _ _,_,_,_,hl=>by simp [findLabel] at hl
 | .exit _,_,_,_,hl=>by simp [findLabel] at hl
 | .scope _,_,_,_,hl=>by simp [findLabel] at hl
 | .goto _,_,_,_,hl=>by simp [findLabel] at hl
 | .ret,_,_,_,hl=>by simp [findLabel] at hl
 | .refuse _,_,_,_,hl=>by simp [findLabel] at hl
def Du (H:zN) (f:FuncId) (nt:Nat):YR→Bool
 | .code c=>qi H f nt c
 | .round c=>qi H f nt c
 | .resume body rest=>qi H f nt body&&qi H f nt rest
def zam (P:Program) (Q:Exit→Act→World→Prop) (a:Act) (w:World):YR→Prop
 | .code c=>c.wp P Q a w
 | .round body=>∀(b:Frame) (k:List Item) (cs:List Frame),∃e a' w',Q e a' w'∧Arrives P (lone (b.at a (.inLoop body::k)) cs w) b k cs e a' w'
 | .resume body rest=>∀(b:Frame) (k:List Item) (cs:List Frame),∃e a' w',Q e a' w'∧Arrives P (lone (b.at a (.code rest::.inScope body::k)) cs w) b k cs e a' w'
abbrev Yb:=YR→Fr→St→Option (AX×Fr×St)
def Qo (P:Program) (H:zN) (W:World) (bs:Nat) (f:FuncId) (nt:Nat) (again:Yb):Prop :=
 ∀t fr st r,Du H f nt t=true→again t fr st=some r→∀σ a w,WF P W bs σ st w→qx P H σ→jy P H f σ nt a [] fr→zam P (jP P H W bs f nt σ r) a w t
def Js (P:Program) (H:zN) (W:World) (bs:Nat) (f:FuncId) (nt base:Nat) (callF:jX):Prop :=
 ∀id ops draw fr st r,qi H f nt (.region id ops draw)=true→Zi P H callF f base id ops draw fr st=some r→∀σ a w,WF P W bs σ st w→qx P H σ→jy P H f σ nt a [] fr→(Code.region id ops draw).wp P (jP P H W bs f nt σ r) a w
theorem KE {n:Nat} {fr:Fr} {e:Fr×St} {a:Act} {σ0:Gh} {st0:St} {w0:World} (h0:WF P W bs σ0 st0 w0) (hl:σ0.Le σ) (h:WF P W bs σ st w) (hn:st0.length=n)
  (hf:jy P H f σ nt a [] fr) (hr:Yc H f n fr st=some e):∃σ',σ0.Le σ'∧WF P W bs σ' e.2 w∧jy P H f σ' nt a [] e.1:=by
 unfold Yc at hr
 split at hr
 ·cases hr;exact ⟨σ,hl,h,hf⟩
 ·split at hr
  ·rename_i hc
   cases hr
   simp only [Bool.and_eq_true] at hc
   refine ⟨σ.trunc n,hl.trunc (fun o e ho=>h0.idR o e (by omega)) (fun o ho=>h0.idB o (by omega)) (fun o e k ho=>h0.idL o e k (by omega)),h.trunc hc.1,?_,?_⟩
   ·have hf':=hf.env.filter (p:=fun p=>AV.closed n p.2)
    refine ⟨hf'.size,fun t v hv=>(hf'.val t v hv).trunc ?_,hf'.loc,hf'.kept,hf'.srt⟩
    exact (Env.get_filter hf.env.srt (by simpa [look,Env.get] using hv)).2
   ·have hd:=hc.2
    have key:∀{ds:List Deferred} {ps:List (FuncId×List AV)},jE P σ ds ps→(ps.all fun d=>AV.closeds n d.2)=true→jE P (σ.trunc n) ds ps:=by
     intro ds ps hds
     induction hds with
     |nil=>intro _;exact .nil
     |cons hh _ ih =>
      intro hall
      simp only [List.all_cons,Bool.and_eq_true] at hall
      obtain ⟨cap,args,rfl,hr⟩:=hh
      exact .cons ⟨cap,args,rfl,hr.1,fun j v a h1 h2=>(hr.2 j v a h1 h2).trunc (AV.closeds_at hall.1 h2)⟩ (ih hall.2)
    exact key hf.defs hd
  ·simp at hr
theorem jy.live {a:Act} {fr:Fr} (h:jy P H f σ nt a [] fr) (c:Code):jy P H f σ nt a [] (Jj H f c fr):=by
 unfold Jj
 split
 ·exact h
 ·exact ⟨h.env.filter,h.defs⟩
theorem Gp {n:Nat} {body:Code} {fr:Fr} {e:Fr×St} {a:Act} {σ0:Gh} {st0:St} {w0:World} (h0:WF P W bs σ0 st0 w0) (hl:σ0.Le σ) (h:WF P W bs σ st w) (hn:st0.length=n)
  (hf:jy P H f σ nt a [] fr) (hr:Zo H f body n fr st=some e):∃σ',σ0.Le σ'∧WF P W bs σ' e.2 w∧jy P H f σ' nt a [] e.1:=by
 obtain ⟨q,hq,rfl⟩:=map_eq_some_iff.1 hr
 obtain ⟨σ',h1,h2,h3⟩:=KE h0 hl h hn hf hq
 exact ⟨σ',h1,h2,h3.live body⟩
theorem GE {again:Yb} (hA:Qo P H W bs f nt again) (body:Code) {st:St} {q r:AX×Fr×St} {σ:Gh} {a:Act} {w:World} (hc:qi H f nt body=true) (h:WF P W bs σ st w)
  (hb:body.wp P (jP P H W bs f nt σ q) a w)
  (h2:(match q.1 with | .normal=>(Zo H f body st.length q.2.1 q.2.2).bind fun e=>again (.round body) e.1 e.2 | _=>some q)=some r) (hg:qx P H σ) (b:Frame) (k:List Item) (cs:List Frame) :
  ∃e a' w',jP P H W bs f nt σ r e a' w'∧Arrives P (lone (b.at a (.code body::.inLoop body::k)) cs w) b k cs e a' w':=by
 obtain ⟨e,a₁,w₁,hp,harr⟩:=hb b (.inLoop body::k) cs
 obtain ⟨σ',p1,p2,p3,p4⟩:=hp
 obtain ⟨ax,fr',st'⟩:=q
 cases ax with
 |normal =>
  cases e<;>first | exact p4.elim | skip
  obtain ⟨ee,hee,h3⟩:=bind_eq_some_iff.1 h2
  obtain ⟨σ'',k1,k2,k3⟩:=Gp h p1 p2 rfl p3 hee
  have:=hA (.round body) ee.1 ee.2 r hc h3 σ'' a₁ w₁ k2 (hg.mono k1) k3
  obtain ⟨e₂,a₂,w₂,hq₂,harr₂⟩:=this b k cs
  exact ⟨e₂,a₂,w₂,hq₂.up k1,.of_steps harr harr₂⟩
 |exit i=>simp only [Option.some.injEq] at h2;subst h2;cases e<;>first | exact p4.elim | exact ⟨_,a₁,w₁,⟨σ',p1,p2,p3,p4⟩,.pass (x:=.inLoop body) rfl (fun _ _=>.inl (by simp)) harr⟩
 |goto i=>simp only [Option.some.injEq] at h2;subst h2;cases e<;>first | exact p4.elim | exact ⟨_,a₁,w₁,⟨σ',p1,p2,p3,p4⟩,.pass (x:=.inLoop body) rfl (fun _ _=>.inl (by simp)) harr⟩
 |ret=>simp only [Option.some.injEq] at h2;subst h2;cases e<;>first | exact p4.elim | exact ⟨_,a₁,w₁,⟨σ',p1,p2,p3,p4⟩,.pass (x:=.inLoop body) rfl (fun _ _=>.inl (by simp)) harr⟩
 |panic v=>simp only [Option.some.injEq] at h2;subst h2;cases e<;>first | exact p4.elim | exact ⟨_,a₁,w₁,⟨σ',p1,p2,p3,p4⟩,.pass (x:=.inLoop body) rfl (fun _ _=>.inl (by simp)) harr⟩
theorem Vh {again:Yb} (hA:Qo P H W bs f nt again) (body c:Code) {q r:AX×Fr×St} {σ:Gh} {a:Act} {w:World} (hc:qi H f nt body=true)
  (hb:c.wp P (jP P H W bs f nt σ q) a w)
  (h2:(match q.1 with | .goto l=>(match findLabel body l with | some rest=>again (.resume body rest) q.2.1 q.2.2 | none=>some q) | _=>some q)=some r) (hg:qx P H σ) (b:Frame) (k:List Item) (cs:List Frame) :
  ∃e a' w',jP P H W bs f nt σ r e a' w'∧Arrives P (lone (b.at a (.code c::.inScope body::k)) cs w) b k cs e a' w':=by
 obtain ⟨e,a₁,w₁,hp,harr⟩:=hb b (.inScope body::k) cs
 obtain ⟨σ',p1,p2,p3,p4⟩:=hp
 obtain ⟨ax,fr',st'⟩:=q
 cases ax with
 |normal=>simp only [Option.some.injEq] at h2;subst h2;cases e<;>first | exact p4.elim | exact ⟨.normal,a₁,w₁,⟨σ',p1,p2,p3,p4⟩,Steps.trans harr (.one step_inScope)⟩
 |exit i =>
  simp only [Option.some.injEq] at h2;subst h2
  cases e<;>first | exact p4.elim | skip
  exact ⟨_,a₁,w₁,⟨σ',p1,p2,p3,p4⟩,fun k' hk=>harr k' (by simp [exitTo,hk])⟩
 |goto l =>
  cases e<;>first | exact p4.elim | skip
  rename_i l'
  have hll:l'=l:=p4
  subst hll
  simp only at h2
  split at h2
  ·rename_i rest hf
   have:=hA (.resume body rest) fr' st' r (by simp only [Du,Bool.and_eq_true];exact ⟨hc,JQ hc hf⟩) h2 σ' a₁ w₁ p2 (hg.mono p1) p3
   obtain ⟨e₂,a₂,w₂,hq₂,harr₂⟩:=this b k cs
   exact ⟨e₂,a₂,w₂,hq₂.up p1,.of_steps (harr _ (by simp [gotoIn,hf])) harr₂⟩
  ·rename_i hf
   simp only [Option.some.injEq] at h2;subst h2
   exact ⟨.goto l',a₁,w₁,⟨σ',p1,p2,p3,rfl⟩,fun k' hk=>harr k' (by simp [gotoIn,hf,hk])⟩
 |ret=>simp only [Option.some.injEq] at h2;subst h2;cases e<;>first | exact p4.elim | exact ⟨_,a₁,w₁,⟨σ',p1,p2,p3,p4⟩,harr⟩
 |panic v=>simp only [Option.some.injEq] at h2;subst h2;cases e<;>first | exact p4.elim | exact ⟨_,a₁,w₁,⟨σ',p1,p2,p3,p4⟩,harr⟩
theorem ji {callF:jX} {again:Yb} (hR:Js P H W bs f nt base callF) (hA:Qo P H W bs f nt again) :
  ∀(c:Code) (fr:Fr) (st:St) (r:AX×Fr×St) (σ:Gh) (a:Act) (w:World),qi H f nt c=true→qd P H callF again f base c fr st=some r→WF P W bs σ st w→qx P H σ→jy P H f σ nt a [] fr →
   c.wp P (jP P H W bs f nt σ r) a w
 | .skip,fr,st,r,σ,a,w,hc,he,h,hg,hf=>by
  simp only [qd,Option.some.injEq] at he
  subst he
  exact wp_skip ⟨σ,.refl _,h,hf,trivial⟩
 | .label l,fr,st,r,σ,a,w,hc,he,h,hg,hf=>by
  simp only [qd,Option.some.injEq] at he
  subst he
  exact wp_label ⟨σ,.refl _,h,hf,trivial⟩
 | .region id ops draw,fr,st,r,σ,a,w,hc,he,h,hg,hf=>hR id ops draw fr st r hc he σ a w h hg hf
 | .seq x y,fr,st,r,σ,a,w,hc,he,h,hg,hf=>by
  simp only [qi,Bool.and_eq_true] at hc
  simp only [qd] at he
  obtain ⟨q,hq,h2⟩:=bind_eq_some_iff.1 he
  refine wp_seq (wp_mono (ji hR hA x fr st q σ a w hc.1 hq h hg hf) fun e a' w' hp=>?_)
  obtain ⟨σ',p1,p2,p3,p4⟩:=hp
  obtain ⟨ax,fr',st'⟩:=q
  cases ax with
  |normal =>
   cases e<;>first | exact p4.elim | skip
   exact wp_mono (ji hR hA y _ st' r σ' a' w' hc.2 h2 p2 (hg.mono p1) (p3.live y)) fun e a w hh=>hh.up p1
  |exit i=>simp only [Option.some.injEq] at h2;subst h2;cases e<;>first | exact p4.elim | exact ⟨σ',p1,p2,p3,p4⟩
  |goto i=>simp only [Option.some.injEq] at h2;subst h2;cases e<;>first | exact p4.elim | exact ⟨σ',p1,p2,p3,p4⟩
  |ret=>simp only [Option.some.injEq] at h2;subst h2;cases e<;>first | exact p4.elim | exact ⟨σ',p1,p2,p3,p4⟩
  |panic v=>simp only [Option.some.injEq] at h2;subst h2;cases e<;>first | exact p4.elim | exact ⟨σ',p1,p2,p3,p4⟩
 | .cond c x y,fr,st,r,σ,a,w,hc,he,h,hg,hf=>by
  simp only [qi,Bool.and_eq_true] at hc
  simp only [qd] at he
  obtain ⟨v,hv,h2⟩:=bind_eq_some_iff.1 he
  have hr:=hf.eval hg c v hv
  split at h2
  ·rename_i t
   generalize hx:a.eval c=xv at hr
   cases hr
   refine wp_cond_split hx (fun ht=>?_) (fun ht=>?_)
   ·subst ht;exact ji hR hA x fr st r σ a w hc.1 h2 h hg hf
   ·subst ht;exact ji hR hA y fr st r σ a w hc.2 h2 h hg hf
  ·simp at h2
 | .block id body,fr,st,r,σ,a,w,hc,he,h,hg,hf=>by
  simp only [qd] at he
  obtain ⟨q,hq,h2⟩:=map_eq_some_iff.1 he
  refine wp_block (wp_mono (ji hR hA body fr st q σ a w hc hq h hg hf) fun e a' w' hp=>?_)
  obtain ⟨σ',p1,p2,p3,p4⟩:=hp
  obtain ⟨ax,fr',st'⟩:=q
  cases ax with
  |normal=>subst h2;cases e<;>first | exact p4.elim | exact ⟨σ',p1,p2,p3,p4⟩
  |exit i =>
   cases e<;>first | exact p4.elim | skip
   rename_i i'
   have hii:i'=i:=p4
   subst hii
   simp only [Exit.inBlock]
   simp only at h2
   split
   ·rename_i hid
    rw [if_pos hid] at h2
    subst h2
    exact ⟨σ',p1,p2,p3,trivial⟩
   ·rename_i hid
    rw [if_neg hid] at h2
    subst h2
    exact ⟨σ',p1,p2,p3,rfl⟩
  |goto i=>subst h2;cases e<;>first | exact p4.elim | exact ⟨σ',p1,p2,p3,p4⟩
  |ret=>subst h2;cases e<;>first | exact p4.elim | exact ⟨σ',p1,p2,p3,p4⟩
  |panic v=>subst h2;cases e<;>first | exact p4.elim | exact ⟨σ',p1,p2,p3,p4⟩
 | .loop body,fr,st,r,σ,a,w,hc,he,h,hg,hf=>by
  simp only [qd] at he
  obtain ⟨q,hq,h2⟩:=bind_eq_some_iff.1 he
  have hb:=ji hR hA body fr st q σ a w hc hq h hg hf
  intro b k cs
  obtain ⟨e,a',w',hq',harr⟩:=GE hA body hc h hb h2 hg b k cs
  exact ⟨e,a',w',hq',.of_steps (.one step_loop) harr⟩
 | .scope body,fr,st,r,σ,a,w,hc,he,h,hg,hf=>by
  simp only [qd] at he
  obtain ⟨q,hq,h2⟩:=bind_eq_some_iff.1 he
  have hb:=ji hR hA body fr st q σ a w hc hq h hg hf
  intro b k cs
  obtain ⟨e,a',w',hq',harr⟩:=Vh hA body body hc hb h2 hg b k cs
  exact ⟨e,a',w',hq',.of_steps (.one step_scope) harr⟩
 | .exit id,fr,st,r,σ,a,w,hc,he,h,hg,hf=>by
  simp only [qd,Option.some.injEq] at he
  subst he
  exact wp_exit ⟨σ,.refl _,h,hf,rfl⟩
 | .goto l,fr,st,r,σ,a,w,hc,he,h,hg,hf=>by
  simp only [qd,Option.some.injEq] at he
  subst he
  exact wp_goto ⟨σ,.refl _,h,hf,rfl⟩
 | .ret,fr,st,r,σ,a,w,hc,he,h,hg,hf=>by
  simp only [qd,Option.some.injEq] at he
  subst he
  exact wp_ret ⟨σ,.refl _,h,hf,trivial⟩
 | .rangeFunc ..,fr,st,r,σ,a,w,hc,he,h,hg,hf=>by simp [qd] at he
 | .refuse _,fr,st,r,σ,a,w,hc,he,h,hg,hf=>by simp [qd] at he
theorem HB {callF:jX} {again:Yb} (hR:Js P H W bs f nt base callF) (hA:Qo P H W bs f nt again):Qo P H W bs f nt (Xa P H callF again f base):=by
 intro t fr st r ht he σ a w h hg hf
 cases t with
 |code c=>exact ji hR hA c fr st r σ a w ht he h hg hf
 |round body =>
  simp only [Xa,qd] at he
  obtain ⟨q,hq,h2⟩:=bind_eq_some_iff.1 he
  have hb:=ji hR hA body fr st q σ a w ht hq h hg hf
  intro b k cs
  obtain ⟨e,a',w',hq',harr⟩:=GE hA body ht h hb h2 hg b k cs
  exact ⟨e,a',w',hq',.of_steps (.one step_inLoop) harr⟩
 |resume body rest =>
  simp only [Du,Bool.and_eq_true] at ht
  simp only [Xa] at he
  obtain ⟨q,hq,h2⟩:=bind_eq_some_iff.1 he
  have hb:=ji hR hA rest fr st q σ a w ht.2 hq h hg hf
  intro b k cs
  exact Vh hA body rest ht.1 hb h2 hg b k cs
end
end Go.Abs
namespace Go.Abs
open Go Go.RowKit
section
variable {P:Program} {H:zN} {W:World} {bs:Nat} {σ σ':Gh} {st:St} {w:World} {f:FuncId} {nt base:Nat}
theorem QG {tmps:Array Value} {env:Env} (h:WF P W bs σ st w) (he:ZU P H f σ nt tmps [] env):∀{rs:List ResultVar} {as:List AV},qF P env st rs=some as →
  ∃vs:List Value,(rs.mapM (fun (x:ResultVar)=>(match x with
   | .tmp t=>pure (tmps.getD t undef)
   | .cell a t=>do loadVar t (←asAddr (tmps.getD a undef)):Sem Value))).run P w = .ok vs w∧qX P σ vs as
 |[],as,hr=>by
  simp only [qF,Option.some.injEq] at hr
  subst hr
  exact ⟨[],rfl,.nil⟩
 | .tmp t::rs,as,hr=>by
  simp only [qF] at hr
  obtain ⟨v,hv,h2⟩:=bind_eq_some_iff.1 hr
  obtain ⟨as',has,rfl⟩:=map_eq_some_iff.1 h2
  obtain ⟨vs,h3,h4⟩:=QG h he has
  refine ⟨tmps.getD t undef::vs,?_,.cons (he.val t v (by simpa [look,Env.get] using hv)) h4⟩
  rw [List.mapM_cons]
  simp only [Sem.run_bind,Sem.run_pure,Result.andThen_ok,h3]
 | .cell a t::rs,as,hr=>by
  simp only [qF] at hr
  obtain ⟨p,hp,h2⟩:=bind_eq_some_iff.1 hr
  obtain ⟨v,hv,h3⟩:=bind_eq_some_iff.1 h2
  obtain ⟨as',has,rfl⟩:=map_eq_some_iff.1 h3
  obtain ⟨vs,h4,h5⟩:=QG h he has
  obtain ⟨u,h6,h7⟩:=Nm h (he.val a p (by simpa [look,Env.get] using hp)) hv
  have h8:(do loadVar t (←asAddr (tmps.getD a undef)):Sem Value).run P w = .ok u w:=by
   generalize tmps.getD a undef=x at h6
   simp only [Instr.loadAt,Sem.run_bind] at h6
   cases x with
   |pointer q =>
    cases q with
    |none=>simp [Instr.sureAddr] at h6
    |some q=>simpa [Instr.sureAddr,asAddr] using h6
   |_=>simp [Instr.sureAddr] at h6
  refine ⟨u::vs,?_,.cons h7 h5⟩
  rw [List.mapM_cons]
  simp only [Sem.run_bind,Sem.run_pure,Result.andThen_ok,h4]
  simp only [Sem.run_bind] at h8
  rw [h8]
  simp only [Result.andThen_ok,h4]
def zaL (as:List AV):AV:=match as with | [v]=>v | vs=>.tup vs
theorem Ya {fn:Func} {tmps:Array Value} {env:Env} {as:List AV} (h:WF P W bs σ st w) (he:ZU P H f σ nt tmps [] env) (hr:qF P env st fn.results.toList=some as) :
  ∃v,(results fn tmps).run P w = .ok v w∧Rep P σ v (zaL as):=by
 obtain ⟨vs,h1,h2⟩:=QG h he hr
 have hm:(fn.results.mapM (fun (x:ResultVar)=>(match x with
   | .tmp t=>pure (tmps.getD t undef)
   | .cell a t=>do loadVar t (←asAddr (tmps.getD a undef)):Sem Value))).run P w = .ok vs.toArray w:=by
  rw [show fn.results=fn.results.toList.toArray from rfl,List.mapM_toArray,Sem.run_map,h1]
  rfl
 refine ⟨if h:vs.toArray.size=1 then vs.toArray[0] else .tuple vs.toArray,?_,?_⟩
 ·unfold results
  rw [Sem.run_bind]
  exact Eq.trans (congrArg (fun r=>Result.andThen r (fun (a:Array Value) w'=>(pure (if h:a.size=1 then a[0] else Value.tuple a):Sem Value).run P w')) hm) rfl
 ·match as,h2 with
  |[a],h2 =>
   obtain ⟨v,rfl,h3⟩:=h2.one
   exact h3
  |[],h2 =>
   have:vs=[]:=List.length_eq_zero_iff.1 h2.1
   subst this
   exact .tup #[] [] rfl (by simp)
  |a::b::r,h2 =>
   have hl:vs.length=r.length+2:=by rw [h2.1];rfl
   have hne:¬vs.toArray.size=1:=by simp;omega
   rw [dif_neg hne]
   exact .tup _ _ (by simpa using h2.1) (fun j v a h1' h2'=>h2.2 j v a (by simpa using h1') h2')
def Uy (P:Program) (σ:Gh):Ending→zd→Prop
 | .returned v,.ret a=>Rep P σ v a
 | .panicked ch,.pan a=>∃v,ch=[{v:=v,recovered:=false}]∧Rep P σ v a
 |_,_=>False
def Mk (P:Program) (W:World) (bs:Nat) (σ:Gh) (o:zd) (st':St) (e:Ending) (w':World):Prop:=∃σ',σ.Le σ'∧WF P W bs σ' st' w'∧Uy P σ' e o
theorem Mk.ok {o:zd} {e:Ending} (h:Mk P W bs σ o st e w):VR P W bs σ o st e w:=by
 obtain ⟨σ',h1,h2,h3⟩:=h
 cases e with
 |returned v=>cases o with
  |ret a=>exact ⟨a,σ',rfl,h1,h2,h3⟩
  |pan a=>exact h3.elim
 |panicked ch=>cases o with
  |ret a=>exact h3.elim
  |pan a=>obtain ⟨v,rfl,h4⟩:=h3;exact ⟨a,v,σ',rfl,rfl,h1,h2,h4⟩
 |outgrown=>cases o<;>exact h3.elim
theorem Rep.stripN {n:Nat} {v:Value} {a:AV} (h:Rep P σ v a):Rep P σ v (AV.stripN n a):=by
 unfold AV.stripN
 split
 ·rename_i kd rows off len t ep
  split
  ·exact h
  ·exact h.strip
 ·exact h
theorem Rep.stripR {n:Nat} {v:Value} {a:AV} (h:Rep P σ v a):Rep P σ v (AV.stripR n a):=by
 unfold AV.stripR
 split
 ·rename_i as
  cases h with
  |agg cs _ hs h1 hR =>
   refine .agg cs _ (by simpa using hs) h1 (fun j v a q1 q2=>?_)
   rw [List.getElem?_map] at q2
   obtain ⟨b,hb,rfl⟩:=map_eq_some_iff.1 q2
   exact (hR j v b q1 hb).stripN
 ·rename_i as
  cases h with
  |tup cs _ hs hR =>
   refine .tup cs _ (by simpa using hs) (fun j v a q1 q2=>?_)
   rw [List.getElem?_map] at q2
   obtain ⟨b,hb,rfl⟩:=map_eq_some_iff.1 q2
   have hr:=hR j v b q1 hb
   split
   ·rename_i bs'
    cases hr with
    |agg cs' _ hs' h1' hR' =>
     refine .agg cs' _ (by simpa using hs') h1' (fun j v a q1 q2=>?_)
     rw [List.getElem?_map] at q2
     obtain ⟨b,hb,rfl⟩:=map_eq_some_iff.1 q2
     exact (hR' j v b q1 hb).stripN
   ·exact hr.stripN
 ·exact h.stripN
theorem En {n:Nat} {σ0:Gh} {st0:St} {w0:World} {o:zd} {e:Ending} {r:zd×St} (h0:WF P W bs σ0 st0 w0) (hn:st0.length=n) (hl:σ0.Le σ) (h:WF P W bs σ st w) (ho:Uy P σ e o)
  (hr:Cn H f n o st=some r):Mk P W bs σ0 r.1 r.2 e w:=by
 unfold Cn at hr
 split at hr
 ·cases hr;exact ⟨σ,hl,h,ho⟩
 ·have hl':=hl.trunc (n:=n) (fun o e ho=>h0.idR o e (by omega)) (fun o ho=>h0.idB o (by omega)) (fun o e k ho=>h0.idL o e k (by omega))
  split at hr
  ·rename_i v
   simp only at hr
   split at hr
   ·rename_i hc
    simp only [Bool.and_eq_true] at hc
    cases hr
    refine ⟨_,hl',h.trunc hc.2,?_⟩
    cases e with
    |returned u=>exact (Rep.stripR ho).trunc hc.1
    |_=>exact ho.elim
   ·simp at hr
  ·rename_i v
   split at hr
   ·rename_i hc
    simp only [Bool.and_eq_true] at hc
    cases hr
    refine ⟨_,hl',h.trunc hc.2,?_⟩
    cases e with
    |panicked ch =>
     obtain ⟨u,rfl,h4⟩:=ho
     exact ⟨u,rfl,h4.trunc hc.1⟩
    |_=>exact ho.elim
   ·simp at hr
def ZE (P:Program) (σ:Gh):zo→FrameMode→Prop
 | .ret,.returning=>True
 | .pan a,.panicking ch=>∃v,ch=[{v:=v,recovered:=false}]∧Rep P σ v a
 | .recd a,.panicking ch=>∃v,ch=[{v:=v,recovered:=true}]∧Rep P σ v a
 |_,_=>False
theorem ZE.mono {m:zo} {u:FrameMode} (h:ZE P σ m u) (hl:σ.Le σ'):ZE P σ' m u:=by
 cases m<;>cases u<;>first | exact h.elim | trivial | (obtain ⟨v,rfl,h2⟩:=h;exact ⟨v,rfl,h2.mono hl⟩)
abbrev Co:=FuncId→List AV→St→zo→Option (zd×St×zo)
def KC (P:Program) (H:zN) (W:World) (bs:Nat) (callD:Co):Prop :=
 ∀g as st m r,callD g as st m=some r→Has P g∧∀σ w vs u,WF P W bs σ st w→qx P H σ→qX P σ vs as→ZE P σ m u →
  CallsD P g vs.toArray u w fun e u' w'=>∃σ',σ.Le σ'∧WF P W bs σ' r.2.1 w'∧Uy P σ' e r.1∧ZE P σ' r.2.2 u'
theorem ZC {fn:Func} {tmps:Array Value} {R R':Ending→World→Prop} (h:∀e w,R e w→R' e w):∀{ds:List Deferred} {u:FrameMode} {w:World},Leaves P fn tmps R ds u w→Leaves P fn tmps R' ds u w
 |[],.returning,w,hl=>let ⟨v,h1,h2⟩:=hl;⟨v,h1,h _ _ h2⟩
 |[],.panicking ch,w,hl=>h _ _ hl
 |[],.run,w,hl=>hl.elim
 |d::ds,u,w,hl=>by
  obtain ⟨h1,fv,cap,f,args,h2,h3,h4⟩:=hl
  refine ⟨h1,fv,cap,f,args,h2,h3,h4.mono fun e u' w' he=>?_⟩
  cases e with
  |returned v=>exact ZC h he
  |panicked ch=>exact ZC h he
  |outgrown=>exact h _ _ he
theorem Jk {callD:Co} {fn:Func} {tmps:Array Value} {env:Env} (hD:KC P H W bs callD):∀(das:List (FuncId×List AV)) (ds:List Deferred) (m:zo) (u:FrameMode) (st:St) (r:zd×St) (σ:Gh) (w:World),
  zW P callD fn env das m st=some r→jE P σ ds das→ZE P σ m u→WF P W bs σ st w→qx P H σ→ZU P H f σ nt tmps [] env →
  Leaves P fn tmps (Mk P W bs σ r.1 r.2) ds u w
 |[],ds,m,u,st,r,σ,w,hl,hds,hm,h,hg,he=>by
  cases hds
  cases m with
  |ret =>
   cases u<;>first | exact hm.elim | skip
   simp only [zW] at hl
   obtain ⟨vs,hvs,rfl⟩:=map_eq_some_iff.1 hl
   obtain ⟨v,h1,h2⟩:=Ya h he hvs
   exact ⟨v,h1,σ,.refl _,h,h2⟩
  |pan a =>
   cases u<;>first | exact hm.elim | skip
   simp only [zW,Option.some.injEq] at hl
   subst hl
   exact ⟨σ,.refl _,h,hm⟩
  |recd a=>simp [zW] at hl
 |(g,as)::das,ds,m,u,st,r,σ,w,hl,hds,hm,h,hg,he=>by
  cases hds with
  |cons hd hds =>
  obtain ⟨cap,args,rfl,hr⟩:=hd
  simp only [zW] at hl
  obtain ⟨q,hq,h2⟩:=bind_eq_some_iff.1 hl
  obtain ⟨hh,hcall⟩:=hD g as st m q hq
  have hu:u≠.run:=fun e=>by subst e;cases m<;>exact hm.elim
  refine leaves_cons hu (f:=g) (args:=(args.toList++cap.toList).toArray) ?_ ((hcall σ w _ u h hg hr hm).mono fun e u' w' he'=>?_)
  ·have e2:(args.toList++cap.toList).toArray=args++cap:=by apply Array.ext';simp
   rw [e2]
   exact JO hh _
  ·obtain ⟨σ',k1,k2,k3,k4⟩:=he'
   obtain ⟨o,st',m'⟩:=q
   cases o with
   |ret x =>
    cases e<;>first | exact k3.elim | skip
    simp only at h2
    have hset:ZE P σ' (VK m') (settle u'):=by
     cases m' with
     |ret=>cases u'<;>first | exact k4.elim | trivial
     |pan a=>cases u'<;>first | exact k4.elim | (obtain ⟨v,rfl,h3⟩:=k4;exact ⟨v,rfl,h3⟩)
     |recd a=>cases u'<;>first | exact k4.elim | (obtain ⟨v,rfl,h3⟩:=k4;trivial)
    have:=Jk hD das _ _ _ _ r σ' w' h2 (hds.mono k1) hset k2 (hg.mono k1) (he.mono k1)
    exact ZC (fun e w hh=>let ⟨τ,t1,t2⟩:=hh;⟨τ,k1.trans t1,t2⟩) this
   |pan x =>
    cases e<;>first | exact k3.elim | skip
    obtain ⟨v,rfl,h3⟩:=k3
    cases m' with
    |ret =>
     cases u'<;>first | exact k4.elim | skip
     simp only at h2
     have:=Jk hD das _ (.pan x) (.panicking [{v:=v,recovered:=false}]) _ r σ' w' h2 (hds.mono k1) ⟨v,rfl,h3⟩ k2 (hg.mono k1) (he.mono k1)
     exact ZC (fun e w hh=>let ⟨τ,t1,t2⟩:=hh;⟨τ,k1.trans t1,t2⟩) this
    |_=>simp at h2
end
end Go.Abs
namespace Go.Abs
open Go Go.RowKit
section
variable {P:Program} {H:zN} {W:World} {bs:Nat} {σ σ':Gh} {st:St} {w:World} {f:FuncId} {nt base:Nat}
theorem EN (as:List AV) (k:Nat):((as.zipIdx k).map fun p=>(p.2,p.1)).Pairwise fun p q=>p.1<q.1:=by
 induction as generalizing k with
 |nil=>simp
 |cons a as ih =>
  rw [List.zipIdx_cons,List.map_cons]
  refine List.pairwise_cons.2 ⟨fun q hq=>?_,ih (k+1)⟩
  obtain ⟨p,hp,rfl⟩:=List.mem_map.1 hq
  have:=List.mem_zipIdx hp
  show k<p.2
  omega
theorem Fv (as:List AV) (k:Nat) {t:Nat} {v:AV} (h:Env.get ((as.zipIdx k).map fun p=>(p.2,p.1)) t=some v):k≤t∧as[t - k]?=some v:=by
 obtain ⟨p,hp,hq⟩:=List.mem_map.1 (Env.get_mem h)
 have hm:=List.mem_zipIdx hp
 cases hq
 refine ⟨hm.1,?_⟩
 rw [List.getElem?_eq_getElem (by omega)]
 rw [hm.2.2]
theorem LG {as:List AV} {vs:List Value} {n:Nat} (hr:qX P σ vs as) (hk:∀i,i<as.length→(H.keep f).contains i=true) :
  ZU P H f σ n (vs.toArray++Array.replicate (n - vs.toArray.size) undef) [] (YY as):=by
 have key:∀t v,Env.get (YY as) t=some v→as[t]?=some v:=fun t v h=>by
  have:=(Fv as 0 h).2
  simpa using this
 refine ⟨by simp;omega,fun t v hv=>?_,fun t v hv=>by simp [Env.get] at hv,fun t v hv=>?_,EN as 0⟩
 ·have h1:=key t v (by simpa [look,Env.get] using hv)
  have hlt:t<as.length:=(List.getElem?_eq_some_iff.1 h1).1
  have hlv:t<vs.length:=by rw [hr.1];exact hlt
  have h2:vs[t]?=some vs[t]:=List.getElem?_eq_getElem hlv
  have e:(vs.toArray++Array.replicate (n - vs.toArray.size) undef).getD t undef=vs[t]:=by
   rw [Array.getD_eq_getD_getElem?,Array.getElem?_append_left (by simpa using hlv)]
   simp [hlv]
  rw [e]
  exact hr.2 t _ v h2 h1
 ·exact hk t (List.getElem?_eq_some_iff.1 (key t v hv)).1
def JF (P:Program) (H:zN):Prop :=
 ∀g fn c,P.funcs[g]?=some fn→fn.body=some c→(fn.name == "runtime.NumGoroutine")=false∧qi H g fn.ntmps c=true∧∀i,i<fn.params.size+fn.nfree→(H.keep g).contains i=true
def WT (P:Program) (H:zN) (W:World) (bs:Nat):Prop :=
 ∀g F,H.prim g=some F→∀as st r,F as st=some r→Has P g∧∀σ w vs,WF P W bs σ st w→qx P H σ→qX P σ vs as→Calls P g vs.toArray w (VR P W bs σ r.1 r.2)
theorem BQ {g:FuncId} {fn:Func} {c:Code} (hP:JF P H) (hf:P.funcs[g]?=some fn) (hb:fn.body=some c):Has P g:=⟨fn,hf,by rw [hb];rfl,(hP g fn c hf hb).1⟩
theorem Cw {callF:jX} {again:FuncId→Nat→Yb} (hP:JF P H) (hM:WT P H W bs) (hR:∀f nt base,Js P H W bs f nt base callF) (hA:∀f nt base,Qo P H W bs f nt (again f base))
  (hD:KC P H W bs (zY P H callF again)):ZD P H W bs (YU P H callF again):=by
 intro g as st r hc
 unfold YU at hc
 split at hc
 ·rename_i F hF
  exact hM g F hF as st r hc
 ·rename_i hnp
  obtain ⟨fn,hfn,h2⟩:=bind_eq_some_iff.1 hc
  obtain ⟨c,hb,h3⟩:=bind_eq_some_iff.1 h2
  clear hc h2
  split at h3
  ·rename_i hlen
   obtain ⟨q,hq,h4⟩:=bind_eq_some_iff.1 h3
   obtain ⟨o,ho,h5⟩:=bind_eq_some_iff.1 h4
   clear h3 h4
   obtain ⟨_,hok,hkeep⟩:=hP g fn c hfn hb
   refine ⟨BQ hP hfn hb,fun σ w vs h hg hr=>?_⟩
   refine calls_of_wp_defers hfn hb ?_
   have hfr:jy P H g σ fn.ntmps {tmps:=vs.toArray++Array.replicate (fn.ntmps - vs.toArray.size) undef,defers:=[]} [] ⟨YY as,[]⟩ :=
    ⟨LG hr (fun i hi=>hkeep i (by omega)),.nil⟩
   refine wp_mono (ji (hR g fn.ntmps st.length) (hA g fn.ntmps st.length) c _ _ q σ _ w hok hq (h.homes _) hg hfr) fun e a w' hp=>?_
   obtain ⟨σ',p1,p2,p3,p4⟩:=hp
   obtain ⟨ax,fr',st'⟩:=q
   have fin:∀e w,Mk P W bs σ' o.1 o.2 e w→VR P W bs σ r.1 r.2 e w:=fun e w hh=>by
    obtain ⟨σ'',t1,t2,t3⟩:=hh
    exact (En h rfl (p1.trans t1) t2 t3 h5).ok
   cases ax with
   |normal =>
    cases e<;>first | exact p4.elim | skip
    exact ZC fin (Jk hD _ _ .ret .returning _ _ σ' w' ho p3.defs trivial p2 (hg.mono p1) p3.env)
   |ret =>
    cases e<;>first | exact p4.elim | skip
    exact ZC fin (Jk hD _ _ .ret .returning _ _ σ' w' ho p3.defs trivial p2 (hg.mono p1) p3.env)
   |panic v =>
    cases e<;>first | exact p4.elim | skip
    exact ZC fin (Jk hD _ _ (.pan v) (.panicking _) _ _ σ' w' ho p3.defs p4 p2 (hg.mono p1) p3.env)
   |exit i=>simp at ho
   |goto i=>simp at ho
  ·simp at h3
end
end Go.Abs
namespace Go.Abs
open Go Go.RowKit
section
variable {P:Program} {H:zN} {W:World} {bs:Nat} {σ σ':Gh} {st:St} {w:World} {f:FuncId} {nt base:Nat}
def Gb (P:Program) (H:zN) (W:World) (bs:Nat) (f:FuncId) (nt:Nat) (c₀:Frame) (cs₀:List Frame) (τ0 σ:Gh) (r:AX×Fr×St×zo) (e:Exit) (a:Act) (cs:List Frame) (w:World):Prop :=
 ∃σ',σ.Le σ'∧WF P W bs σ' r.2.2.1 w∧jy P H f σ' nt a [] r.2.1∧HD P σ' e r.1∧∃u,cs={c₀ with mode:=u}::cs₀∧ZE P τ0 r.2.2.2 u
theorem Gb.up {τ0:Gh} {c₀:Frame} {cs₀:List Frame} {r:AX×Fr×St×zo} {e:Exit} {a:Act} {cs:List Frame} {w:World} (hl:σ.Le σ') (h:Gb P H W bs f nt c₀ cs₀ τ0 σ' r e a cs w):Gb P H W bs f nt c₀ cs₀ τ0 σ r e a cs w:=by
 obtain ⟨τ,h1,h2⟩:=h
 exact ⟨τ,hl.trans h1,h2⟩
theorem jl {ops:Array Oper} {Q Q':Exit→Act→List Frame→World→Prop} (hq:∀e a cs w,Q e a cs w→Q' e a cs w):∀{l:List Nat} {a:Act} {cs:List Frame} {w:World},wpOpsS P ops Q l a cs w→wpOpsS P ops Q' l a cs w
 |[],a,cs,w,h=>hq _ _ _ _ h
 |i::rest,a,cs,w,h=>by
  simp only [wpOpsS] at h ⊢
  split
  ·rename_i ho
   simp only [ho] at h
   exact jl hq h
  ·rename_i o ho
   simp only [ho] at h
   split
   ·rename_i hw
    simp only [hw,if_true] at h
    split
    ·rename_i w' hr
     simp only [hr] at h
     split
     ·rename_i v cs' hrec
      simp only [hrec] at h
      exact jl hq h
     ·rename_i hrec
      simp only [hrec] at h
      exact jl hq h
    ·rename_i r hnot
     have h':o.upon P a (fun a' w'=>wpOpsS P ops Q rest a' cs w') (fun e a' w'=>Q e a' cs w') ((execOp a.eval o).run P w):=by
      split at h
      ·rename_i w' hr;exact absurd hr (hnot w')
      ·exact h
     exact Kn (P:=P) (o:=o) (a:=a) (w:=w) (fun _ _ hk=>jl hq hk) (fun _ _ _ hk=>hq _ _ _ _ hk) h'
   ·rename_i hw
    simp only [hw] at h
    exact jl hq h
theorem Nu {ops:Array Oper} {Q:Exit→Act→List Frame→World→Prop} {i:Nat} {rest:List Nat} {o:Oper} {a:Act} {cs:List Frame} {w:World} (ho:ops[i]?=some o) (hw:Region.wanted o (yielded ops a.tmps)=true)
  (h:o.wp P a w (fun a' w'=>wpOpsS P ops Q rest a' cs w') (fun e a' w'=>Q e a' cs w')):wpOpsS P ops Q (i::rest) a cs w:=by
 simp only [wpOpsS,ho,hw,if_true]
 unfold Oper.wp at h
 split
 ·rename_i w' hr
  rw [hr] at h
  exact h.elim
 ·exact h
theorem ZW {τ0:Gh} {callF:jX} {ops:Array Oper} {c₀:Frame} {cs₀:List Frame} (hX:Qj P H) (hC:ZD P H W bs callF) (hdst:∀(i:Nat) o d,ops[i]?=some o→o.dst=some d→d<nt) :
  ∀(l:List Oper) (i:Nat) (loc:Env) (fr:Fr) (st:St) (m:zo) (r:AX×Fr×St×zo) (σ:Gh) (a:Act) (w:World) (u:FrameMode),ops.toList.drop i=l→WI P H callF f base ops l loc fr st m=some r→WF P W bs σ st w→qx P H σ→jy P H f σ nt a loc fr→ZE P τ0 m u→τ0.Le σ →
   wpOpsS P ops (Gb P H W bs f nt c₀ cs₀ τ0 σ r) (List.range' i l.length) a ({c₀ with mode:=u}::cs₀) w
 |[],i,loc,fr,st,m,r,σ,a,w,u,hdrop,ho,h,hg,hf,hm,hτ=>by
  simp only [WI,Option.some.injEq] at ho
  subst ho
  exact ⟨σ,.refl _,h,hf.drop,trivial,u,rfl,hm⟩
 |o::rest,i,loc,fr,st,m,r,σ,a,w,u,hdrop,ho,h,hg,hf,hm,hτ=>by
  have hio:ops[i]?=some o:=by
   have:(ops.toList.drop i)[0]?=some o:=by rw [hdrop];rfl
   rw [List.getElem?_drop] at this
   simpa using this
  have hrest:ops.toList.drop (i+1)=rest:=by
   rw [←List.drop_drop,hdrop];rfl
  have hd:=hdst i o
  simp only [WI] at ho
  obtain ⟨b,hb,h2⟩:=bind_eq_some_iff.1 ho
  have hwant:=Mq hf hb
  simp only [List.length_cons,List.range'_succ]
  cases b with
  |false =>
   simp only [Bool.false_eq_true,if_false] at h2
   simp only [wpOpsS,hio,hwant,Bool.false_eq_true,if_false]
   exact ZW hX hC hdst rest (i+1) _ _ _ m r σ _ w u hrest h2 h hg (hf.put (fun d hd'=>hd d hio hd') jZ) hm hτ
  |true =>
   simp only [if_true] at h2
   split at h2
   ·
    rename_i args tys va hop
    have hrun:(execOp a.eval o).run P w = .ok .recover w:=by
     simp [execOp,hop,resolve,invoke,builtin]
    simp only [wpOpsS,hio,hwant,if_true,hrun]
    cases m with
    |pan v =>
     cases u<;>first | exact hm.elim | skip
     obtain ⟨v',rfl,hv⟩:=hm
     simp only [recoverD]
     exact ZW hX hC hdst rest (i+1) _ _ _ (.recd v) r σ _ w (.panicking [{v:=v',recovered:=true}]) hrest h2 h hg (hf.put (fun d hd'=>hd d hio hd') (hv.mono hτ)) ⟨v',rfl,hv⟩ hτ
    |ret =>
     cases u<;>first | exact hm.elim | skip
     simp only [recoverD]
     exact ZW hX hC hdst rest (i+1) _ _ _ .ret r σ _ w .returning hrest h2 h hg (hf.put (fun d hd'=>hd d hio hd') .nili) trivial hτ
    |recd v =>
     cases u<;>first | exact hm.elim | skip
     obtain ⟨v',rfl,hv⟩:=hm
     simp only [recoverD]
     exact ZW hX hC hdst rest (i+1) _ _ _ (.recd v) r σ _ w (.panicking [{v:=v',recovered:=true}]) hrest h2 h hg (hf.put (fun d hd'=>hd d hio hd') .nili) ⟨v',rfl,hv⟩ hτ
   ·obtain ⟨q,hq,h3⟩:=bind_eq_some_iff.1 h2
    refine Nu hio hwant ?_
    refine MH hX hC h hg hf hq (fun v x w' σ' e1 e2 e3 e4=>?_) (fun w' σ' e1 e2 e3=>?_) (fun g as d w' σ' e1 e2 e3 e4=>?_) (fun v x w' σ' e1 e2 e3 e4=>?_)
    ·rw [e1] at h3
     obtain ⟨l,hl,h4⟩:=bind_eq_some_iff.1 h3
     obtain ⟨σ'',k1,k2,k3⟩:=Mh e3 (hf.mono e2) (fun d hd'=>hd d hio hd') e4 hl
     have:=ZW (c₀:=c₀) (cs₀:=cs₀) hX hC hdst rest (i+1) l.1 l.2.1 l.2.2 m r σ'' _ w' u hrest h4 k2 (hg.mono (e2.trans k1)) k3 hm (hτ.trans (e2.trans k1))
     exact jl (fun e a cs w hh=>hh.up (e2.trans k1)) this
    ·rw [e1] at h3
     obtain ⟨l,hl,h4⟩:=bind_eq_some_iff.1 h3
     simp only [jc,Option.some.injEq] at hl
     subst hl
     have:=ZW (c₀:=c₀) (cs₀:=cs₀) hX hC hdst rest (i+1) _ _ _ m r σ' _ w' u hrest h4 e3 (hg.mono e2) ((hf.mono e2).put (fun d hd'=>hd d hio hd') jZ) hm (hτ.trans e2)
     exact jl (fun e a cs w hh=>hh.up e2) this
    ·rw [e1] at h3
     obtain ⟨l,hl,h4⟩:=bind_eq_some_iff.1 h3
     simp only [jc,Option.some.injEq] at hl
     subst hl
     have hf2:jy P H f σ' nt {a with defers:=d::a.defers} loc {fr with defers:=(g,as)::fr.defers}:=⟨(hf.mono e2).env,.cons e4 (hf.mono e2).defs⟩
     have:=ZW (c₀:=c₀) (cs₀:=cs₀) hX hC hdst rest (i+1) _ _ _ m r σ' _ w' u hrest h4 e3 (hg.mono e2) (hf2.put (fun d hd'=>hd d hio hd') jZ) hm (hτ.trans e2)
     exact jl (fun e a cs w hh=>hh.up e2) this
    ·rw [e1] at h3
     simp only [Option.some.injEq] at h3
     subst h3
     exact ⟨σ',e2,e3,(hf.mono e2).drop,⟨v,rfl,e4⟩,u,rfl,hm⟩
end
end Go.Abs
namespace Go.Abs
open Go Go.RowKit
section
variable {P:Program} {H:zN} {W:World} {bs:Nat} {σ σ':Gh} {st:St} {w:World} {f:FuncId} {nt base:Nat}
theorem Uz {c:Code} {Q Q':Exit→Act→List Frame→World→Prop} {a:Act} {cs:List Frame} {w:World} (h:c.wpS P Q a cs w) (hq:∀e a cs w,Q e a cs w→Q' e a cs w):c.wpS P Q' a cs w :=
 fun b k hb hr=>let ⟨e,a',cs',w',q,r⟩:=h b k hb hr;⟨e,a',cs',w',hq _ _ _ _ q,r⟩
theorem Dl {ops:Array Oper} {id:Nat} {d:Bool} (h:qi H f nt (.region id ops d)=true):∀(i:Nat) o d,ops[i]?=some o→o.dst=some d→d<nt:=fun i o d hi hd=>by
 have:=List.all_eq_true.1 (Bool.and_eq_true_iff.1 (show ((ops.toList.all fun o=>match o.dst with | some d=>decide (d<nt) | none=>true)&&_)=true from h)).1 o (List.mem_of_getElem? (by simpa using hi))
 rw [hd] at this
 simpa using this
theorem BB {ds:List Deferred} (h:jE P σ ds []):ds=[]:=by cases h;rfl
theorem Um {c₀:Frame} {cs₀:List Frame} {τ0:Gh} {m:zo} {u:FrameMode} {r:AX×Fr×St} {e:Exit} {a:Act} {w:World} (hm:ZE P τ0 m u) (h:jP P H W bs f nt σ r e a w) :
  Gb P H W bs f nt c₀ cs₀ τ0 σ (r.1,r.2.1,r.2.2,m) e a ({c₀ with mode:=u}::cs₀) w:=by
 obtain ⟨σ',h1,h2,h3,h4⟩:=h
 exact ⟨σ',h1,h2,h3,h4,u,rfl,hm⟩
theorem Bm {callF:jX} {again:Yb} {c₀:Frame} {cs₀:List Frame} {τ0:Gh} (hX:Qj P H) (hC:ZD P H W bs callF) (hR:Js P H W bs f nt base callF) (hA:Qo P H W bs f nt again) :
  ∀(c:Code) (fr:Fr) (st:St) (m:zo) (r:AX×Fr×St×zo) (σ:Gh) (a:Act) (w:World) (u:FrameMode),qi H f nt c=true→Zz P H callF again f base c fr st m=some r→WF P W bs σ st w→qx P H σ→jy P H f σ nt a [] fr→ZE P τ0 m u→τ0.Le σ →
   c.wpS P (Gb P H W bs f nt c₀ cs₀ τ0 σ r) a ({c₀ with mode:=u}::cs₀) w:=by
 intro c
 have plain:∀(c:Code) (fr:Fr) (st:St) (m:zo) (r:AX×Fr×St×zo) (σ:Gh) (a:Act) (w:World) (u:FrameMode),qi H f nt c=true→(qd P H callF again f base c fr st).map (fun r=>(r.1,r.2.1,r.2.2,m))=some r→WF P W bs σ st w→qx P H σ→jy P H f σ nt a [] fr→ZE P τ0 m u →
   c.wpS P (Gb P H W bs f nt c₀ cs₀ τ0 σ r) a ({c₀ with mode:=u}::cs₀) w:=fun c fr st m r σ a w u hc he h hg hf hm=>by
  obtain ⟨q,hq,rfl⟩:=map_eq_some_iff.1 he
  exact wpS_of_wp (wp_mono (ji hR hA c fr st q σ a w hc hq h hg hf) fun e a w hp=>Um hm hp)
 induction c with
 |region id ops draw =>
  intro fr st m r σ a w u hc he h hg hf hm hτ
  simp only [Zz] at he
  split at he
  ·rename_i hdr
   subst hdr
   obtain ⟨q,hq,rfl⟩:=map_eq_some_iff.1 he
   exact wpS_of_wp (wp_mono (hR id ops true fr st q hc hq σ a w h hg hf) fun e a w hp=>Um hm hp)
  ·rename_i hdr
   have hdr':draw=false:=by simpa using hdr
   subst hdr'
   have:=ZW (c₀:=c₀) (cs₀:=cs₀) hX hC (Dl hc) ops.toList 0 [] fr st m r σ a w u rfl he h hg hf hm hτ
   exact wpS_region (by rw [List.range_eq_range'];simpa using this)
 |seq x y ihx ihy =>
  intro fr st m r σ a w u hc he h hg hf hm hτ
  simp only [qi,Bool.and_eq_true] at hc
  simp only [Zz] at he
  obtain ⟨q,hq,h2⟩:=bind_eq_some_iff.1 he
  refine wpS_seq (Uz (ihx fr st m q σ a w u hc.1 hq h hg hf hm hτ) fun e a' cs' w' hp=>?_)
  obtain ⟨σ',p1,p2,p3,p4,u',rfl,p5⟩:=hp
  obtain ⟨ax,fr',st',m'⟩:=q
  cases ax with
  |normal =>
   cases e<;>first | exact p4.elim | skip
   exact Uz (ihy fr' st' m' r σ' a' w' u' hc.2 h2 p2 (hg.mono p1) p3 p5 (hτ.trans p1)) fun e a cs w hh=>hh.up p1
  |exit i=>simp only [Option.some.injEq] at h2;subst h2;cases e<;>first | exact p4.elim | exact ⟨σ',p1,p2,p3,p4,u',rfl,p5⟩
  |goto i=>simp only [Option.some.injEq] at h2;subst h2;cases e<;>first | exact p4.elim | exact ⟨σ',p1,p2,p3,p4,u',rfl,p5⟩
  |ret=>simp only [Option.some.injEq] at h2;subst h2;cases e<;>first | exact p4.elim | exact ⟨σ',p1,p2,p3,p4,u',rfl,p5⟩
  |panic v=>simp only [Option.some.injEq] at h2;subst h2;cases e<;>first | exact p4.elim | exact ⟨σ',p1,p2,p3,p4,u',rfl,p5⟩
 |cond c x y ihx ihy =>
  intro fr st m r σ a w u hc he h hg hf hm hτ
  simp only [qi,Bool.and_eq_true] at hc
  simp only [Zz] at he
  obtain ⟨v,hv,h2⟩:=bind_eq_some_iff.1 he
  have hr:=hf.eval hg c v hv
  split at h2
  ·rename_i t
   generalize hx:a.eval c=xv at hr
   cases hr
   refine wpS_cond hx ?_
   cases t with
   |true=>exact ihx fr st m r σ a w u hc.1 h2 h hg hf hm hτ
   |false=>exact ihy fr st m r σ a w u hc.2 h2 h hg hf hm hτ
  ·simp at h2
 |_=>intro fr st m r σ a w u hc he h hg hf hm hτ;exact plain _ fr st m r σ a w u hc he h hg hf hm
theorem FP {callF:jX} {again:FuncId→Nat→Yb} (hP:JF P H) (hX:Qj P H) (hC:ZD P H W bs callF) (hR:∀f nt base,Js P H W bs f nt base callF) (hA:∀f nt base,Qo P H W bs f nt (again f base)) :
  KC P H W bs (zY P H callF again):=by
 intro g as st m r hc
 unfold zY at hc
 obtain ⟨fn,hfn,h2⟩:=bind_eq_some_iff.1 hc
 obtain ⟨c,hb,h3⟩:=bind_eq_some_iff.1 h2
 clear hc h2
 split at h3
 ·rename_i hlen
  obtain ⟨q,hq,h4⟩:=bind_eq_some_iff.1 h3
  clear h3
  split at h4
  ·rename_i hemp
   obtain ⟨o,ho,h5⟩:=bind_eq_some_iff.1 h4
   obtain ⟨x,hx,rfl⟩:=map_eq_some_iff.1 h5
   clear h4 h5
   obtain ⟨_,hok,hkeep⟩:=hP g fn c hfn hb
   refine ⟨BQ hP hfn hb,fun σ w vs u h hg hr hm=>?_⟩
   have hfr:jy P H g σ fn.ntmps {tmps:=vs.toArray++Array.replicate (fn.ntmps - vs.toArray.size) undef,defers:=[]} [] ⟨YY as,[]⟩ :=
    ⟨LG hr (fun i hi=>hkeep i (by omega)),.nil⟩
   obtain ⟨ax,fr',st',m'⟩:=q
   have hd0:∀{σ':Gh} {a:Act},jy P H g σ' fn.ntmps a [] fr'→a.defers=[]:=fun hf=>by
    have hd:=hf.defs
    have:fr'.defers=[]:=List.isEmpty_iff.1 hemp
    rw [this] at hd
    exact BB hd
   have fin:∀{σ':Gh} {a:Act} {w':World} {e:Ending},σ.Le σ'→WF P W bs σ' st' w'→Uy P σ' e o→Mk P W bs σ x.1 x.2 e w':=fun p1 p2 p3=>En h rfl p1 p2 p3 hx
   by_cases hrec:H.recov g=true
   ·rw [if_pos hrec] at hq
    refine callsD_of_wpS hfn hb (fun c₀ cs hu=>?_)
    have hc0:({c₀ with mode:=u}:Frame)=c₀:=by subst hu;rfl
    have hw:=Bm (c₀:=c₀) (cs₀:=cs) hX hC (hR g fn.ntmps st.length) (hA g fn.ntmps st.length) c _ _ m _ σ _ w u hok hq (h.homes _) hg hfr hm (.refl _)
    rw [hc0] at hw
    refine Uz hw fun e a cs' w' hp=>?_
    obtain ⟨σ',p1,p2,p3,p4,u',rfl,p5⟩:=hp
    have ret:(ax = .normal∨ax = .ret)→a.defers=[]∧∃u'',({c₀ with mode:=u'}:Frame)::cs={c₀ with mode:=u''}::cs∧∃v,(results fn a.tmps).run P w' = .ok v w' ∧
      (∃σ',σ.Le σ'∧WF P W bs σ' x.2 w'∧Uy P σ' (.returned v) x.1∧ZE P σ' m' u''):=fun hax=>by
     have ho':∃rs,qF P fr'.env st' fn.results.toList=some rs∧o = .ret (zaL rs):=by
      rcases hax with rfl | rfl
      ·obtain ⟨rs,h6,h7⟩:=map_eq_some_iff.1 ho;exact ⟨rs,h6,h7.symm⟩
      ·obtain ⟨rs,h6,h7⟩:=map_eq_some_iff.1 ho;exact ⟨rs,h6,h7.symm⟩
     obtain ⟨rs,h6,rfl⟩:=ho'
     obtain ⟨v,h8,h9⟩:=Ya p2 p3.env h6
     obtain ⟨σ'',t1,t2,t3⟩:=fin (a:=a) (e:=.returned v) p1 p2 h9
     exact ⟨hd0 p3,u',rfl,v,h8,σ'',t1,t2,t3,p5.mono t1⟩
    cases ax with
    |normal =>
     cases e<;>first | exact p4.elim | skip
     exact ret (.inl rfl)
    |ret =>
     cases e<;>first | exact p4.elim | skip
     exact ret (.inr rfl)
    |panic v =>
     cases e<;>first | exact p4.elim | skip
     simp only [Option.some.injEq] at ho
     subst ho
     obtain ⟨σ'',t1,t2,t3⟩:=fin (a:=a) (e:=.panicked _) p1 p2 p4
     exact ⟨hd0 p3,u',rfl,σ'',t1,t2,t3,p5.mono t1⟩
    |exit i=>simp at ho
    |goto i=>simp at ho
   ·rw [if_neg hrec] at hq
    obtain ⟨q',hq',h6⟩:=map_eq_some_iff.1 hq
    simp only [Prod.mk.injEq] at h6
    obtain ⟨rfl,rfl,rfl,rfl⟩:=h6
    have hw:=ji (hR g fn.ntmps st.length) (hA g fn.ntmps st.length) c _ _ q' σ _ w hok hq' (h.homes _) hg hfr
    refine (callsD_of_wp (R:=Mk P W bs σ x.1 x.2) (u:=u) hfn hb (wp_mono hw fun e a w' hp=>?_)).mono fun e u' w' he=>?_
    ·obtain ⟨σ',p1,p2,p3,p4⟩:=hp
     obtain ⟨ax,fr',st'⟩:=q'
     have ret:(ax = .normal∨ax = .ret)→a.defers=[]∧∃v,(results fn a.tmps).run P w' = .ok v w'∧Mk P W bs σ x.1 x.2 (.returned v) w':=fun hax=>by
      have ho':∃rs,qF P fr'.env st' fn.results.toList=some rs∧o = .ret (zaL rs):=by
       rcases hax with rfl | rfl
       ·obtain ⟨rs,h6,h7⟩:=map_eq_some_iff.1 ho;exact ⟨rs,h6,h7.symm⟩
       ·obtain ⟨rs,h6,h7⟩:=map_eq_some_iff.1 ho;exact ⟨rs,h6,h7.symm⟩
      obtain ⟨rs,h6,rfl⟩:=ho'
      obtain ⟨v,h8,h9⟩:=Ya p2 p3.env h6
      exact ⟨hd0 p3,v,h8,fin (a:=a) (e:=.returned v) p1 p2 h9⟩
     cases ax with
     |normal =>
      cases e<;>first | exact p4.elim | skip
      exact ret (.inl rfl)
     |ret =>
      cases e<;>first | exact p4.elim | skip
      exact ret (.inr rfl)
     |panic v =>
      cases e<;>first | exact p4.elim | skip
      simp only [Option.some.injEq] at ho
      subst ho
      exact ⟨hd0 p3,fin (a:=a) (e:=.panicked _) p1 p2 p4⟩
     |exit i=>simp at ho
     |goto i=>simp at ho
    ·obtain ⟨rfl,σ'',t1,t2,t3⟩:=he
     exact ⟨σ'',t1,t2,t3,hm.mono t1⟩
  ·simp at h4
 ·simp at h3
theorem Lu {callF:jX} (hX:Qj P H) (hC:ZD P H W bs callF) {id:Nat} {ops:Array Oper} {fr:Fr} {r:AX×Fr×St} {a:Act} (hc:qi H f nt (.region id ops false)=true)
  (he:Zi P H callF f base id ops false fr st=some r) (h:WF P W bs σ st w) (hg:qx P H σ) (hf:jy P H f σ nt a [] fr):(Code.region id ops false).wp P (jP P H W bs f nt σ r) a w:=by
 simp only [Zi,Bool.false_eq_true,if_false] at he
 have:=XN hX hC (Dl hc) ops.toList 0 [] fr st r σ a w rfl he h hg hf
 exact wp_region (by rw [List.range_eq_range'];simpa using this)
def KP (P:Program) (H:zN) (W:World) (bs:Nat):Prop :=
 ∀callF,ZD P H W bs callF→∀f nt base id ops fr st r,qi H f nt (.region id ops true)=true→Zi P H callF f base id ops true fr st=some r→∀σ a w,WF P W bs σ st w→qx P H σ→jy P H f σ nt a [] fr→(Code.region id ops true).wp P (jP P H W bs f nt σ r) a w
theorem Nw {callF:jX} (hX:Qj P H) (hW:KP P H W bs) (hC:ZD P H W bs callF) (f:FuncId) (nt base:Nat):Js P H W bs f nt base callF:=by
 intro id ops draw fr st r hc he σ a w h hg hf
 cases draw with
 |false=>exact Lu hX hC hc he h hg hf
 |true=>exact hW callF hC f nt base id ops fr st r hc he σ a w h hg hf
theorem YC (hP:JF P H) (hX:Qj P H) (hM:WT P H W bs) (hW:KP P H W bs):∀n,ZD P H W bs (levels P H n).1∧∀f nt base,Qo P H W bs f nt ((levels P H n).2 f base)
 | 0=>⟨fun g as st r h=>by simp [levels] at h,fun f nt base t fr st r _ h=>by simp [levels] at h⟩
 |n+1=>by
  obtain ⟨h1,h2⟩:=YC hP hX hM hW n
  have hR:=Nw hX hW h1
  exact ⟨Cw hP hM hR h2 (FP hP hX h1 hR h2),fun f nt base=>HB (hR f nt base) (h2 f nt base)⟩
theorem BS (hP:JF P H) (hX:Qj P H) (hM:WT P H W bs) (hW:KP P H W bs) (n:Nat):ZD P H W bs (Ce P H n):=(YC hP hX hM hW n).1
end
end Go.Abs
namespace Go.Abs
open Go Go.RowKit
section
variable {P:Program} {H:zN} {W:World} {bs:Nat} {σ σ':Gh} {st:St} {w:World} {f:FuncId} {nt base:Nat}
theorem Jy {ev ev':Operand→Option AV}:∀{xs:List Operand},(∀x ∈ xs,ev x=ev' x)→evs ev xs=evs ev' xs
 |[],_=>rfl
 |x::xs,h=>by
  simp only [evs]
  rw [h x List.mem_cons_self,Jy fun y hy=>h y (List.mem_cons_of_mem _ hy)]
theorem Xp {ev ev':Operand→Option AV}:∀{xs:List (Nat×Operand)},(∀p ∈ xs,ev p.2=ev' p.2)→UK ev xs=UK ev' xs
 |[],_=>rfl
 |(i,x)::xs,h=>by
  simp only [UK]
  rw [h (i,x) List.mem_cons_self,Xp fun y hy=>h y (List.mem_cons_of_mem _ hy)]
theorem Nz {ev ev':Operand→Option AV} {o:Oper} (h:∀x ∈ Yg H f o,ev x=ev' x) (st:St) (base:Nat):Zk H f ev st base o.dst=Zk H f ev' st base o.dst:=by
 unfold Zk
 cases hh:o.dst.bind (H.home f) with
 |none=>rfl
 |some q =>
  obtain ⟨s,q2⟩:=q
  cases s with
  |none=>rfl
  |some s =>
   have:ev (.tmp s)=ev' (.tmp s):=h (.tmp s) (by simp [Yg,hh])
   simp only [bind_some,this]
theorem WO {ev ev':Operand→Option AV} {o:Oper} (h:∀x ∈ Yg H f o,ev x=ev' x):opA P H f ev st base o.dst o.op=opA P H f ev' st base o.dst o.op:=by
 have hh:=Nz h st base
 have ho:∀x ∈ o.op.operands,ev x=ev' x:=fun x hx=>h x (List.mem_append_left _ (by simpa using hx))
 clear h
 obtain ⟨dst,op,type,pos,after,guard⟩:=o
 simp only at hh ho ⊢
 cases op<;>simp only [Op.operands] at ho<;>simp only [opA,El,UX,IF,KJ,qP,Ln,CG,Ut,Lm,Ek,YA,XF,Ge,Yv,hh]
 case build t ps=>rw [Xp (xs:=ps.toList) fun p hp=>ho p.2 (by simp;exact ⟨p.1,by simpa using hp⟩)]
 case buildSlice t n ps=>rw [Xp (xs:=ps.toList) fun p hp=>ho p.2 (by simp;exact ⟨p.1,by simpa using hp⟩)]
 case makeFunc fn first cap=>rw [Jy (xs:=cap.toList) fun x hx=>ho x (by simp_all)]
 case call c =>
  have hargs:evs ev c.args.toList=evs ev' c.args.toList:=Jy fun x hx=>ho x (by simp [Call.operands];right;simpa using hx)
  unfold Yl
  cases hc:c.callee with
  |builtin b=>simp only [hargs,hh]
  |invoke r m=>rfl
  |value x=>cases x<;>simp only [hargs]
 case defer c =>
  have hargs:evs ev c.args.toList=evs ev' c.args.toList:=Jy fun x hx=>ho x (by simp [Call.operands];right;simpa using hx)
  unfold Ub
  cases hc:c.callee with
  |builtin b=>rfl
  |invoke r m=>rfl
  |value x =>
   have hx:ev x=ev' x:=ho x (by simp [Call.operands,hc])
   simp only [hargs,hx]
 case slice t x lo hi mx =>
  cases lo<;>cases hi<;>cases mx<;>simp_all [evs]
 all_goals (first | rfl | (simp_all;done))
theorem Lr {ev ev':Operand→Option AV} {op:Op} (ho:∀x ∈ op.operands,ev x=ev' x):jr H ev op=jr H ev' op:=by
 cases op<;>try rfl
 case call c =>
  simp only [Op.operands] at ho
  have hargs:evs ev c.args.toList=evs ev' c.args.toList:=Jy fun x hx=>ho x (by simp [Call.operands];right;simpa using hx)
  unfold jr
  cases hc:c.callee with
  |builtin b=>simp only [hc]
  |invoke r m=>simp only [hc]
  |value x =>
   have hx:ev x=ev' x:=ho x (by simp [Call.operands,hc])
   cases x<;>simp only [hc,hargs,hx]
theorem Va {callF:jX} {ev ev':Operand→Option AV} {o:Oper} (h:∀x ∈ Yg H f o,ev x=ev' x):ZA P H callF f base o ev st=ZA P H callF f base o ev' st:=by
 unfold ZA
 rw [Lr fun x hx=>h x (List.mem_append_left _ (by simpa using hx)),WO h]
end
end Go.Abs
namespace Go.Abs
open Go Go.RowKit
mutual
theorem AV.beq_eq (a b:AV) (h:AV.beq a b=true):a=b:=by
 cases a<;>cases b<;>simp only [AV.beq,Bool.and_eq_true,beq_iff_eq,Bool.false_eq_true] at h
 all_goals first
  |rfl
  |(subst h;rfl)
  |(obtain ⟨rfl,rfl⟩:=h;rfl)
  |(rw [AV.beqs_eq _ _ h])
  |(obtain ⟨h1,h2⟩:=h;rw [AV.beqs_eq _ _ h1,h2])
  |(obtain ⟨h1,h2⟩:=h;rw [h1,AV.beqs_eq _ _ h2])
  |(obtain ⟨h1,h2⟩:=h;rw [h1,AV.beq_eq _ _ h2])
  |(obtain ⟨h1,h2⟩:=h;rw [AV.beqss_eq _ _ h1,h2])
  |(obtain ⟨⟨⟨⟨h1,h2⟩,h3⟩,h4⟩,h5⟩:=h;rw [h1,AV.beqss_eq _ _ h2,h3,h4,h5])
  |(obtain ⟨⟨⟨⟨h1,h2⟩,h3⟩,h4⟩,h5⟩:=h;rw [h1,h2,h3,h4,h5])
  |(obtain ⟨⟨⟨h1,h2⟩,h3⟩,h4⟩:=h;rw [h1,h2,h3,h4])
termination_by structural a
theorem AV.beqs_eq (a b:List AV) (h:AV.beqs a b=true):a=b:=by
 cases a<;>cases b<;>simp only [AV.beqs,Bool.and_eq_true,Bool.false_eq_true] at h
 ·rfl
 ·rw [AV.beq_eq _ _ h.1,AV.beqs_eq _ _ h.2]
termination_by structural a
theorem AV.beqss_eq (a b:List (List AV)) (h:AV.beqss a b=true):a=b:=by
 cases a<;>cases b<;>simp only [AV.beqss,Bool.and_eq_true,Bool.false_eq_true] at h
 ·rfl
 ·rw [AV.beqs_eq _ _ h.1,AV.beqss_eq _ _ h.2]
termination_by structural a
end
end Go.Abs
namespace Go.Abs
open Go Go.RowKit
section
variable {P:Program} {H:zN} {W:World} {bs:Nat} {σ σ':Gh} {w:World} {f:FuncId} {nt base:Nat} {callF:jX} {ops:Array Oper}
abbrev Sit:=Env×Fr×St
def GB (P:Program) (H:zN) (callF:jX) (f:FuncId) (base:Nat) (ops:Array Oper) (o:Oper) (x y:Sit):Prop :=
 (Zg ops x.1 x.2.1.env o=some false∧y=((jY H f o.dst qm x.1 x.2.1.env).1,{x.2.1 with env:=(jY H f o.dst qm x.1 x.2.1.env).2},x.2.2)) ∨
 (Zg ops x.1 x.2.1.env o=some true∧∃r,ZB P H callF f base o x.1 x.2.1.env x.2.2=some r∧jc H f o r.1 x.1 x.2.1 r.2=some y)
def VW (H:zN) (f:FuncId) (o:Oper) (st:St) (tr:List St):List St:=if isO H f o then st::tr else tr
theorem Mv:∀(l:List Oper) (x:Sit) (tr:List St) (k:Nat) (r:AX×Env×Fr×St×List St×Nat),XC P H callF f base ops l x.1 x.2.1 x.2.2 tr k=some r →
  ∃(m:Nat) (xs:Nat→Sit),xs 0=x∧m≤l.length∧r.2.2.2.2.2=k+m∧(∀j,j<m→∃o,l[j]?=some o∧GB P H callF f base ops o (xs j) (xs (j+1)))∧r.2.1=(xs m).1∧r.2.2.1=(xs m).2.1 ∧
   ((r.1 = .normal∧m=l.length∧r.2.2.2.1=(xs m).2.2)∨∃v o,r.1 = .panic v∧l[m]?=some o∧Zg ops (xs m).1 (xs m).2.1.env o=some true∧ZB P H callF f base o (xs m).1 (xs m).2.1.env (xs m).2.2=some (.pan v,r.2.2.2.1)) ∧
   r.2.2.2.2.1=(List.range m).foldl (fun tr j=>match l[j]? with | some o=>VW H f o (xs (j+1)).2.2 tr | none=>tr) tr
 |[],x,tr,k,r,h=>by
  simp only [XC,Option.some.injEq] at h
  subst h
  exact ⟨0,fun _=>x,rfl,Nat.le_refl _,rfl,fun j hj=>by omega,rfl,rfl,.inl ⟨rfl,rfl,rfl⟩,rfl⟩
 |o::l,x,tr,k,r,h=>by
  have cont:∀y:Sit,GB P H callF f base ops o x y→XC P H callF f base ops l y.1 y.2.1 y.2.2 (VW H f o y.2.2 tr) (k+1)=some r →
    ∃(m:Nat) (xs:Nat→Sit),xs 0=x∧m≤(o::l).length∧r.2.2.2.2.2=k+m∧(∀j,j<m→∃o',(o::l)[j]?=some o'∧GB P H callF f base ops o' (xs j) (xs (j+1)))∧r.2.1=(xs m).1∧r.2.2.1=(xs m).2.1 ∧
     ((r.1 = .normal∧m=(o::l).length∧r.2.2.2.1=(xs m).2.2)∨∃v o',r.1 = .panic v∧(o::l)[m]?=some o'∧Zg ops (xs m).1 (xs m).2.1.env o'=some true∧ZB P H callF f base o' (xs m).1 (xs m).2.1.env (xs m).2.2=some (.pan v,r.2.2.2.1)) ∧
     r.2.2.2.2.1=(List.range m).foldl (fun tr j=>match (o::l)[j]? with | some o=>VW H f o (xs (j+1)).2.2 tr | none=>tr) tr:=fun y hy hr=>by
   obtain ⟨m,xs,h1,h2,h3,h4,h5,h6,h7,h8⟩:=Mv l y _ _ r hr
   refine ⟨m+1,fun j=>match j with | 0=>x | j+1=>xs j,rfl,by simpa using h2,by omega,fun j hj=>?_,h5,h6,?_,?_⟩
   ·cases j with
    |zero=>exact ⟨o,rfl,by rw [←h1] at hy;exact hy⟩
    |succ j=>exact h4 j (by omega)
   ·rcases h7 with ⟨a1,a2,a3⟩ | ⟨v,o',a1,a2,a3,a4⟩
    ·exact .inl ⟨a1,by simp [a2],a3⟩
    ·exact .inr ⟨v,o',a1,by simpa using a2,a3,a4⟩
   ·rw [h8,List.range_succ_eq_map,List.foldl_cons,List.foldl_map]
    simp [h1]
  simp only [XC] at h
  obtain ⟨b,hb,h2⟩:=bind_eq_some_iff.1 h
  cases b with
  |false =>
   simp only [Bool.false_eq_true,if_false] at h2
   exact cont (_,_,x.2.2) (.inl ⟨hb,rfl⟩) h2
  |true =>
   simp only [if_true] at h2
   obtain ⟨q,hq,h3⟩:=bind_eq_some_iff.1 h2
   obtain ⟨res,st'⟩:=q
   cases res with
   |pan v =>
    simp only [Option.some.injEq] at h3
    subst h3
    exact ⟨0,fun _=>x,rfl,Nat.zero_le _,rfl,fun j hj=>by omega,rfl,rfl,.inr ⟨v,o,rfl,rfl,hb,hq⟩,rfl⟩
   |val a =>
    obtain ⟨y,hy,h4⟩:=bind_eq_some_iff.1 h3
    exact cont y (.inr ⟨hb,_,hq,hy⟩) h4
   |skip =>
    obtain ⟨y,hy,h4⟩:=bind_eq_some_iff.1 h3
    exact cont y (.inr ⟨hb,_,hq,hy⟩) h4
   |defer g as =>
    obtain ⟨y,hy,h4⟩:=bind_eq_some_iff.1 h3
    exact cont y (.inr ⟨hb,_,hq,hy⟩) h4
end
end Go.Abs
namespace Go.Abs
open Go Go.RowKit
section
variable {P:Program} {H:zN} {f:FuncId} {base:Nat} {st:St} {ev:Operand→Option AV}
theorem Lz {dst:Option Tmp} (hh:(dst.bind (H.home f)).isSome=false) (st:St):Zk H f ev st base dst=none:=by
 unfold Zk
 cases h:dst.bind (H.home f) with
 |none=>rfl
 |some x=>rw [h] at hh;cases hh
theorem Jo {dst:Option Tmp} {t:TypeId} {len:Nat} {ps:Array (Nat×Operand)} {q:AV×St} (hh:(dst.bind (H.home f)).isSome=false) (h:qP P H f ev st base dst t len ps=some q) :
  q.2=st∧∀st',qP P H f ev st' base dst t len ps=some (q.1,st'):=by
 unfold qP at h ⊢
 simp only [Lz hh] at h ⊢
 split at h
 ·obtain ⟨kd,hk,h2⟩:=bind_eq_some_iff.1 h
  obtain ⟨z,hz,h3⟩:=bind_eq_some_iff.1 h2
  obtain ⟨vs,hv,h4⟩:=bind_eq_some_iff.1 h3
  unfold Jn at h4
  split at h4
  ·rename_i hc
   obtain ⟨rows,hr,h5⟩:=bind_eq_some_iff.1 h4
   cases h5
   refine ⟨rfl,fun st'=>?_⟩
   unfold Jn
   simp only [hk,hz,hv,bind_some,if_pos hc,hr]
  ·cases h4
 ·cases h
theorem ZK {dst:Option Tmp} {op:Op} {r:Res×St} (he:isD H f dst op=false) (h:opA P H f ev st base dst op=some r):∃a,r=(.val a,st):=by
 cases op<;>simp only [isD,isE,Bool.true_eq_false,reduceCtorEq] at he<;>simp only [opA] at h<;>try (obtain ⟨a,_,rfl⟩:=qC h;exact ⟨a,rfl⟩)
 case buildSlice t len ps =>
  obtain ⟨q,hq,rfl⟩:=map_eq_some_iff.1 (show (qP P H f ev st base dst t len ps).map (fun r=>(Res.val r.1,r.2))=some r from h)
  have:=(Jo he hq).1
  exact ⟨q.1,by rw [this]⟩
 case call c =>
  unfold Yl at h
  split at h
  ·rename_i b hc
   rw [hc] at he
   obtain ⟨as,has,h2⟩:=bind_eq_some_iff.1 h
   unfold qK at h2
   split at h2<;>simp at he
   ·obtain ⟨t,ht,h3⟩:=bind_eq_some_iff.1 h2
    obtain ⟨q,hq,rfl⟩:=map_eq_some_iff.1 h3
    exact ⟨q,rfl⟩
   ·obtain ⟨q,hq,rfl⟩:=map_eq_some_iff.1 h2;exact ⟨q,rfl⟩
   ·obtain ⟨q,hq,rfl⟩:=map_eq_some_iff.1 h2;exact ⟨q,rfl⟩
   ·obtain ⟨q,hq,rfl⟩:=map_eq_some_iff.1 h2;exact ⟨q,rfl⟩
   ·simp at h2
  ·rename_i g hc
   rw [hc] at he
   simp at he
  ·simp at h
end
end Go.Abs
namespace Go.Abs
open Go Go.RowKit
section
variable {P:Program} {H:zN} {W:World} {bs:Nat} {σ σ':Gh} {st:St} {w:World} {f:FuncId} {nt base:Nat} {callF:jX} {ops:Array Oper}
structure Qf (H:zN) (f:FuncId) (loc env:Env):Prop where
 loc:∀t v,Env.get loc t=some v→(H.keep f).contains t=false
 kept:∀t v,Env.get env t=some v→(H.keep f).contains t=true
 srt:env.Pairwise fun p q=>p.1<q.1
theorem Qu {loc env:Env} {d t:Nat} {v:AV} (h:Qf H f loc env):look (jY H f (some d) v loc env).1 (jY H f (some d) v loc env).2 t=if t=d then some v else look loc env t:=by
 unfold jY
 by_cases hk:(H.keep f).contains d=true
 ·simp only [hk,if_true]
  unfold look
  rw [Env.get_set]
  by_cases e:t=d
  ·subst e
   rw [if_pos rfl,if_pos rfl]
   cases hl:Env.get loc t with
   |none=>rfl
   |some u=>have:=h.loc t u hl;rw [hk] at this;simp at this
  ·rw [if_neg e,if_neg e]
 ·simp only [hk,Bool.false_eq_true,if_false]
  unfold look
  simp only [Env.get]
  by_cases e:t=d
  ·subst e;simp
  ·have e':¬d=t:=fun x=>e x.symm
   rw [if_neg e',if_neg e]
theorem Qf.put {loc env:Env} {dst:Option Tmp} {v:AV} (h:Qf H f loc env):Qf H f (jY H f dst v loc env).1 (jY H f dst v loc env).2:=by
 cases dst with
 |none=>exact h
 |some d =>
  unfold jY
  by_cases hk:(H.keep f).contains d=true
  ·simp only [hk,if_true]
   refine ⟨h.loc,fun t u hu=>?_,Env.set_srt h.srt⟩
   rw [Env.get_set] at hu
   by_cases e:t=d
   ·subst e;exact hk
   ·rw [if_neg e] at hu;exact h.kept t u hu
  ·simp only [hk,Bool.false_eq_true,if_false]
   have hk':(H.keep f).contains d=false:=by simpa using hk
   refine ⟨fun t u hu=>?_,h.kept,h.srt⟩
   simp only [Env.get] at hu
   by_cases e:d=t
   ·subst e;exact hk'
   ·rw [if_neg e] at hu;exact h.loc t u hu
theorem Ko {anc:List Nat} {i:Nat}:∀(es:List Edge) (m:Nat),(es.foldl (fun m e=>if Region.binds .any e then (m ||| (1 <<< e.on)) ||| anc.getD e.on 0 else m) m).testBit i=true →
  m.testBit i=true∨∃e ∈ es,Region.binds .any e=true∧(e.on=i∨(anc.getD e.on 0).testBit i=true)
 |[],m,h=>.inl h
 |e::es,m,h=>by
  simp only [List.foldl_cons] at h
  rcases Ko es _ h with h | ⟨e',he,h1,h2⟩
  ·split at h
   ·rename_i hb
    simp only [Nat.testBit_or,Bool.or_eq_true] at h
    rcases h with (h | h) | h
    ·exact .inl h
    ·refine .inr ⟨e,List.mem_cons_self,hb,.inl ?_⟩
     rw [Nat.one_shiftLeft,Nat.testBit_two_pow] at h
     simpa using h
    ·exact .inr ⟨e,List.mem_cons_self,hb,.inr h⟩
   ·exact .inl h
  ·exact .inr ⟨e',List.mem_cons_of_mem _ he,h1,h2⟩
theorem Vt:∀(l:List Oper) (anc:List Nat),∃l',UV l anc=anc++l'∧l'.length=l.length∧∀(j:Nat) o,l[j]?=some o→l'[j]?=some (Ms (anc++l'.take j) o.after.toList)
 |[],anc=>⟨[],by simp [UV],rfl,by simp⟩
 |o::l,anc=>by
  obtain ⟨l',h1,h2,h3⟩:=Vt l (anc++[Ms anc o.after.toList])
  refine ⟨Ms anc o.after.toList::l',by rw [UV,h1];simp,by simp [h2],fun j o' hj=>?_⟩
  cases j with
  |zero=>simp at hj;subst hj;simp
  |succ j =>
   have:=h3 j o' (by simpa using hj)
   simpa [List.append_assoc] using this
theorem Bg {ops:Array Oper} {j:Nat} {o:Oper} (h:ops[j]?=some o):(Ud ops)[j]?=some (Ms ((Ud ops).take j) o.after.toList):=by
 obtain ⟨l',h1,h2,h3⟩:=Vt ops.toList []
 have e:Ud ops=l':=by rw [Ud,h1];rfl
 rw [e]
 have:=h3 j o (by simpa using h)
 simpa using this
def BZ (ops:Array Oper) (L:Nat→Prop):Prop:=∀j o,L j→ops[j]?=some o→∀e ∈ o.after.toList,Region.binds .any e=true→L e.on
theorem UJ {L:Nat→Prop} (hc:BZ ops L):∀(j:Nat) (o:Oper),ops[j]?=some o→(∀e ∈ o.after.toList,Region.binds .any e=true→L e.on)→∀i,((Ud ops).getD j 0).testBit i=true→L i:=by
 intro j
 induction j using Nat.strongRecOn with
 |_ j ih =>
  intro o ho hl i hi
  have hs:=Bg ho
  rw [List.getD_eq_getElem?_getD,hs,Option.getD_some] at hi
  rcases Ko _ _ hi with h | ⟨e,he,hb,h⟩
  ·simp at h
  ·rcases h with rfl | h
   ·exact hl e he hb
   ·rw [List.getD_eq_getElem?_getD,List.getElem?_take] at h
    split at h
    ·rename_i hlt
     have hL:=hl e he hb
     cases hoe:ops[e.on]? with
     |none =>
      have:ops.size≤e.on:=by simpa using hoe
      have hj:j<ops.size:=(Array.getElem?_eq_some_iff.1 ho).1
      omega
     |some o' =>
      exact ih e.on hlt o' hoe (fun e' he' hb'=>hc e.on o' hL hoe e' he' hb') i (by rw [List.getD_eq_getElem?_getD];exact h)
    ·simp at h
end
end Go.Abs
namespace Go.Abs
open Go Go.RowKit
section
variable {P:Program} {H:zN} {W:World} {bs:Nat} {σ σ':Gh} {st:St} {w:World} {f:FuncId} {nt base:Nat} {callF:jX} {ops:Array Oper} {id:Nat}
def Bit (ops:Array Oper) (j i:Nat):Prop:=((Ud ops).getD j 0).testBit i=true
structure D1 (H:zN) (f:FuncId) (id:Nat) (ops:Array Oper) (j:Nat) (o:Oper):Prop where
 low:∀e ∈ o.after.toList,Region.binds .any e=true→e.on<j
 rd:∀(i:Nat) (oi:Oper) (t:Nat),ops[i]?=some oi→oi.dst=some t→t ∈ Qi H f ops o→(i<j∧Bit ops j i)∨(j<i∧Bit ops i j∧Ym o.op=false)
 wr:∀(i:Nat) (oi:Oper) (t:Nat),ops[i]?=some oi→oi.dst=some t→o.dst=some t→i=j
 ee:isO H f o=true→∀(i:Nat) (oi:Oper),ops[i]?=some oi→isO H f oi=true→i<j→Bit ops j i
 nf:isO H f o=false→∀d,o.dst=some d→H.frz f d=false
 see:isO H f o=false→Ym o.op=true→(∀(i:Nat) (oi:Oper),ops[i]?=some oi→isO H f oi=true→Bit ops j i∨Bit ops i j) ∨
  ∃x ∈ H.recheck f id,x.1=j∧x.2.1≤((List.range ops.size).countP fun i=>eOf H f (ops[i]?)&&((Ud ops).getD j 0).testBit i)∧((List.range ops.size).countP fun i=>eOf H f (ops[i]?) && !((Ud ops).getD i 0).testBit j)≤x.2.2
 pan:H.pok f id=true→isO H f o=true→Dd o.op=true→∀i,i<ops.size→j<i→Bit ops i j
theorem D1.of (h:WG H f id ops=true) {j:Nat} {o:Oper} (ho:ops[j]?=some o):D1 H f id ops j o:=by
 have hlt:∀{i:Nat} {oi:Oper},ops[i]?=some oi→i ∈ List.range ops.size:=fun hi=>List.mem_range.2 (Array.getElem?_eq_some_iff.1 hi).1
 have h1:=List.all_eq_true.1 h j (hlt ho)
 simp only [ho] at h1
 simp only [DU,Bool.and_eq_true] at h1
 obtain ⟨⟨⟨h2,h3⟩,h4⟩,h5⟩:=h1
 refine ⟨fun e he hb=>?_,fun i oi t hi ht hr=>?_,fun i oi t hi ht hr=>?_,fun hE i oi hi hEi hij=>?_,fun hE d hd=>?_,fun hE hs=>?_,fun hp hE hm i hi hji=>?_⟩
 ·have:=List.all_eq_true.1 h2 e he
  simpa [hb] using this
 ·have:=List.all_eq_true.1 h3 i (hlt hi)
  simp only [hi,bind_some,ht,Bool.and_eq_true,Bool.or_eq_true,Bool.not_eq_true',decide_eq_true_eq] at this
  rcases this.1 with (h | h) | h
  ·have hc:(Qi H f ops o).contains t=true:=by simpa using hr
   rw [hc] at h;simp at h
  ·exact .inl ⟨h.1,h.2⟩
  ·exact .inr ⟨h.1.1,h.1.2,h.2⟩
 ·have:=List.all_eq_true.1 h3 i (hlt hi)
  simp only [hi,bind_some,ht,Bool.and_eq_true,Bool.or_eq_true] at this
  rcases this.2 with h | h
  ·rw [hr] at h;simp at h
  ·simpa using h
 ·rw [if_pos hE] at h4
  have:=List.all_eq_true.1 h4 i (hlt hi)
  simp only [hi,eOf,hEi,Bool.or_eq_true,Bool.not_eq_true',decide_eq_false_iff_not,Bool.true_eq_false,or_false] at this
  rcases this with h | h
  ·exact absurd hij h
  ·exact h
 ·rw [if_neg (by simp [hE])] at h4
  simp only [Bool.and_eq_true] at h4
  have:=h4.1
  rw [hd] at this
  simpa using this
 ·rw [if_neg (by simp [hE])] at h4
  simp only [Bool.and_eq_true,hs,Bool.or_eq_true,Bool.not_true,Bool.false_eq_true,false_or] at h4
  rcases h4.2 with h | h
  ·left
   intro i oi hi hEi
   have:=List.all_eq_true.1 h i (hlt hi)
   simp only [hi,eOf,hEi,Bool.not_true,Bool.or_eq_true,Bool.false_eq_true,false_or] at this
   exact this
  ·right
   obtain ⟨x,hx,h6⟩:=List.any_eq_true.1 h
   simp only [Bool.and_eq_true,beq_iff_eq,decide_eq_true_eq] at h6
   exact ⟨x,hx,h6.1.1,h6.1.2,h6.2⟩
 ·simp only [hp,hE,hm,Bool.and_self,Bool.not_true,Bool.or_eq_true,Bool.false_eq_true,false_or] at h5
  have:=List.all_eq_true.1 h5 i (List.mem_range.2 hi)
  simp only [Bool.or_eq_true,Bool.not_eq_true',decide_eq_false_iff_not] at this
  rcases this with h | h
  ·exact absurd hji h
  ·exact h
theorem Ew {st st':St} {v:Option AV} {r:Res×St} (h:vA st v=some r):vA st' v=some (r.1,st'):=by
 unfold vA at *
 obtain ⟨a,ha,rfl⟩:=map_eq_some_iff.1 h
 rw [ha];rfl
theorem FM {ev:Operand→Option AV} {st':St} {dst:Option Tmp} {op:Op} {r:Res×St} (he:isD H f dst op=false) (hs:Ym op=false) (h:opA P H f ev st base dst op=some r) :
  opA P H f ev st' base dst op=some (r.1,st'):=by
 cases op<;>simp only [isD,isE,Bool.true_eq_false,reduceCtorEq] at he<;>simp only [Ym,Bool.true_eq_false,reduceCtorEq] at hs<;>simp only [opA] at h ⊢<;>try exact Ew h
 case buildSlice t len ps =>
  obtain ⟨q,hq,rfl⟩:=map_eq_some_iff.1 (show (qP P H f ev st base dst t len ps).map (fun r=>(Res.val r.1,r.2))=some r from h)
  show (qP P H f ev st' base dst t len ps).map (fun r=>(Res.val r.1,r.2))=_
  rw [(Jo he hq).2 st'];rfl
 case call c =>
  unfold Yl at h ⊢
  split at h
  ·rename_i b hc
   rw [hc] at he hs
   obtain ⟨as,has,h2⟩:=bind_eq_some_iff.1 h
   rw [has]
   simp only [bind_some]
   cases b<;>simp at he<;>simp at hs
   ·cases as with
    |nil=>simp [qK] at h2
    |cons x r' =>
     simp only [qK] at h2 ⊢
     obtain ⟨q,hq,rfl⟩:=map_eq_some_iff.1 h2
     rw [hq];rfl
   ·cases as with
    |nil=>simp [qK] at h2
    |cons x r' =>
     simp only [qK] at h2 ⊢
     obtain ⟨q,hq,rfl⟩:=map_eq_some_iff.1 h2
     rw [hq];rfl
  ·rename_i g hc
   rw [hc] at he
   simp at he
  ·simp at h
theorem NO {ev:Operand→Option AV} {st':St} {dst:Option Tmp} {op:Op} {r:Res×St} (he:isD H f dst op=false) (hs:jq ev op=true) (h:opA P H f ev st base dst op=some r) :
  opA P H f ev st' base dst op=some (r.1,st'):=by
 cases op<;>simp only [jq,Bool.false_eq_true] at hs
 case slice t x lo hi mx =>
  simp only [opA,XF] at h ⊢
  cases hx:ev x with
  |none=>rw [hx] at hs;simp at hs
  |some v =>
   rw [hx] at hs h
   simp only [bind_some] at h ⊢
   have:∀a b c,QX P st t v a b c=QX P st' t v a b c:=fun a b c=>by
    cases v<;>first | rfl | (simp [Ze] at hs;done) | skip
    all_goals (unfold QX;cases P.underlying t with | none=>rfl | some d=>cases d<;>rfl)
   simp only [this] at h
   exact Ew h
 case indexAddr t x i =>
  simp only [opA] at h ⊢
  cases hx:ev x with
  |none=>rw [hx] at hs;simp at hs
  |some v =>
   rw [hx] at hs h
   simp only [bind_some] at h ⊢
   have:∀i,qY P st t v i=qY P st' t v i:=fun i=>by
    cases v<;>first | rfl | (simp [Ze] at hs;done) | skip
    all_goals (unfold qY;cases P.underlying t with | none=>rfl | some d=>cases d<;>rfl)
   simp only [funext this] at h
   exact Ew h
 case load t a =>
  simp only [opA] at h ⊢
  cases hx:ev a with
  |none=>rw [hx] at hs;simp at hs
  |some v =>
   rw [hx] at hs h
   simp only [bind_some] at h ⊢
   have:ldA P st t v=ldA P st' t v:=by
    cases v<;>first | rfl | (simp [YP] at hs;done)
   rw [this] at h
   exact Ew h
 case call c =>
  simp only [opA] at h ⊢
  unfold Yl at h ⊢
  split at h
  ·rename_i b hc
   rw [hc] at hs
   simp only at hs
   cases b<;>simp only [Bool.false_eq_true] at hs
   obtain ⟨as,has,h2⟩:=bind_eq_some_iff.1 h
   rw [has]
   simp only [bind_some]
   split at hs
   ·rename_i x hx
    cases hv:ev x with
    |none=>rw [hv] at hs;simp at hs
    |some v =>
     rw [hv] at hs
     simp only at hs
     have hasv:as=[v]:=by
      rw [hx] at has
      simp only [evs,hv,bind_some,map_some,Option.some.injEq] at has
      exact has.symm
     subst hasv
     simp only [qK] at h2 ⊢
     obtain ⟨t,ht,h3⟩:=bind_eq_some_iff.1 h2
     obtain ⟨u,hu,rfl⟩:=map_eq_some_iff.1 h3
     have:MK P st t v=MK P st' t v:=by
      cases v<;>first | rfl | (simp [GV] at hs;done) | skip
      all_goals (unfold MK;cases P.underlying t with | none=>rfl | some d=>cases d<;>rfl)
     rw [ht]
     simp only [bind_some,←this,hu,map_some]
   ·simp at hs
  ·rename_i g hc
   rw [hc] at hs
   simp at hs
  ·simp at h
theorem jR {o:Oper} {ev:Operand→Option AV} (he:isO H f o=false):ZA P H callF f base o ev st=opA P H f ev st base o.dst o.op:=by
 unfold ZA
 have he:isD H f o.dst o.op=false:=he
 have:jr H ev o.op=none:=by
  generalize o.op=op at *
  cases op<;>try rfl
  case call c =>
   unfold jr
   cases hc:c.callee with
   |builtin b=>simp only [hc]
   |invoke r m=>simp only [hc]
   |value x=>simp [isD,isE,hc] at he
 rw [this]
theorem GP {o:Oper} {ev:Operand→Option AV} {v:AV} {st':St} (h:ZA P H callF f base o ev st=some (.pan v,st')):isO H f o=true∧Dd o.op=true:=by
 have hE:isO H f o=true:=by
  cases hE:isO H f o with
  |true=>rfl
  |false =>
   rw [jR hE] at h
   obtain ⟨a,ha⟩:=ZK hE h
   cases ha
 refine ⟨hE,?_⟩
 clear hE
 unfold ZA at h
 generalize o.op=op at *
 cases op<;>try rfl
 all_goals
  exfalso
  simp only [jr,opA] at h
  first
   |(obtain ⟨a,_,ha⟩:=qC h;cases ha;done)
   |(simp only [vsA,map_eq_some_iff] at h;obtain ⟨q,_,hq⟩:=h;cases hq;done)
   |(simp only [usA,map_eq_some_iff] at h;obtain ⟨q,_,hq⟩:=h;cases hq;done)
   |skip
 all_goals first
  |(simp at h;done)
  |skip
 case makeMap t r=>cases r<;>simp at h
 case defer c =>
  simp only [Ub] at h
  split at h
  ·obtain ⟨fv,_,h2⟩:=bind_eq_some_iff.1 h
   split at h2
   ·obtain ⟨q,_,hq⟩:=map_eq_some_iff.1 h2;cases hq
   ·simp at h2
  ·simp at h
end
end Go.Abs
namespace Go.Abs
open Go Go.RowKit
section
variable {P:Program} {H:zN} {W:World} {bs:Nat} {σ σ':Gh} {st:St} {w:World} {f:FuncId} {nt base:Nat} {callF:jX} {ops:Array Oper} {id:Nat}
abbrev Sit.look (x:Sit) (t:Nat):Option AV:=Go.Abs.look x.1 x.2.1.env t
abbrev Sit.objs (x:Sit):St:=x.2.2
abbrev Sit.defers (x:Sit):List (FuncId×List AV):=x.2.1.defers
theorem UH {o:Oper} {x y:Sit} {j:Nat} (hd:D1 H f id ops j o) (h:GB P H callF f base ops o x y) (hs:Qf H f x.1 x.2.1.env) :
  Qf H f y.1 y.2.1.env∧(∀t,o.dst≠some t→y.look t=x.look t)∧(isO H f o=false→y.objs=x.objs∧y.defers=x.defers):=by
 have lk:∀(v:AV) (t:Nat),o.dst≠some t→look (jY H f o.dst v x.1 x.2.1.env).1 (jY H f o.dst v x.1 x.2.1.env).2 t=look x.1 x.2.1.env t:=fun v t ht=>by
  cases hod:o.dst with
  |none=>rfl
  |some d =>
   rw [Qu hs,if_neg (fun e=>ht (by rw [hod,e]))]
 rcases h with ⟨_,rfl⟩ | ⟨_,r,hr,hl⟩
 ·exact ⟨hs.put,fun t ht=>lk qm t ht,fun _=>⟨rfl,rfl⟩⟩
 ·obtain ⟨res,st'⟩:=r
  cases res with
  |val v =>
   simp only [jc] at hl
   split at hl
   ·rename_i hod
    simp only [Option.some.injEq] at hl
    subst hl
    refine ⟨hs,fun t ht=>rfl,fun hE=>?_⟩
    unfold ZB at hr
    rw [jR hE] at hr
    obtain ⟨a,ha⟩:=ZK hE hr
    cases ha
    exact ⟨rfl,rfl⟩
   ·rename_i d hod
    obtain ⟨q,hq,rfl⟩:=map_eq_some_iff.1 hl
    refine ⟨hs.put,fun t ht=>by have:=lk q.1 t ht;rw [hod] at this;exact this,fun hE=>?_⟩
    unfold ZB at hr
    rw [jR hE] at hr
    obtain ⟨a,ha⟩:=ZK hE hr
    cases ha
    rw [if_neg (by simp [hd.nf hE d hod])] at hq
    simp only [Option.some.injEq] at hq
    subst hq
    exact ⟨rfl,rfl⟩
  |skip =>
   simp only [jc,Option.some.injEq] at hl
   subst hl
   refine ⟨hs.put,fun t ht=>lk qm t ht,fun hE=>?_⟩
   unfold ZB at hr
   rw [jR hE] at hr
   obtain ⟨a,ha⟩:=ZK hE hr
   cases ha
  |defer g as =>
   simp only [jc,Option.some.injEq] at hl
   subst hl
   refine ⟨hs.put,fun t ht=>lk qm t ht,fun hE=>?_⟩
   unfold ZB at hr
   rw [jR hE] at hr
   obtain ⟨a,ha⟩:=ZK hE hr
   cases ha
  |pan v=>simp [jc] at hl
structure Qk (P:Program) (H:zN) (callF:jX) (f:FuncId) (base id:Nat) (ops:Array Oper) (xs:Nat→Sit) (m:Nat):Prop where
 le:m≤ops.size
 step:∀j,j<m→∃o,ops[j]?=some o∧GB P H callF f base ops o (xs j) (xs (j+1))
 chk:WG H f id ops=true
 shp:Qf H f (xs 0).1 (xs 0).2.1.env
variable {xs:Nat→Sit} {m:Nat}
theorem Qk.shape (h:Qk P H callF f base id ops xs m):∀j,j≤m→Qf H f (xs j).1 (xs j).2.1.env
 | 0,_=>h.shp
 |j+1,hj=>by
  obtain ⟨o,ho,hs⟩:=h.step j (by omega)
  exact (UH (D1.of h.chk ho) hs (h.shape j (by omega))).1
theorem Qk.facts (h:Qk P H callF f base id ops xs m) {j:Nat} {o:Oper} (hj:j<m) (ho:ops[j]?=some o) :
  GB P H callF f base ops o (xs j) (xs (j+1))∧(∀t,o.dst≠some t→(xs (j+1)).look t=(xs j).look t)∧(isO H f o=false→(xs (j+1)).objs=(xs j).objs∧(xs (j+1)).defers=(xs j).defers):=by
 obtain ⟨o',ho',hs⟩:=h.step j hj
 rw [ho] at ho';cases ho'
 exact ⟨hs,(UH (D1.of h.chk ho) hs (h.shape j (by omega))).2⟩
theorem Qk.same_look (h:Qk P H callF f base id ops xs m) {t:Nat} {i:Nat}:∀k,i+k≤m→(∀j o,i≤j→j<i+k→ops[j]?=some o→o.dst≠some t)→(xs (i+k)).look t=(xs i).look t
 | 0,_,_=>rfl
 |k+1,hk,hn=>by
  obtain ⟨o,ho,_⟩:=h.step (i+k) (by omega)
  rw [←Nat.add_assoc,(h.facts (by omega) ho).2.1 t (hn (i+k) o (by omega) (by omega) ho)]
  exact h.same_look k (by omega) fun j o h1 h2=>hn j o h1 (by omega)
theorem Qk.look_to (h:Qk P H callF f base id ops xs m) {t i j:Nat} (hij:i≤j) (hj:j≤m) (hn:∀k o,i≤k→k<j→ops[k]?=some o→o.dst≠some t):(xs j).look t=(xs i).look t:=by
 have:=h.same_look (t:=t) (i:=i) (j - i) (by omega) fun k o h1 h2=>hn k o h1 (by omega)
 rwa [show i+(j - i)=j by omega] at this
theorem Qk.same_st (h:Qk P H callF f base id ops xs m) {i:Nat}:∀k,i+k≤m→(∀j o,i≤j→j<i+k→ops[j]?=some o→isO H f o=false)→(xs (i+k)).objs=(xs i).objs∧(xs (i+k)).defers=(xs i).defers
 | 0,_,_=>⟨rfl,rfl⟩
 |k+1,hk,hn=>by
  obtain ⟨o,ho,_⟩:=h.step (i+k) (by omega)
  have h1:=(h.facts (by omega) ho).2.2 (hn (i+k) o (by omega) (by omega) ho)
  have h2:=h.same_st k (by omega) fun j o h1 h2=>hn j o h1 (by omega)
  rw [←Nat.add_assoc]
  exact ⟨h1.1.trans h2.1,h1.2.trans h2.2⟩
theorem Qk.st_to (h:Qk P H callF f base id ops xs m) {i j:Nat} (hi:i≤m) (hj:j≤m) (hn:∀k o,ops[k]?=some o→isO H f o=true→(k<i↔k<j)):(xs j).objs=(xs i).objs∧(xs j).defers=(xs i).defers:=by
 rcases Nat.le_total i j with hij | hij
 ·have:=h.same_st (i:=i) (j - i) (by omega) fun k o h1 h2 ho=>by
   cases hE:isO H f o with
   |false=>rfl
   |true=>have:=(hn k o ho hE).2 (by omega);omega
  rwa [show i+(j - i)=j by omega] at this
 ·have:=h.same_st (i:=j) (i - j) (by omega) fun k o h1 h2 ho=>by
   cases hE:isO H f o with
   |false=>rfl
   |true=>have:=(hn k o ho hE).1 (by omega);omega
  rw [show j+(i - j)=i by omega] at this
  exact ⟨this.1.symm,this.2.symm⟩
theorem Qk.read (h:Qk P H callF f base id ops xs m) {i k:Nat} {o:Oper} {t:Nat} (ho:ops[i]?=some o) (hik:i≤k) (hk:k≤m) (hsee:Ym o.op=true) (ht:t ∈ Qi H f ops o):(xs k).look t=(xs i).look t :=
 h.look_to hik hk fun j oj h1 h2 hj e=>by
  rcases (D1.of h.chk ho).rd j oj t hj e ht with h3 | h3
  ·have:=h3.1;omega
  ·rw [hsee] at h3;cases h3.2.2
theorem Qk.writes (h:Qk P H callF f base id ops xs m) {i k:Nat} {o:Oper} {t:Nat} (ho:ops[i]?=some o) (hd:o.dst=some t) (hik:i+1≤k) (hk:k≤m):(xs k).look t=(xs (i+1)).look t :=
 h.look_to hik hk fun j oj h1 h2 hj e=>by
  have:=(D1.of h.chk ho).wr j oj t hj e hd
  omega
theorem Mc {loc env loc' env':Env} {o:Oper} (h:∀t ∈ Qi H f ops o,look loc env t=look loc' env' t):Zg ops loc env o=Zg ops loc' env' o:=by
 unfold Zg
 cases hg:o.guard with
 |none=>rfl
 |some q =>
  obtain ⟨j,want⟩:=q
  simp only
  cases hd:(ops[j]?).bind (·.dst) with
  |none=>rfl
  |some d =>
   have:look loc env d=look loc' env' d:=h d (by simp [Qi,hg,hd])
   simp only [bind_some,this]
theorem GF {loc env loc' env':Env} {o:Oper} (h:∀t ∈ Qi H f ops o,look loc env t=look loc' env' t):∀x ∈ Yg H f o,evO H loc env x=evO H loc' env' x:=by
 intro x hx
 cases x with
 |tmp t=>exact h t (List.mem_append_left _ (List.mem_filterMap.2 ⟨.tmp t,hx,rfl⟩))
 |_=>rfl
def JD (H:zN) (f:FuncId) (ops:Array Oper) (p:Nat):Nat:=(List.range p).countP fun i=>eOf H f (ops[i]?)
theorem Kp (p:Nat):JD H f ops (p+1)=JD H f ops p+if eOf H f (ops[p]?) then 1 else 0:=by
 unfold JD
 rw [List.range_succ,List.countP_append,List.countP_singleton]
theorem Kv {p q:Nat} (h:p≤q):JD H f ops p≤JD H f ops q:=by
 induction q with
 |zero=>rw [show p=0 by omega];exact Nat.le_refl _
 |succ q ih =>
  by_cases e:p=q+1
  ·subst e;exact Nat.le_refl _
  ·rw [Kp];have:=ih (by omega);omega
def Zs (H:zN) (f:FuncId) (ops:Array Oper) (xs:Nat→Sit) (m:Nat):List St :=
 (List.range m).foldl (fun tr j=>match ops.toList[j]? with | some o=>VW H f o (xs (j+1)).2.2 tr | none=>tr) [(xs 0).2.2]
theorem Mf (m:Nat):Zs H f ops xs (m+1)=(match ops.toList[m]? with | some o=>VW H f o (xs (m+1)).2.2 (Zs H f ops xs m) | none=>Zs H f ops xs m):=by
 simp only [Zs,List.range_succ,List.foldl_append,List.foldl_cons,List.foldl_nil]
theorem Kc (h:Qk P H callF f base id ops xs m):∀k,k≤m→(Zs H f ops xs k).length=JD H f ops k+1∧∀p,p≤k→(Zs H f ops xs k)[(Zs H f ops xs k).length - 1 - JD H f ops p]?=some (xs p).objs
 | 0,_=>⟨rfl,fun p hp=>by
   have:p=0:=by omega
   subst this;rfl⟩
 |k+1,hk=>by
  obtain ⟨h1,h2⟩:=Kc h k (by omega)
  obtain ⟨o,ho,_⟩:=h.step k (by omega)
  have ho':ops.toList[k]?=some o:=by simpa using ho
  have hf:=h.facts (by omega) ho
  rw [Mf,ho']
  have hs:=Kp (H:=H) (f:=f) (ops:=ops) k
  rw [ho] at hs
  simp only [eOf] at hs
  cases hE:isO H f o with
  |false =>
   simp only [VW,hE,Bool.false_eq_true,if_false] at hs ⊢
   refine ⟨by simp [h1,hs],fun p hp=>?_⟩
   by_cases e:p=k+1
   ·subst e
    rw [hs,Nat.add_zero,h2 k (Nat.le_refl _),(hf.2.2 hE).1]
   ·exact h2 p (by omega)
  |true =>
   simp only [VW,hE,if_true] at hs ⊢
   refine ⟨by simp [h1,hs],fun p hp=>?_⟩
   by_cases e:p=k+1
   ·subst e
    simp [h1,hs]
   ·have hm:=Kv (H:=H) (f:=f) (ops:=ops) (show p≤k by omega)
    rw [List.length_cons,show (Zs H f ops xs k).length+1 - 1 - JD H f ops p=((Zs H f ops xs k).length - 1 - JD H f ops p)+1 by omega,List.getElem?_cons_succ]
    exact h2 p (by omega)
end
end Go.Abs
namespace Go.Abs
open Go Go.RowKit
section
variable {P:Program} {H:zN} {W:World} {bs:Nat} {σ σ' σ'':Gh} {st:St} {w w':World} {f:FuncId} {nt base:Nat} {callF:jX} {ops:Array Oper} {id:Nat} {xs:Nat→Sit} {m p:Nat} {L:Nat→Prop} {a a':Act}
structure Inv (P:Program) (H:zN) (f:FuncId) (W:World) (bs nt:Nat) (ops:Array Oper) (xs:Nat→Sit) (m p:Nat) (L:Nat→Prop) (σ:Gh) (a:Act) (w:World):Prop where
 closed:BZ ops L
 lt:∀j,L j→j<m
 ple:p≤m
 pos:∀(i:Nat) (o:Oper),ops[i]?=some o→isO H f o=true→(L i↔i<p)
 wf:WF P W bs σ (xs p).objs w
 defs:jE P σ a.defers (xs p).defers
 size:nt≤a.tmps.size
 done:∀(j:Nat) (o:Oper) (t:Nat) (v:AV),L j→ops[j]?=some o→o.dst=some t→(xs (j+1)).look t=some v→Rep P σ (a.tmps.getD t undef) v
 old:∀(t:Nat) (v:AV),(∀(j:Nat) (o:Oper),L j→ops[j]?=some o→o.dst≠some t)→(xs 0).look t=some v→Rep P σ (a.tmps.getD t undef) v
def Gg (L:Nat→Prop) (o:Oper):Prop:=∀e ∈ o.after.toList,Region.binds .any e=true→L e.on
theorem Inv.anc (h:Inv P H f W bs nt ops xs m p L σ a w) {i:Nat} {o:Oper} (ho:ops[i]?=some o) (hb:Gg L o) {k:Nat} (hk:Bit ops i k):L k:=UJ h.closed i o ho hb k hk
theorem Inv.bound (h:Inv P H f W bs nt ops xs m p L σ a w) {i:Nat} {o:Oper} (ho:ops[i]?=some o) (hi:L i):Gg L o:=h.closed i o hi ho
theorem Inv.read (h:Inv P H f W bs nt ops xs m p L σ a w) (hR:Qk P H callF f base id ops xs m) {i:Nat} {o:Oper} (him:i≤m) (ho:ops[i]?=some o) (hb:Gg L o) (hn:¬L i) {t:Nat} (ht:t ∈ Qi H f ops o) {v:AV}
  (hv:(xs i).look t=some v):Rep P σ (a.tmps.getD t undef) v:=by
 by_cases hw:∃(k:Nat) (ok:Oper),ops[k]?=some ok∧ok.dst=some t
 ·obtain ⟨k,ok,hk,hkt⟩:=hw
  rcases (D1.of hR.chk ho).rd k ok t hk hkt ht with ⟨h1,h2⟩ | ⟨h1,h2,_⟩
  ·have hL:=h.anc ho hb h2
   refine h.done k ok t v hL hk hkt ?_
   rw [←hR.writes hk hkt (show k+1≤i from h1) him];exact hv
  ·have uniq:∀(j:Nat) (oj:Oper),ops[j]?=some oj→oj.dst=some t→j=k:=fun j oj hj e=>(D1.of hR.chk hk).wr j oj t hj e hkt
   refine h.old t v (fun j oj hLj hj e=>?_) ?_
   ·have:=uniq j oj hj e
    subst this
    exact hn (h.anc hk (h.bound hk hLj) h2)
   ·rw [←hR.look_to (Nat.zero_le i) him fun j oj _ hji hj e=>?_]
    ·exact hv
    ·have:=uniq j oj hj e;omega
 ·refine h.old t v (fun j o hj hjo e=>hw ⟨j,o,hjo,e⟩) ?_
  rw [←hR.look_to (Nat.zero_le i) him fun k o _ _ hk e=>hw ⟨k,o,hk,e⟩];exact hv
theorem Inv.posE (h:Inv P H f W bs nt ops xs m p L σ a w) (hR:Qk P H callF f base id ops xs m) {i:Nat} {o:Oper} (ho:ops[i]?=some o) (hE:isO H f o=true) (hb:Gg L o) (hn:¬L i) :
  ∀(k:Nat) (ok:Oper),ops[k]?=some ok→isO H f ok=true→(k<p↔k<i):=by
 intro k ok hk hkE
 rw [←h.pos k ok hk hkE]
 constructor
 ·intro hL
  rcases Nat.lt_trichotomy k i with h1 | h1 | h1
  ·exact h1
  ·subst h1;exact absurd hL hn
  ·exact absurd (h.anc hk (h.bound hk hL) ((D1.of hR.chk hk).ee hkE i o ho hE h1)) hn
 ·intro hki
  exact h.anc ho hb ((D1.of hR.chk ho).ee hE k ok hk hkE hki)
theorem Inv.put (h:Inv P H f W bs nt ops xs m p L σ a w) (hR:Qk P H callF f base id ops xs m) (hl:σ.Le σ') {i:Nat} {o:Oper} {v:Value} {p':Nat} (ho:ops[i]?=some o) (him:i<m) (hb:Gg L o) (hn:¬L i)
  (hd:∀d,o.dst=some d→d<nt) (hwf:WF P W bs σ' (xs p').objs w') (hp:p'=if isO H f o then i+1 else p) (hdefs:jE P σ' a'.defers (xs p').defers) (htm:a'.tmps=(a.put o.dst v).tmps)
  (hv:∀d u,o.dst=some d→(xs (i+1)).look d=some u→Rep P σ' v u):Inv P H f W bs nt ops xs m p' (fun j=>L j∨j=i) σ' a' w':=by
 have hD:=D1.of hR.chk ho
 have hget:∀t,o.dst≠some t→a'.tmps.getD t undef=a.tmps.getD t undef:=fun t ht=>by
  rw [htm]
  cases hod:o.dst with
  |none=>rfl
  |some d =>
   have hdn:=hd d hod
   show (a.tmps.setIfInBounds d v).getD t undef=_
   rw [XT _ _ _ _ (Nat.lt_of_lt_of_le hdn h.size),if_neg (fun e=>ht (by rw [hod,e]))]
 refine ⟨fun j oj hj hjo e he hbd=>?_,fun j hj=>?_,?_,fun k ok hk hkE=>?_,hwf,hdefs,?_,fun j oj t u hj hjo ht hu=>?_,fun t u hnw hu=>?_⟩
 ·rcases hj with hj | rfl
  ·exact .inl (h.closed j oj hj hjo e he hbd)
  ·rw [ho] at hjo;cases hjo
   exact .inl (hb e he hbd)
 ·rcases hj with hj | rfl
  ·exact h.lt j hj
  ·exact him
 ·rw [hp];split
  ·omega
  ·exact h.ple
 ·rw [hp]
  split
  ·rename_i hE
   have:=h.posE hR ho hE hb hn k ok hk hkE
   rw [h.pos k ok hk hkE,this]
   constructor
   ·rintro (h1 | rfl)<;>omega
   ·intro h1
    by_cases e:k=i
    ·exact .inr e
    ·exact .inl (by omega)
  ·rename_i hE
   rw [h.pos k ok hk hkE]
   constructor
   ·rintro (h1 | rfl)
    ·exact h1
    ·rw [ho] at hk;cases hk;exact absurd hkE hE
   ·exact .inl
 ·rw [htm]
  cases o.dst with
  |none=>exact h.size
  |some d=>show nt≤(a.tmps.setIfInBounds d v).size;simpa using h.size
 ·rcases hj with hj | rfl
  ·rw [hget t fun e=>?_]
   ·exact (h.done j oj t u hj hjo ht hu).mono hl
   ·have:=hD.wr j oj t hjo ht e
    subst this;exact hn hj
  ·rw [ho] at hjo;cases hjo
   have hdn:=hd t ht
   rw [htm,ht]
   show Rep P σ' ((a.tmps.setIfInBounds t v).getD t undef) u
   rw [XT _ _ _ _ (Nat.lt_of_lt_of_le hdn h.size),if_pos rfl]
   exact hv t u ht hu
 ·rw [hget t (hnw i o (.inr rfl) ho)]
  exact (h.old t u (fun j oj hj=>hnw j oj (.inl hj)) hu).mono hl
theorem Lh {a:Act} {loc env:Env} {o:Oper} {b:Bool} (h:∀(t:Nat) (v:AV),t ∈ Qi H f ops o→look loc env t=some v→Rep P σ (a.tmps.getD t undef) v) (hw:Zg ops loc env o=some b):Region.wanted o (yielded ops a.tmps)=b:=by
 unfold Zg at hw
 unfold Region.wanted
 split at hw
 ·rename_i hg
  cases hw
  rw [hg]
 ·rename_i j want hg
  obtain ⟨d,hd,h2⟩:=bind_eq_some_iff.1 hw
  obtain ⟨v,hv,h3⟩:=bind_eq_some_iff.1 h2
  have hr:=h d v (by simp [Qi,hg,hd]) hv
  rw [hg]
  unfold yielded
  simp only [hd,bind_some]
  split at h3
  ·rename_i b'
   cases h3
   generalize hx:a.tmps.getD d undef=x at hr
   cases hr
   have:a.tmps[d]?=some (.bool b'):=by
    rw [Array.getD_eq_getD_getElem?] at hx
    cases he:a.tmps[d]? with
    |none=>rw [he] at hx;simp [undef] at hx
    |some y=>rw [he] at hx;simp at hx;rw [hx]
   rw [this]
   cases b'<;>cases want<;>rfl
  ·cases h3
   generalize hx:a.tmps.getD d undef=x at hr
   cases hr with
   |tup cs as hs hR =>
   have:a.tmps[d]?=none∨a.tmps[d]?=some (.tuple cs):=by
    rw [Array.getD_eq_getD_getElem?] at hx
    cases he:a.tmps[d]? with
    |none=>exact .inl rfl
    |some y=>rw [he] at hx;simp at hx;rw [hx];exact .inr rfl
   rcases this with e | e<;>rw [e]<;>rfl
  ·simp at h3
open Classical in
noncomputable def Me (H:zN) (f:FuncId) (o:Oper) (x:Sit) (y:Operand):Option AV:=if y ∈ Yg H f o then evO H x.1 x.2.1.env y else none
theorem KO {o:Oper} {x:Sit}:∀y ∈ Yg H f o,Me H f o x y=evO H x.1 x.2.1.env y:=fun y hy=>by unfold Me;rw [if_pos hy]
theorem VU {o:Oper} {x:Sit} (hg:qx P H σ) (h:∀(t:Nat) (v:AV),t ∈ Qi H f ops o→x.look t=some v→Rep P σ (a.tmps.getD t undef) v):∀y v,Me H f o x y=some v→Rep P σ (a.eval y) v:=by
 intro y v hv
 unfold Me at hv
 split at hv
 ·rename_i hy
  cases y with
  |tmp t=>exact h t v (List.mem_append_left _ (List.mem_filterMap.2 ⟨.tmp t,hy,rfl⟩)) hv
  |const u=>exact ZF 6 u v hv
  |global g =>
   obtain ⟨row,hr,rfl⟩:=map_eq_some_iff.1 hv
   exact hg g row hr
  |func g =>
   simp only [evO,Option.some.injEq] at hv
   subst hv
   exact .fn g #[] [] rfl (by simp)
 ·simp at hv
theorem zaN (h:Inv P H f W bs nt ops xs m p L σ a w) (hm:m≤ops.size):∀(q:Nat→Bool),(∀i o,ops[i]?=some o→isO H f o=true→i<p→q i=true) →
  JD H f ops p≤(List.range ops.size).countP fun i=>eOf H f (ops[i]?)&&q i:=by
 intro q hq
 have hsub:(List.range p).Sublist (List.range ops.size):=List.range_sublist.2 (Nat.le_trans h.ple hm)
 refine Nat.le_trans ?_ (hsub.countP_le)
 unfold JD
 refine List.countP_mono_left fun i hi he=>?_
 have hip:=List.mem_range.1 hi
 simp only [Bool.and_eq_true]
 refine ⟨he,?_⟩
 cases ho:ops[i]? with
 |none=>rw [ho] at he;simp [eOf] at he
 |some o=>rw [ho] at he;exact hq i o ho he hip
theorem zaM (h:Inv P H f W bs nt ops xs m p L σ a w) (hm:m≤ops.size):∀(q:Nat→Bool),(∀i o,ops[i]?=some o→isO H f o=true→q i=true→i<p) →
  ((List.range ops.size).countP fun i=>eOf H f (ops[i]?)&&q i)≤JD H f ops p:=by
 intro q hq
 have hp:p≤ops.size:=Nat.le_trans h.ple hm
 have key:∀n,p≤n→n≤ops.size→((List.range n).countP fun i=>eOf H f (ops[i]?)&&q i)≤JD H f ops p:=by
  intro n
  induction n with
  |zero=>intro h1 _;rw [show p=0 by omega];exact Nat.le_refl _
  |succ n ih =>
   intro h1 h2
   by_cases e:p=n+1
   ·subst e
    unfold JD
    refine List.countP_mono_left fun i hi he=>?_
    simp only [Bool.and_eq_true] at he
    exact he.1
   ·rw [List.range_succ,List.countP_append,List.countP_singleton]
    have hz:(eOf H f (ops[n]?)&&q n)=false:=by
     cases hc:(eOf H f (ops[n]?)&&q n) with
     |false=>rfl
     |true =>
      simp only [Bool.and_eq_true] at hc
      cases ho:ops[n]? with
      |none=>rw [ho] at hc;simp [eOf] at hc
      |some o =>
       rw [ho] at hc
       have:=hq n o ho hc.1 hc.2
       omega
    rw [hz]
    have:=ih (by omega) (by omega)
    simpa using this
 exact key ops.size hp (Nat.le_refl _)
end
end Go.Abs
namespace Go.Abs
open Go Go.RowKit
section
variable {P:Program} {H:zN} {W:World} {bs:Nat} {σ σ' σ'':Gh} {st:St} {w w':World} {f:FuncId} {nt base:Nat} {callF:jX} {ops:Array Oper} {id:Nat} {xs:Nat→Sit} {m p:Nat} {L:Nat→Prop} {a a':Act}
theorem BP (hc:WG H f id ops=true) {j i:Nat} {o:Oper} (ho:ops[j]?=some o) (hb:Bit ops j i):i<j :=
 UJ (L:=fun k=>k<j) (fun k ok hk hok e he hbd=>by have:=(D1.of hc hok).low e he hbd;omega) j o ho (fun e he hbd=>(D1.of hc ho).low e he hbd) i hb
theorem Gx {ev ev':Operand→Option AV} {op:Op} (h:∀x ∈ op.operands.toList,ev x=ev' x):jq ev op=jq ev' op:=by
 cases op<;>try rfl
 case slice t x lo hi mx=>simp only [jq];rw [h x (by simp [Op.operands])]
 case indexAddr t x i=>simp only [jq];rw [h x (by simp [Op.operands])]
 case load t a=>simp only [jq];rw [h a (by simp [Op.operands])]
 case call c =>
  simp only [jq]
  cases hc:c.callee with
  |builtin b =>
   cases b<;>try rfl
   simp only
   cases ha:c.args.toList with
   |nil=>rfl
   |cons x r =>
    cases r with
    |nil =>
     have:x ∈ c.args:=by
      have:x ∈ c.args.toList:=by rw [ha];simp
      simpa using this
     simp only [h x (by simp [Op.operands,Call.operands,this])]
    |cons y r=>rfl
  |_=>rfl
theorem Vz (h:Inv P H f W bs nt ops xs m p L σ a w) (hR:Qk P H callF f base id ops xs m) {i:Nat} {o:Oper} (ho:ops[i]?=some o) (him:i<m) (hb:Gg L o) (hn:¬L i) (hE:isO H f o=false) {x:AV}
  (hw:Zg ops (xs i).1 (xs i).2.1.env o=some true) (hst:ZB P H callF f base o (xs i).1 (xs i).2.1.env (xs i).objs=some (.val x,(xs i).objs)) (hx:∀d,o.dst=some d→(xs (i+1)).look d=some x)
  (hrc:∀x ∈ H.recheck f id,Qv P H f base ops (xs m).1 (xs m).2.1.env (Zs H f ops xs m) m x=true) :
  ZA P H callF f base o (Me H f o (xs i)) (xs p).objs=some (.val x,(xs p).objs):=by
 unfold ZB at hst
 rw [jR hE] at hst ⊢
 have hcg:∀s,opA P H f (Me H f o (xs i)) s base o.dst o.op=opA P H f (evO H (xs i).1 (xs i).2.1.env) s base o.dst o.op:=fun s=>WO (KO (x:=xs i))
 rw [hcg]
 cases hs:Ym o.op with
 |false=>exact FM hE hs hst
 |true =>
  rcases (D1.of hR.chk ho).see hE hs with hcmp | ⟨x',hx',h1,h2,h3⟩
  ·have:=(hR.st_to (i:=p) (j:=i) h.ple (by omega) fun k ok hk hkE=>by
    rw [←h.pos k ok hk hkE]
    constructor
    ·intro hL
     rcases hcmp k ok hk hkE with hb' | hb'
     ·exact BP hR.chk ho hb'
     ·exact absurd (h.anc hk (h.bound hk hL) hb') hn
    ·intro hki
     rcases hcmp k ok hk hkE with hb' | hb'
     ·exact h.anc ho hb hb'
     ·have:=BP hR.chk hk hb';omega).1
   rw [←this];exact hst
  ·have ha:=hrc x' hx'
   unfold Qv at ha
   rw [if_neg (by omega),h1,ho] at ha
   simp only at ha
   have hw':Zg ops (xs m).1 (xs m).2.1.env o=some true:=by
    rw [←hw];exact Mc fun t ht=>hR.read ho (Nat.le_of_lt him) (Nat.le_refl m) hs ht
   rw [hw'] at ha
   simp only at ha
   by_cases hso:jq (evO H (xs m).1 (xs m).2.1.env) o.op=true
   ·have hev0:jq (evO H (xs i).1 (xs i).2.1.env) o.op=true:=by
     rw [←hso]
     exact Gx fun y hy=>(GF fun t ht=>hR.read ho (Nat.le_of_lt him) (Nat.le_refl m) hs ht) y (List.mem_append_left _ hy) |>.symm
    exact NO hE hev0 hst
   rw [if_neg hso] at ha
   cases hod:o.dst with
   |none=>rw [hod] at ha;simp at ha
   |some d =>
    have hl:look (xs m).1 (xs m).2.1.env d=some x:=by
     rw [←hx d hod];exact hR.writes ho hod him (Nat.le_refl m)
    rw [hod] at ha
    simp only [bind_some,hl] at ha
    obtain ⟨t1,t2⟩:=Kc hR m (Nat.le_refl m)
    have hcp:JD H f ops p≤JD H f ops m:=Kv h.ple
    have ha2:=List.all_eq_true.1 ha (JD H f ops p) (List.mem_range.2 (by omega))
    have hlo:x'.2.1≤JD H f ops p:=Nat.le_trans h2 (zaM h hR.le _ fun k ok hk hkE hbit=>(h.pos k ok hk hkE).1 (h.anc ho hb hbit))
    have hhi:JD H f ops p≤x'.2.2:=by
     refine Nat.le_trans (zaN h hR.le (fun k=>!((Ud ops).getD k 0).testBit i) fun k ok hk hkE hkp=>?_) h3
     simp only [Bool.not_eq_true']
     cases hbit:((Ud ops).getD k 0).testBit i with
     |false=>rfl
     |true=>exact absurd (h.anc hk (h.bound hk ((h.pos k ok hk hkE).2 hkp)) hbit) hn
    rw [if_pos ⟨hlo,hhi⟩,t2 p h.ple] at ha2
    simp only at ha2
    have hev:opA P H f (evO H (xs m).1 (xs m).2.1.env) (xs p).objs base o.dst o.op=opA P H f (evO H (xs i).1 (xs i).2.1.env) (xs p).objs base o.dst o.op :=
     WO (GF fun t ht=>hR.read ho (Nat.le_of_lt him) (Nat.le_refl m) hs ht)
    rw [hod] at hev
    rw [hev] at ha2
    split at ha2
    ·rename_i v' s' hop
     have hop':opA P H f (evO H (xs i).1 (xs i).2.1.env) (xs p).objs base o.dst o.op=some (.val v',s'):=by rw [hod];exact hop
     obtain ⟨a',ha'⟩:=ZK hE hop'
     cases ha'
     rw [hop,AV.beq_eq _ _ ha2]
    ·simp at ha2
def zag (P:Program) (H:zN) (callF:jX) (f:FuncId) (base id:Nat) (ops:Array Oper) (xs:Nat→Sit) (m:Nat) (r:AX×Fr×St):Prop :=
 (r.1 = .normal∧m=ops.size∧r.2.1=(xs m).2.1∧r.2.2=(xs m).objs) ∨
 ∃v o,r.1 = .panic v∧ops[m]?=some o∧Zg ops (xs m).1 (xs m).2.1.env o=some true∧ZB P H callF f base o (xs m).1 (xs m).2.1.env (xs m).objs=some (.pan v,r.2.2)∧H.pok f id=true ∧
  r.2.1={(xs m).2.1 with env:=(xs 0).2.1.env.filter fun p=>!(ops.toList.any fun o=>o.dst==some p.1)}
theorem WK {listed:Array Bool} {i:Nat} (hs:listed.size=ops.size):i ∈ Region.ready .any ops listed↔∃o,ops[i]?=some o∧¬listed.getD i false=true∧Gg (fun j=>listed.getD j false=true) o:=by
 unfold Region.ready
 rw [List.mem_filter,List.mem_range]
 constructor
 ·rintro ⟨hi,h⟩
  simp only [Bool.and_eq_true,Bool.not_eq_true'] at h
  refine ⟨ops[i],by simp [hi],?_,fun e he hb=>?_⟩
  ·have:=h.1
   rw [Array.getD_eq_getD_getElem?] at this ⊢
   rw [Array.getElem?_eq_getElem (by omega)] at this ⊢
   simpa using this
  ·have h2:=h.2
   rw [Array.getElem?_eq_getElem hi] at h2
   simp only [map_some,Option.getD_some,Array.all_eq_true_iff_forall_mem] at h2
   have:=h2 e (by simpa using he)
   simpa [hb] using this
 ·rintro ⟨o,ho,hn,hb⟩
  have hi:=(Array.getElem?_eq_some_iff.1 ho).1
  refine ⟨hi,?_⟩
  simp only [Bool.and_eq_true,Bool.not_eq_true']
  refine ⟨?_,?_⟩
  ·rw [Array.getD_eq_getD_getElem?] at hn ⊢
   rw [Array.getElem?_eq_getElem (by omega)] at hn ⊢
   simpa using hn
  ·rw [ho]
   simp only [map_some,Option.getD_some,Array.all_eq_true_iff_forall_mem]
   intro e he
   cases hbd:Region.binds .any e with
   |false=>rfl
   |true=>simpa using hb e (by simpa using he) hbd
theorem Dq {listed:Array Bool} {i:Nat} (hi:i<listed.size):(fun j=>(listed.setIfInBounds i true).getD j false=true)=(fun j=>listed.getD j false=true∨j=i):=by
 funext j
 simp only [Array.getD_eq_getD_getElem?]
 by_cases e:j=i
 ·subst e
  simp [hi]
 ·rw [Array.getElem?_setIfInBounds_ne (fun x=>e x.symm)]
  simp [e]
theorem VS (hc:WG H f id ops=true) {listed:Array Bool} (hs:listed.size=ops.size) (hr:Region.ready .any ops listed=[]):∀i,i<ops.size→listed.getD i false=true:=by
 intro i
 induction i using Nat.strongRecOn with
 |_ i ih =>
  intro hi
  by_cases hl:listed.getD i false=true
  ·exact hl
  ·exfalso
   have ho:ops[i]?=some ops[i]:=by simp [hi]
   have:i ∈ Region.ready .any ops listed:=(WK hs).2 ⟨ops[i],ho,hl,fun e he hb=>by
    have:=(D1.of hc ho).low e he hb
    exact ih e.on this (by omega)⟩
   rw [hr] at this
   simp at this
variable {σ0:Gh} {r:AX×Fr×St}
theorem Mm (h:Inv P H f W bs nt ops xs m p L σ a w) (hR:Qk P H callF f base id ops xs m) (hl:σ0.Le σ) (hend:zag P H callF f base id ops xs m r) (hall:∀i,i<ops.size→L i):jP P H W bs f nt σ0 r .normal a w:=by
 rcases hend with ⟨h1,h2,h3,h4⟩ | ⟨v,o,_,ho,_⟩
 ·obtain ⟨e1,e2⟩:=hR.st_to (i:=p) (j:=m) h.ple (Nat.le_refl m) fun k ok hk hkE=>by
   have hkL:=hall k (Array.getElem?_eq_some_iff.1 hk).1
   exact ⟨fun _=>h.lt k hkL,fun _=>(h.pos k ok hk hkE).1 hkL⟩
  refine ⟨σ,hl,by rw [h4,e1];exact h.wf,⟨⟨h.size,fun t u hu=>?_,fun t u hu=>by simp [Env.get] at hu,?_,?_⟩,?_⟩,by rw [h1];trivial⟩
  ·have hu':Env.get (xs m).2.1.env t=some u:=by rw [←h3];simpa [look,Env.get] using hu
   have hlk:(xs m).look t=some u:=by
    show look _ _ _=_
    unfold look
    cases hloc:Env.get (xs m).1 t with
    |none=>exact hu'
    |some u2 =>
     have q1:=(hR.shape m (Nat.le_refl m)).loc t u2 hloc
     have q2:=(hR.shape m (Nat.le_refl m)).kept t u hu'
     rw [q1] at q2;simp at q2
   by_cases hwr:∃(k:Nat) (ok:Oper),ops[k]?=some ok∧ok.dst=some t
   ·obtain ⟨k,ok,hk,hkt⟩:=hwr
    have hkL:=hall k (Array.getElem?_eq_some_iff.1 hk).1
    refine h.done k ok t u hkL hk hkt ?_
    rw [←hR.writes hk hkt (h.lt k hkL) (Nat.le_refl m)];exact hlk
   ·refine h.old t u (fun j oj _ hj e=>hwr ⟨j,oj,hj,e⟩) ?_
    rw [←hR.look_to (Nat.zero_le m) (Nat.le_refl m) fun k ok _ _ hk e=>hwr ⟨k,ok,hk,e⟩];exact hlk
  ·rw [h3];exact (hR.shape m (Nat.le_refl m)).kept
  ·rw [h3];exact (hR.shape m (Nat.le_refl m)).srt
  ·rw [h3,show (xs m).2.1.defers=(xs p).defers from e2];exact h.defs
 ·have:=h.lt m (hall m (Array.getElem?_eq_some_iff.1 ho).1)
  omega
theorem Hp (hX:Qj P H) (hC:ZD P H W bs callF) (hdst:∀(i:Nat) o d,ops[i]?=some o→o.dst=some d→d<nt) (hR:Qk P H callF f base id ops xs m) (hloc:(xs 0).1=[])
  (hrc:∀x ∈ H.recheck f id,Qv P H f base ops (xs m).1 (xs m).2.1.env (Zs H f ops xs m) m x=true) (hend:zag P H callF f base id ops xs m r) :
  ∀(fuel:Nat) (listed:Array Bool) (a:Act) (w:World) (σ:Gh) (p:Nat),listed.size=ops.size→listed.toList.count false≤fuel→Inv P H f W bs nt ops xs m p (fun j=>listed.getD j false=true) σ a w→σ0.Le σ→qx P H σ →
   wpAny P .any ops (jP P H W bs f nt σ0 r) fuel listed a w:=by
 intro fuel
 induction fuel with
 |zero =>
  intro listed a w σ p hs hf h hl hg
  have hno:Region.ready .any ops listed=[]:=by
   refine List.eq_nil_iff_forall_not_mem.2 fun i hi=>?_
   obtain ⟨o,ho,hn,_⟩:=(WK hs).1 hi
   have hi':i<listed.size:=by rw [hs];exact (Array.getElem?_eq_some_iff.1 ho).1
   have:false ∈ listed.toList:=by
    rw [Array.getD_eq_getD_getElem?,Array.getElem?_eq_getElem hi'] at hn
    have e:listed[i]=false:=by simpa using hn
    rw [←e];simp
   have:=List.count_pos_iff.2 this
   omega
  exact ⟨hno,Mm h hR hl hend (VS hR.chk hs hno)⟩
 |succ fuel ih =>
  intro listed a w σ p hs hf h hl hg
  refine ⟨fun hno=>Mm h hR hl hend (VS hR.chk hs hno),fun i hi=>?_⟩
  obtain ⟨o,ho,hn,hb⟩:=(WK hs).1 hi
  have hD:=D1.of hR.chk ho
  have hi':i<listed.size:=by rw [hs];exact (Array.getElem?_eq_some_iff.1 ho).1
  have hfuel:(listed.setIfInBounds i true).toList.count false≤fuel:=by
   have e:listed.toList[i]'(by simpa using hi')=false:=by
    rw [Array.getD_eq_getD_getElem?,Array.getElem?_eq_getElem hi'] at hn
    simpa using hn
   rw [Array.toList_setIfInBounds,List.count_set (by simpa using hi')]
   rw [e]
   have:0<listed.toList.count false:=List.count_pos_iff.2 (by rw [←e];exact List.getElem_mem _)
   simp only [BEq.rfl,if_true,show (true==false)=false from rfl,Bool.false_eq_true,if_false]
   omega
  have next:∀{a':Act} {w':World} {σ':Gh} {p':Nat},Inv P H f W bs nt ops xs m p' (fun j=>listed.getD j false=true∨j=i) σ' a' w'→σ.Le σ'→wpAny P .any ops (jP P H W bs f nt σ0 r) fuel (listed.setIfInBounds i true) a' w' :=
   fun hinv hle=>ih _ _ _ _ _ (by simpa using hs) hfuel (by rw [Dq hi'];exact hinv) (hl.trans hle) (hg.mono hle)
  unfold wpOp
  rw [ho]
  simp only
  have hrd:∀(him:i≤m) (t:Nat) (v:AV),t ∈ Qi H f ops o→(xs i).look t=some v→Rep P σ (a.tmps.getD t undef) v:=fun him t v ht hv=>h.read hR him ho hb (by simp [hn]) ht hv
  have hwf:isO H f o=true→i≤m→(xs i).objs=(xs p).objs∧(xs i).defers=(xs p).defers:=fun hE him =>
   hR.st_to (i:=p) (j:=i) h.ple him (h.posE hR ho hE hb hn)
  rcases Nat.lt_trichotomy i m with him | him | him
  ·obtain ⟨hstep,_,hstill⟩:=hR.facts him ho
   have hshape:=hR.shape i (Nat.le_of_lt him)
   rcases hstep with ⟨hw,hy⟩ | ⟨hw,q,hq,hland⟩
   ·rw [Lh (hrd (Nat.le_of_lt him)) hw]
    simp only [Bool.false_eq_true,if_false]
    have hobj:(xs (i+1)).objs=(xs i).objs∧(xs (i+1)).defers=(xs i).defers:=by rw [hy];exact ⟨rfl,rfl⟩
    refine next (p':=if isO H f o then i+1 else p) (h.put hR (.refl σ) ho him hb hn (hdst i o · ho) ?_ rfl ?_ rfl fun d u hd hu=>?_) (.refl σ)
    ·split
     ·rename_i hE;rw [hobj.1,(hwf hE (Nat.le_of_lt him)).1];exact h.wf
     ·exact h.wf
    ·have:(a.put o.dst undef).defers=a.defers:=by cases o.dst<;>rfl
     rw [this]
     split
     ·rename_i hE;rw [hobj.2,(hwf hE (Nat.le_of_lt him)).2];exact h.defs
     ·exact h.defs
    ·rw [hy] at hu
     have hu':look (jY H f o.dst qm (xs i).1 (xs i).2.1.env).1 (jY H f o.dst qm (xs i).1 (xs i).2.1.env).2 d=some u:=hu
     rw [hd,Qu hshape,if_pos rfl] at hu'
     cases hu'
     exact jZ
   ·rw [Lh (hrd (Nat.le_of_lt him)) hw]
    simp only [if_true]
    left
    have hland':∀(d:Nat) (x:AV),o.dst=some d→q.1 = .val x→isO H f o=false→(xs (i+1)).look d=some x:=fun d x hd hqx hE=>by
     rw [hqx] at hland
     simp only [jc,hd,hD.nf hE d hd,Bool.false_eq_true,if_false,map_some,Option.some.injEq] at hland
     rw [←hland]
     show look _ _ _=_
     rw [Qu hshape,if_pos rfl]
    by_cases hE:isO H f o=true
    ·obtain ⟨w1,w2⟩:=hwf hE (Nat.le_of_lt him)
     have hq':ZA P H callF f base o (Me H f o (xs i)) (xs p).objs=some q:=by
      rw [Va (KO (x:=xs i)),←w1];exact hq
     refine YL hX hC h.wf hg (VU hg (hrd (Nat.le_of_lt him))) hq' (fun v x w' σ' e1 e2 e3 e4=>?_) (fun w' σ' e1 e2 e3=>?_) (fun g as d w' σ' e1 e2 e3 e4=>?_) (fun v x w' σ' e1 e2 e3 e4=>?_)
     ·rw [e1] at hland
      have hdf:(a.put o.dst v).defers=a.defers:=by cases o.dst<;>rfl
      cases hod:o.dst with
      |none =>
       simp only [jc,hod,Option.some.injEq] at hland
       have:=h.put (a':=a.put o.dst v) (v:=v) (w':=w') (σ':=σ') (p':=i+1) hR e2 ho him hb hn (hdst i o · ho) (by rw [←hland];exact e3) (by rw [if_pos hE]) (by
        rw [hdf,←hland];show jE P σ' a.defers (xs i).2.1.defers;rw [show (xs i).2.1.defers=(xs p).defers from w2];exact h.defs.mono e2) rfl (fun d u hd hu=>by rw [hod] at hd;cases hd)
       rw [hod] at this
       exact next this e2
      |some d =>
       simp only [jc,hod] at hland
       obtain ⟨z,hz,hzy⟩:=map_eq_some_iff.1 hland
       have:∃σ'',σ'.Le σ''∧WF P W bs σ'' z.2 w'∧Rep P σ'' v z.1:=by
        split at hz
        ·exact Un e3 e4 hz
        ·simp only [Option.some.injEq] at hz;subst hz;exact ⟨σ',.refl _,e3,e4⟩
       obtain ⟨σ'',k1,k2,k3⟩:=this
       have:=h.put (a':=a.put o.dst v) (v:=v) (w':=w') (σ':=σ'') (p':=i+1) hR (e2.trans k1) ho him hb hn (hdst i o · ho) (by rw [←hzy];exact k2) (by rw [if_pos hE]) (by
        rw [hdf,←hzy];show jE P σ'' a.defers (xs i).2.1.defers;rw [show (xs i).2.1.defers=(xs p).defers from w2];exact h.defs.mono (e2.trans k1)) rfl (fun d' u hd hu=>by
         rw [hod] at hd;cases hd
         rw [←hzy] at hu
         have hu':look (jY H f (some d) z.1 (xs i).1 (xs i).2.1.env).1 (jY H f (some d) z.1 (xs i).1 (xs i).2.1.env).2 d=some u:=hu
         rw [Qu hshape,if_pos rfl] at hu'
         cases hu'
         exact k3)
       rw [hod] at this
       exact next this (e2.trans k1)
     ·rw [e1] at hland
      simp only [jc,Option.some.injEq] at hland
      refine next (h.put (v:=undef) (p':=i+1) hR e2 ho him hb hn (hdst i o · ho) (by rw [←hland];exact e3) (by rw [if_pos hE]) ?_ rfl fun d u hd hu=>?_) e2
      ·have:(a.put o.dst undef).defers=a.defers:=by cases o.dst<;>rfl
       rw [this,←hland];show jE P σ' a.defers (xs i).2.1.defers;rw [show (xs i).2.1.defers=(xs p).defers from w2];exact h.defs.mono e2
      ·rw [←hland] at hu
       have hu':look (jY H f o.dst qm (xs i).1 (xs i).2.1.env).1 (jY H f o.dst qm (xs i).1 (xs i).2.1.env).2 d=some u:=hu
       rw [hd,Qu hshape,if_pos rfl] at hu'
       cases hu'
       exact jZ
     ·rw [e1] at hland
      simp only [jc,Option.some.injEq] at hland
      refine next (h.put (v:=undef) (p':=i+1) hR e2 ho him hb hn (hdst i o · ho) (by rw [←hland];exact e3) (by rw [if_pos hE]) ?_ (by cases o.dst<;>rfl) fun d u hd hu=>?_) e2
      ·have:({a with defers:=d::a.defers}.put o.dst undef:Act).defers=d::a.defers:=by cases o.dst<;>rfl
       rw [this,←hland];show jE P σ' (d::a.defers) ((g,as)::(xs i).2.1.defers);rw [show (xs i).2.1.defers=(xs p).defers from w2];exact .cons e4 (h.defs.mono e2)
      ·rw [←hland] at hu
       have hu':look (jY H f o.dst qm (xs i).1 (xs i).2.1.env).1 (jY H f o.dst qm (xs i).1 (xs i).2.1.env).2 d=some u:=hu
       rw [hd,Qu hshape,if_pos rfl] at hu'
       cases hu'
       exact jZ
     ·rw [e1] at hland
      simp [jc] at hland
    ·have hE':isO H f o=false:=by simpa using hE
     have hq2:=hq
     unfold ZB at hq2
     rw [jR hE'] at hq2
     obtain ⟨x,hx⟩:=ZK hE' hq2
     subst hx
     have hq':=Vz h hR ho him hb hn hE' hw hq (fun d hd=>hland' d x hd rfl hE') hrc
     refine YL hX hC h.wf hg (VU hg (hrd (Nat.le_of_lt him))) hq' (fun v x' w' σ' e1 e2 e3 e4=>?_) (fun w' σ' e1 e2 e3=>?_) (fun g as d w' σ' e1 e2 e3 e4=>?_) (fun v x w' σ' e1 e2 e3 e4=>?_)
     ·cases e1
      refine next (h.put (v:=v) (p':=p) hR e2 ho him hb hn (hdst i o · ho) e3 (by rw [if_neg hE]) ?_ rfl fun d u hd hu=>?_) e2
      ·have:(a.put o.dst v).defers=a.defers:=by cases o.dst<;>rfl
       rw [this];exact h.defs.mono e2
      ·rw [hland' d x hd rfl hE'] at hu
       cases hu
       exact e4
     ·cases e1
     ·cases e1
     ·cases e1
  ·subst him
   rcases hend with ⟨_,h2,_⟩ | ⟨v,o',h1,ho',hw,hq,hpok,h3⟩
   ·have:=(Array.getElem?_eq_some_iff.1 ho).1;omega
   rw [ho] at ho';cases ho'
   rw [Lh (hrd (Nat.le_refl _)) hw]
   simp only [if_true]
   left
   have hE:=(GP hq).1
   obtain ⟨w1,w2⟩:=hwf hE (Nat.le_refl _)
   have hq':ZA P H callF f base o (Me H f o (xs i)) (xs p).objs=some (.pan v,r.2.2):=by
    rw [Va (KO (x:=xs i)),←w1];exact hq
   refine YL hX hC h.wf hg (VU hg (hrd (Nat.le_refl _))) hq' (fun v x w' σ' e1 e2 e3 e4=>?_) (fun w' σ' e1 e2 e3=>?_) (fun g as d w' σ' e1 e2 e3 e4=>?_) (fun u x w' σ' e1 e2 e3 e4=>?_)
   ·cases e1
   ·cases e1
   ·cases e1
   ·cases e1
    have hd0:=hR.shp
    refine ⟨σ',hl.trans e2,e3,⟨⟨h.size,fun t z hz=>?_,fun t z hz=>by simp [Env.get] at hz,fun t z hz=>?_,?_⟩,?_⟩,by rw [h1];exact ⟨u,rfl,e4⟩⟩
    ·have hz':Env.get ((xs 0).2.1.env.filter fun p=>!(ops.toList.any fun o=>o.dst==some p.1)) t=some z:=by rw [h3] at hz;simpa [look,Env.get] using hz
     obtain ⟨g1,g2⟩:=Env.get_filter hd0.srt hz'
     refine (h.old t z (fun j oj _ hj e=>?_) ?_).mono e2
     ·simp only [Bool.not_eq_true',List.any_eq_false] at g2
      have:=g2 oj (List.mem_of_getElem? (i:=j) (by simpa using hj))
      simp [e] at this
     ·show look _ _ _=_
      rw [hloc];simpa [look,Env.get] using g1
    ·rw [h3] at hz
     exact hd0.kept t z (Env.get_filter hd0.srt hz).1
    ·rw [h3];exact hd0.srt.filter _
    ·rw [h3];show jE P σ' a.defers (xs i).2.1.defers;rw [show (xs i).2.1.defers=(xs p).defers from w2];exact h.defs.mono e2
  ·exfalso
   rcases hend with ⟨_,h2,_⟩ | ⟨v,o',h1,ho',hw,hq,hpok,h3⟩
   ·have:=(Array.getElem?_eq_some_iff.1 ho).1;omega
   ·obtain ⟨hE,hmp⟩:=GP hq
    have:=(D1.of hR.chk ho').pan hpok hE hmp i (Array.getElem?_eq_some_iff.1 ho).1 him
    have:=h.lt m (h.anc ho hb this)
    omega
theorem It (hm:P.follows .mixedOrders=true) (hX:Qj P H):KP P H W bs:=by
 intro callF hC f nt base id ops fr st r hc he σ a w h hg hf
 have hchk:WG H f id ops=true:=by
  simp only [qi,Bool.and_eq_true,Bool.not_true,Bool.false_or] at hc
  exact hc.2
 simp only [Zi,if_true] at he
 obtain ⟨q,hq,h2⟩:=bind_eq_some_iff.1 he
 obtain ⟨m,xs,x0,hle,hk,hst,hloc,hfr,hends,htr⟩:=Mv (P:=P) (H:=H) (callF:=callF) (f:=f) (base:=base) (ops:=ops) ops.toList ([],fr,st) [st] 0 q hq
 have hR:Qk P H callF f base id ops xs m:=by
  refine ⟨by simpa using hle,fun j hj=>?_,hchk,?_⟩
  ·obtain ⟨o,ho,hs⟩:=hst j hj
   exact ⟨o,by simpa using ho,hs⟩
  ·rw [x0]
   exact ⟨fun t v hv=>by simp [Env.get] at hv,hf.env.kept,hf.env.srt⟩
 have htr':q.2.2.2.2.1=Zs H f ops xs m:=by
  (rw [htr,Zs,x0])<;>rfl
 split at h2
 ·rename_i hall
  have hrc:∀x ∈ H.recheck f id,Qv P H f base ops (xs m).1 (xs m).2.1.env (Zs H f ops xs m) m x=true:=by
   intro x hx
   have:=List.all_eq_true.1 hall x hx
   rw [hloc,hfr,htr',hk,Nat.zero_add] at this
   exact this
  have hend:zag P H callF f base id ops xs m r:=by
   rcases hends with ⟨e1,e2,e3⟩ | ⟨v,o,e1,e2,e3,e4⟩
   ·left
    rw [e1] at h2
    simp only [Option.some.injEq] at h2
    subst h2
    exact ⟨rfl,by simpa using e2,hfr,e3⟩
   ·right
    rw [e1] at h2
    simp only at h2
    split at h2
    ·rename_i hp
     simp only [Option.some.injEq] at h2
     subst h2
     refine ⟨v,o,rfl,by simpa using e2,e3,e4,hp,?_⟩
     show ({q.2.2.1 with env:=_}:Fr)=_
     rw [hfr,x0]
    ·simp at h2
  refine wp_region_any hm (Hp (xs:=xs) (m:=m) hX hC (Dl hc) hR (by rw [x0]) hrc hend ops.size (Array.replicate ops.size false) a _ σ 0 (by simp) (by simp) ?_ (.refl σ) hg)
  have hno:∀j,¬(Array.replicate ops.size false).getD j false=true:=fun j=>by
   rw [Array.getD_eq_getD_getElem?,Array.getElem?_replicate]
   split<;>simp
  refine ⟨fun j o hj=>absurd hj (hno j),fun j hj=>absurd hj (hno j),Nat.zero_le _,fun i o _ _=>⟨fun hj=>absurd hj (hno i),fun hi=>by omega⟩,?_,?_,hf.env.size,fun j o t v hj=>absurd hj (hno j),fun t v _ hv=>?_⟩
  ·rw [x0];exact h.drew
  ·rw [x0];exact hf.defs
  ·rw [x0] at hv
   exact hf.env.val t v hv
 ·simp at h2
end
end Go.Abs
namespace Go.Abs
open Go
abbrev Zw:=FuncId→List AV→St→Option (zd×St)
abbrev jI:=YR→Fr→St→Option (AX×Fr×St)
section leafs
def zB:AV→Option Bool
 | .bool b=>some b
 |_=>none
def cell1:AV→Option AV
 | .agg cs=>match cs with | [c]=>some c | _=>none
 | .tup _=>none
 |v=>some v
def zq (n:Nat) (v:AV):Option (List AV):=if v.cells.length=n∧v.isTup=false then some v.cells else none
def IB:AV→Option (List AV)
 | .agg cs=>some cs
 |_=>none
def CB (t:Bool):AV→AV→AV
 | .bool x,.bool y=>.bool (if t then x else y)
 |x,y=>if t then x else y
def zc (off:Nat):AV→Option AV
 | .ip row c=>some (.ip row (c+off))
 | .bp o c=>some (.bp o (c+off))
 | .ptr o ep i c=>some (.ptr o ep i (c+off))
 |_=>none
def zf (st:St) (p:AV) (n:Nat) (ag:Bool):Option AV :=
 match p with
 | .ip row c=>zj row c n ag
 | .bp o c=>match st.get o with | some (.box _ row)=>zj row c n ag | _=>none
 | .ptr o ep i c =>
  match st.get o with
  |some (.rows _ ep' rs)=>if ep=ep' then (rs[i]?).bind fun row=>zj row c n ag else none
  |_=>none
 |_=>none
def zl (st:St) (p:AV) (cs:List AV):Option St :=
 match p with
 | .bp o c=>match st.get o with | some (.box ty row)=>(setAt row c cs).map fun row'=>st.put o (.box ty row') | _=>none
 | .ptr o ep i c =>
  match st.get o with
  |some (.rows sz ep' rs)=>if ep=ep' then (rs[i]?).bind fun row=>(setAt row c cs).map fun row'=>st.put o (.rows sz ep' (rs.set i row')) else none
  |_=>none
 |_=>none
def zt (st:St) (kd:Nat) (x:AV) (j:Nat):Option AV :=
 match x with
 | .sl sz rows off len _=>if sz=kd∧j<len then (rows[off+j]?).map fun row=>.ip row 0 else none
 | .ms o ep off len _=>(LA st o ep).bind fun k=>if k=kd∧j<len then some (.ptr o ep (off+j) 0) else none
 |_=>none
def zR (st:St) (home:Option (Nat×Bool)) (bytes kd:Nat) (s x:AV):Option (AV×St) :=
  (rowsOf st kd x).bind fun new =>
  match s with
  | .nils =>
   if new.length=0 then some (.nils,st)
   else if new.length*bytes≤qe∧new.length≤qe then
    match home with
    |some (h,m)=>jm st h m kd new
    |none=>some (.sl kd new 0 new.length .no,st)
   else none
  | .sl sz rows off len tok =>
   if sz=kd∧off+len=rows.length∧(len+new.length)*bytes≤qe∧len+new.length≤qe then
    match tok with
    | .exact =>
     if new.length=0 then some (s,st)
     else match home with
      |some (h,m)=>jm st h m kd (rows.drop off++new)
      |none=>some (.sl kd (rows.drop off++new) 0 (len+new.length) .no,st)
    | .spare t ep =>
     if off=0 then
      match st.get t with
      |some (.spare ep' n) =>
       if ep=ep'∧n=rows.length then
        if new.length=0 then some (s,st)
        else some (.sl kd (rows++new) 0 (len+new.length) (.spare t ep),st.put t (.spare ep (n+new.length)))
       else none
      |_=>none
     else none
    | .no=>none
   else none
  | .ms o ep off len cap =>
   match st.get o with
   |some (.rows sz ep' rs) =>
    if sz=kd∧ep=ep'∧(len+new.length)*bytes≤qe∧len+new.length≤qe∧off+cap≤rs.length∧len≤cap then
     if len+new.length≤cap then some (.ms o ep off (len+new.length) cap,st.put o (.rows sz ep (rs.take (off+len)++new++rs.drop (off+len+new.length))))
     else some (.ms o (ep+1) 0 (len+new.length) (len+new.length),st.put o (.rows sz (ep+1) ((rs.drop off).take len++new)))
    else none
   |_=>none
  |_=>none
def je (st:St) (kd:Nat) (x:AV) (lo hi mx:Option AV):Option AV :=
 match x with
 | .nils=>(jd hi 0).bind fun h=>(jd lo 0).bind fun l=>(jd mx 0).bind fun m=>if h=0∧l=0∧m=0∧(mx.isSome→hi.isSome) then some .nils else none
 | .sl sz rows off len tok =>
  (jd hi len).bind fun h=>(jd lo 0).bind fun l =>
  if sz=kd∧l≤h then
   match mx with
   |none=>if off+h≤rows.length then some (.sl sz rows (off+l) (h - l) tok) else none
   |some mv=>(zJ mv).bind fun m=>if hi.isSome∧h≤m∧off+m≤rows.length then some (.sl sz (rows.take (off+m)) (off+l) (h - l) (if rows.length=0 then .no else .exact)) else none
  else none
 | .ms o ep off len cap =>
  (LA st o ep).bind fun k =>
  (jd hi len).bind fun h=>(jd lo 0).bind fun l =>
  if k=kd∧l≤h then
   match mx with
   |none=>if h≤cap then some (.ms o ep (off+l) (h - l) (cap - l)) else none
   |some mv=>(zJ mv).bind fun m=>if hi.isSome∧h≤m∧m≤cap then some (.ms o ep (off+l) (h - l) (m - l)) else none
  else none
 |_=>none
def qA (x:AV) (lo hi:Option AV):Option AV :=
 match x with
 | .str s=>(jd hi s.length).bind fun h=>(jd lo 0).bind fun l=>if l≤h∧h≤s.length then some (.str ((s.take h).drop l)) else none
 |_=>none
def IS (x:AV) (j:Nat):Option AV :=
 match x with
 | .str s=>(s[j]?).map fun b=>.int .u8 b.toNat
 |_=>none
def zL:AV→Option AV
 | .nils=>some (.int .i64 0)
 | .sl _ _ _ len _=>some (.int .i64 len)
 | .ms _ _ _ len _=>some (.int .i64 len)
 |_=>none
def Cp:AV→Option AV
 | .str s=>some (.int .i64 s.length)
 |_=>none
def Hw (st:St):AV→Option AV
 | .nilm=>some (.int .i64 0)
 | .mp o=>match st.get o with | some (.amap es)=>some (.int .i64 es.length) | _=>none
 |_=>none
def Jg (st:St) (x:AV):Option AV :=
 match x with
 | .str _=>none
 |_=>(rowsOf st 0 x).bind fun rs=>(qj rs).map .str
def By (x:AV):Option AV :=
 match x with
 | .str s=>some (.sl 0 (s.map fun b=>[.int .u8 b.toNat]) 0 s.length .no)
 |_=>none
def Ui (st:St) (home:Option (Nat×Bool)) (bytes kd:Nat) (z:List AV) (l c:AV):Option (AV×St) :=
 match l,c with
 | .int .i64 l,.int .i64 c =>
  if 0≤l∧l≤c∧c.toNat*bytes≤qe∧c.toNat≤qe then
   match home with
   |some (h,true)=>(jm st h true kd (List.replicate c.toNat z)).bind fun r=>match r.1 with | .ms o ep off _ cap=>some (.ms o ep off l.toNat cap,r.2) | _=>none
   |some (h,false)=>if l=0 then jm st h false kd [] else none
   |none=>some (.ms st.length 0 0 l.toNat c.toNat,.rows kd 0 (List.replicate c.toNat z)::st)
  else none
 |_,_=>none
def zaC (st:St) (sz:Nat) (d s:AV):Option (AV×St) :=
  (rowsOf st sz s).bind fun new =>
  match d with
  | .nils=>some (.int .i64 0,st)
  | .ms o ep off len _ =>
   match st.get o with
   |some (.rows sz' ep' rs) =>
    if sz'=sz∧ep=ep'∧off+len≤rs.length then
     some (.int .i64 (min new.length len:Nat),st.put o (.rows sz ep (rs.take off++new.take len++rs.drop (off+min new.length len))))
    else none
   |_=>none
  |_=>none
def JP (z x:AV) (t:TypeId) (ok:Bool):Option AV :=
 match x with
 | .iface t' v=>if t'=t then some (if ok then .tup [v,.bool true] else v) else if ok then some (.tup [z,.bool false]) else none
 | .nili=>if ok then some (.tup [z,.bool false]) else none
 |_=>none
def Lf:AV→Option AV
 | .iface t w=>some (.iface t w)
 |_=>none
def fnV:AV→Option (FuncId×List AV)
 | .fn g cap=>some (g,cap)
 |_=>none
def zg {R:Type} (x:Option (zd×St)) (kv kp:AV→St→Option R):Option R:=x.bind fun r=>match r.1 with | .ret v=>kv v r.2 | .pan v=>kp v r.2
def Wi {R:Type} (x:Option (AX×Fr×St)) (k:AX→Fr→St→Option R):Option R:=x.bind fun r=>k r.1 r.2.1 r.2.2
def Zl (n:Nat) (fr:Fr) (st:St):Option (Fr×St) :=
 if st.length==n then some (fr,st)
 else if St.closed n (st.trunc n)&&fr.defers.all fun d=>AV.closeds n d.2 then some ({fr with env:=fr.env.filter fun p=>AV.closed n p.2},st.trunc n) else none
def YW (cidx:TypeId→Nat→Nat) (wr:Bool) (st:St) (v:AV):Option (Nat×Bool) :=
 match v with | .bp o c=>(match st.get o with | some (.box ty _)=>some (o+1+cidx ty c,wr) | _=>none) | _=>none
def Vf {R:Type} (v:AV) (x y:AV→Option R):Option R:=match v with | .bool t=>cond t (x (.bool true)) (y (.bool false)) | _=>none
def Lo {R:Type} (v:AV) (want:Bool) (yes no:AV→Option R):Option R :=
 match v with
 | .bool b=>(match want with | true=>cond b (yes (.bool true)) (no (.bool false)) | false=>cond b (no (.bool true)) (yes (.bool false)))
 | .tup []=>no (.tup [])
 |_=>none
def Yy:Env→Nat→AV→Env
 |[],_,_=>[]
 |(s,u)::r,t,v=>if s=t then (s,v)::r else (s,u)::Yy r t v
def Qt {R:Type} (n:Nat) (v:AV) (k:List AV→Option R):Option R:=if n=1 then (cell1 v).bind fun c=>k [c] else (zq n v).bind k
def zX {R:Type} (x:Option (AV×St)) (k:AV→St→Option R):Option R:=x.bind fun r=>k r.1 r.2
def zm (k:IntKind):AV→Option Int
 | .int k' n=>if k'=k then some n else none
 |_=>none
def zA:AV→Option (List UInt8)
 | .str s=>some s
 |_=>none
end leafs
section types
variable (P:Program)
def GX (t:TypeId) (f:Nat):Option (Bool×Nat×Nat) :=
 match P.underlying t with
 |some (.struct fields)=>(fields[f]?).bind fun fd=>(Ji P fd.type).bind fun ag=>(qv P fd.type).map fun n=>(ag,n,fd.offset)
 |_=>none
def LK (t:TypeId) (f:Nat):Option Nat :=
 match P.underlying t with
 |some (.struct fields)=>(fields[f]?).bind fun fd=>(qv P fd.type).bind fun n=>if n=0 then none else some fd.offset
 |_=>none
inductive IxT where
 |sl (kd:Nat)
 |arr (len n:Nat) (ag:Bool)
 |str
def ixT (t:TypeId):Option IxT :=
 match P.underlying t with
 |some (.slice e)=>(QZ P e).map .sl
 |some (.array len e)=>(Ji P e).bind fun ag=>(qv P e).map fun n=>.arr len n ag
 |some .string=>some .str
 |_=>none
def Km (t:TypeId):Option (Nat×Nat×Option AV) :=
 match P.underlying t with
 |some (.slice e)=>(P.info? e).bind fun i=>(QZ P e).map fun kd=>(i.bytes,kd,Zt P e)
 |_=>none
def Hc (kd:Nat):Option AV→Bool
 |some z=>z.cells.length==szk kd && !z.isTup
 |none=>false
def KQ (t:TypeId):Option (List (Nat×Nat)) :=
 match P.underlying t with
 |some (.struct fields)=>fields.toList.mapM fun f=>(qv P f.type).map fun s=>(f.offset,s)
 |some (.array n e)=>(qv P e).map fun s=>(List.range n).map fun i=>(i*s,s)
 |_=>none
inductive LZ where
 |same
 |int (k:IntKind)
 |str
 |bytes
 |ofBytes
def Hx (s d:TypeId):Option LZ :=
 match P.underlying s,P.underlying d with
 |some (.int _),some (.int k)=>some (.int k)
 |some .string,some .string=>some .str
 |some .string,some (.slice e)=>(match P.underlying e with | some (.int .u8)=>if P.cellsOf e=1 then some .bytes else none | _=>none)
 |some (.slice e),some .string=>(match P.underlying e with | some (.int .u8)=>some .ofBytes | _=>none)
 |_,_=>none
def Uq (st:St):LZ→AV→Option AV
 | .int k,.int _ n=>some (.int k (k.wrap n))
 | .str,.str s=>some (.str s)
 | .bytes,v=>By v
 | .ofBytes,v=>Jg st v
 |_,_=>none
inductive zbk where
 |str | sl | map
 |arr (n:Nat)
def zbp (t:TypeId):Option zbk :=
 match P.underlying t with
 |some .string=>some .str
 |some (.array n _)=>some (.arr n)
 |some (.slice _)=>some .sl
 |some (.map _ _)=>some .map
 |_=>none
def IH (st:St):zbk→AV→Option AV
 | .str,v=>Cp v
 | .sl,v=>zL v
 | .map,v=>Hw st v
 | .arr n,_=>some (.int .i64 n)
inductive KT where
 |bool | str | other
 |int (k:IntKind)
def zb8 (t:TypeId):KT :=
 match P.underlying t with
 |some .bool=>.bool
 |some .string=>.str
 |some (.int k)=>.int k
 |_=>.other
def KN (t:TypeId):Bool:=match P.underlying t with | some (.interface _)=>false | some _=>true | none=>false
end types
section run
variable {R:Type} (P:Program) (H:zN) (callF:Zw) (again:jI) (f:FuncId) (base:Nat)
def DH (places:List (Nat×Nat)):List (Nat×AV)→List AV→(List AV→Option R)→Option R
 |[],cells,k=>k cells
 |(i,v)::rest,cells,k=>(places[i]?).bind fun p=>Qt p.2 v fun cs=>(setAt cells p.1 cs).bind fun c=>DH places rest c k
def Ep (sz:Nat):List (Nat×AV)→List (List AV)→(List (List AV)→Option R)→Option R
 |[],rows,k=>k rows
 |(i,v)::rest,rows,k=>if i<rows.length then Qt sz v fun cs=>Ep sz rest (rows.set i (cs.map AV.strip)) k else none
def LI (H:zN) (f:FuncId) (ev:Operand→Option AV) (st:St) (base:Nat) (dst:Option Tmp):Option (Nat×Bool) :=
 (dst.bind (H.home f)).bind fun h =>
 match h.1 with
 |none=>some (base+h.2.1,h.2.2)
 |some s=>(ev (.tmp s)).bind (YW H.cidx h.2.2 st)
theorem MW (H:zN) (f:FuncId) (ev:Operand→Option AV) (st:St) (base:Nat) (dst:Option Tmp):LI H f ev st base dst=Zk H f ev st base dst:=rfl
section op
variable (ev:Operand→Option AV) (st:St) (dst:Option Tmp) (kv:AV→St→Option R) (ks:St→Option R) (kd:FuncId→List AV→St→Option R) (kp:AV→St→Option R)
def EQ (x:Option Operand) (k:Option AV→Option R):Option R:=match x with | none=>k none | some x=>(ev x).bind fun v=>k (some v)
def UR (c:Call):Option R :=
 match c.callee with
 | .builtin b=>(evs ev c.args.toList).bind fun args =>
  match b,args with
  | .append,[s,x]=>(c.argTypes[0]?).bind fun t =>
   match (c.argTypes[1]?).bind P.underlying with
   |some (.int _)=>none
   |none=>none
   |_=>(Km P t).bind fun e=>if Hc e.2.1 e.2.2 then zX (zR st (LI H f ev st base dst) e.1 e.2.1 s x) kv else none
  | .len,[x]=>(c.argTypes[0]?).bind fun t=>(zbp P t).bind fun q=>(IH st q x).bind fun v=>kv v st
  | .copy,[d,s]=>(c.argTypes[0]?).bind fun t=>(Km P t).bind fun e=>zX (zaC st e.2.1 d s) kv
  | .max,x::r=>(Bp x r).bind fun v=>kv v st
  | .min,x::r=>(FH x r).bind fun v=>kv v st
  | .unsafeSliceData,[x]=>(jS st x).bind fun v=>kv v st
  | .unsafeString,[p,.int .i64 n]=>(qE P (c.argTypes[0]?) p n).bind fun v=>kv v st
  |_,_=>none
 | .value (.func g)=>(H.ext g).bind fun F=>(evs ev c.args.toList).bind fun args=>(F args).bind fun v=>kv v st
 |_=>none
def opK (op:Op):Option R :=
 match op with
 | .move x | .assign x=>(ev x).bind fun v=>kv v st
 | .pick c a b=>(ev c).bind fun vc=>(zB vc).bind fun t=>(ev a).bind fun va=>(ev b).bind fun vb=>kv (CB t va vb) st
 | .alloc t=>(Zt P t).bind fun z=>if z.isTup then none else kv (.bp st.length 0) (ZH (US H f dst) (.box t z.cells::st))
 | .box t x=>(ev x).bind fun v=>(qv P t).bind fun n=>Qt n v fun cs=>kv (.bp st.length 0) (ZH (US H f dst) (.box t cs::st))
 | .build t ps=>(Zt P t).bind fun z=>if z.isTup then none else (KQ P t).bind fun pl=>(UK ev ps.toList).bind fun ps=>DH pl ps z.cells fun cs=>kv (.agg cs) st
 | .buildSlice t len ps=>(Km P t).bind fun e=>e.2.2.bind fun z=>(UK ev ps.toList).bind fun ps =>
  if z.cells.length=szk e.2.1∧z.isTup=false∧len*szk e.2.1≤16777216 then
   Ep (szk e.2.1) ps (List.replicate len z.cells) fun rows =>
   match LI H f ev st base dst with
   |some (h,m)=>zX (jm st h m e.2.1 rows) kv
   |none=>kv (.sl e.2.1 rows 0 len .exact) st
  else none
 | .load t a=>(ev a).bind fun p=>(Ji P t).bind fun ag=>(qv P t).bind fun n=>(zf st p n ag).bind fun v=>kv v st
 | .store t a x=>(ev a).bind fun p=>(ev x).bind fun v=>(qv P t).bind fun n=>Qt n v fun cs=>(zl st p cs).bind ks
 | .nilCheck x=>(ev x).bind fun v=>(zb v).bind fun v=>kv v st
 | .binOp op t x y _=>(ev x).bind fun a=>(ev y).bind fun b=>(XJ P op t (QT x||QT y) a b).bind fun v=>kv v st
 | .unOp op _ x=>(ev x).bind fun a=>(unA op a).bind fun v=>kv v st
 | .convert s d x=>(ev x).bind fun a=>match Hx P s d with
  |some q=>(match q with | .bytes=>if (Zk H f ev st base dst).isSome then none else (Uq st q a).bind fun v=>kv v st | q=>(Uq st q a).bind fun v=>kv v st)
  |none=>zX (JS P st (LI H f ev st base dst) s d a) kv
 | .makeInterface t x=>if KN P t then (ev x).bind fun v=>kv (.iface t v) st else none
 | .makeFunc fn first cap=>(Ek ev fn first cap).bind fun v=>kv v st
 | .makeMap _ r=>match r with | none=>kv (.mp st.length) (.amap []::st) | some _=>none
 | .makeSlice t l c=>(Km P t).bind fun e=>e.2.2.bind fun z=>if z.cells.length=szk e.2.1∧z.isTup=false then
   (ev l).bind fun l=>(ev c).bind fun c=>zX (Ui st (LI H f ev st base dst) e.1 e.2.1 z.cells l c) kv else none
 | .slice t x lo hi mx=>(ev x).bind fun x=>(ixT P t).bind fun q=>match q with
  | .str=>match mx with | none=>EQ ev lo fun lo=>EQ ev hi fun hi=>(qA x lo hi).bind fun v=>kv v st | some _=>none
  | .sl n=>EQ ev lo fun lo=>EQ ev hi fun hi=>EQ ev mx fun mx=>(je st n x lo hi mx).bind fun v=>kv v st
  |_=>none
 | .fieldAddr t x i=>(ev x).bind fun x=>(LK P t i).bind fun off=>(zc off x).bind fun v=>kv v st
 | .field t x i=>(ev x).bind fun x=>(GX P t i).bind fun q=>(IB x).bind fun cs=>(zj cs q.2.2 q.2.1 q.1).bind fun v=>kv v st
 | .indexAddr t x i=>(ev x).bind fun x=>(ev i).bind fun i=>(zJ i).bind fun j=>(ixT P t).bind fun q=>match q with
  | .sl n=>(zt st n x j).bind fun v=>kv v st
  | .arr len n _=>if j<len then (zc (j*n) x).bind fun v=>kv v st else none
  | .str=>none
 | .index t x i=>(ev x).bind fun x=>(ev i).bind fun i=>(zJ i).bind fun j=>(ixT P t).bind fun q=>match q with
  | .str=>(IS x j).bind fun v=>kv v st
  | .arr len n ag=>if j<len then (IB x).bind fun cs=>(zj cs (j*n) n ag).bind fun v=>kv v st else none
  | .sl _=>none
 | .lookup t x k ok=>(ev x).bind fun x=>(ev k).bind fun k=>(VM P st t x k ok).bind fun v=>kv v st
 | .mapUpdate t m k x=>(ev m).bind fun m=>(ev k).bind fun k=>(ev x).bind fun x=>(JI P st t m k x).bind ks
 | .range t x=>(ev x).bind fun x=>zX (ZI P st t x) kv
 | .next x isStr=>(ev x).bind fun x=>zX (YZ st isStr x) kv
 | .typeAssert x _ t ok=>if KN P t then (ev x).bind fun x=>match Zt P t with
   |some z=>(JP z x t ok).bind fun v=>kv v st
   |none=>if ok then none else (JP .nili x t false).bind fun v=>kv v st
  else none
 | .extract t i=>(ev t).bind fun v=>(zK i v).bind fun v=>kv v st
 | .call c=>UR P H f base ev st dst kv c
 | .defer c =>
  match c.callee with
  | .value x=>(ev x).bind fun fv=>(fnV fv).bind fun q=>(evs ev c.args.toList).bind fun args=>kd q.1 (args++q.2) st
  |_=>none
 | .panic x=>(ev x).bind fun v=>(Lf v).bind fun v=>kp v st
 |_=>none
def Mp (o:Oper):Option R :=
 match o.op with
 | .call c =>
  match c.callee with
  | .value x =>
   match x with
   | .func g=>if (H.ext g).isSome then UR P H f base ev st dst kv c else (evs ev c.args.toList).bind fun args=>zg (callF g args st) kv kp
   |x=>(ev x).bind fun fv=>(fnV fv).bind fun q=>if (H.ext q.1).isSome then none else (evs ev c.args.toList).bind fun args=>zg (callF q.1 (args++q.2) st) kv kp
  |_=>UR P H f base ev st dst kv c
 |op=>opK P H f base ev st dst kv ks kd kp op
end op
def Na (t:TypeId) (v:AV) (k:AV→Option R):Option R :=
 match zb8 P t with
 | .bool=>(zB v).bind fun b=>k (.bool b)
 | .int kd=>(zm kd v).bind fun n=>k (.int kd n)
 | .str=>(zA v).bind fun s=>k (.str s)
 | .other=>k v
def Uh (ops:Array Oper) (loc:Env) (fr:Fr) (o:Oper) (yes no:Env→Fr→Option R):Option R :=
 match o.guard with
 |none=>yes loc fr
 |some (j,want)=>((ops[j]?).bind (·.dst)).bind fun d =>
  match Env.get loc d with
  |some v=>Lo v want (fun v=>yes (Yy loc d v) fr) (fun v=>no (Yy loc d v) fr)
  |none=>(Env.get fr.env d).bind fun v=>Lo v want (fun v=>yes loc {fr with env:=Yy fr.env d v}) (fun v=>no loc {fr with env:=Yy fr.env d v})
def Jd (dst:Option Tmp) (v:AV) (loc:Env) (fr:Fr) (k:Env→Fr→Option R):Option R :=
 match dst with
 |none=>k loc fr
 |some d=>if (H.keep f).contains d then k loc {fr with env:=Env.set fr.env d v} else k ((d,v)::loc) fr
def Vb (dst:Option Tmp) (v:AV) (st:St) (loc:Env) (fr:Fr) (k:Env→Fr→St→Option R):Option R :=
 match dst with
 |none=>k loc fr st
 |some d=>if H.frz f d then zX (qN st v) fun v st=>Jd H f dst v loc fr fun loc fr=>k loc fr st else Jd H f dst v loc fr fun loc fr=>k loc fr st
def Us (ops:Array Oper):List Oper→Env→Fr→St→(AX→Fr→St→Option R)→Option R
 |[],_,fr,st,k=>k .normal fr st
 |o::rest,loc,fr,st,k =>
  Uh ops loc fr o
   (fun loc fr=>Mp P H callF f base (evO H loc fr.env) st o.dst
    (fun v st=>Na P o.type v fun v=>Vb H f o.dst v st loc fr fun loc fr st=>Us ops rest loc fr st k)
    (fun st=>Jd H f o.dst qm loc fr fun loc fr=>Us ops rest loc fr st k)
    (fun g as st=>Jd H f o.dst qm loc fr fun loc fr=>Us ops rest loc {fr with defers:=(g,as)::fr.defers} st k)
    (fun v st=>k (.panic v) fr st) o)
   (fun loc fr=>Jd H f o.dst qm loc fr fun loc fr=>Us ops rest loc fr st k)
def YS (ops:Array Oper):List Oper→Env→Fr→St→List St→Nat→(AX→Env→Fr→St→List St→Nat→Option R)→Option R
 |[],loc,fr,st,tr,n,k=>k .normal loc fr st tr n
 |o::rest,loc,fr,st,tr,n,k =>
  Uh ops loc fr o
   (fun loc fr=>Mp P H callF f base (evO H loc fr.env) st o.dst
    (fun v st=>Na P o.type v fun v=>Vb H f o.dst v st loc fr fun loc fr st=>YS ops rest loc fr st (if isO H f o then st::tr else tr) (n+1) k)
    (fun st=>Jd H f o.dst qm loc fr fun loc fr=>YS ops rest loc fr st (if isO H f o then st::tr else tr) (n+1) k)
    (fun g as st=>Jd H f o.dst qm loc fr fun loc fr=>YS ops rest loc {fr with defers:=(g,as)::fr.defers} st (if isO H f o then st::tr else tr) (n+1) k)
    (fun v st=>k (.panic v) loc fr st tr n) o)
   (fun loc fr=>Jd H f o.dst qm loc fr fun loc fr=>YS ops rest loc fr st (if isO H f o then st::tr else tr) (n+1) k)
def Ny (P:Program) (H:zN) (f:FuncId) (base:Nat) (ops:Array Oper) (loc env:Env) (tr:List St) (k:Nat) (x:Nat×Nat×Nat):Bool :=
 if k≤x.1 then true else
 match ops[x.1]? with
 |none=>false
 |some o =>
  match Zg ops loc env o with
  |some false=>true
  |none=>false
  |some true =>
   match o.op with
   | .slice ..=>jq (evO H loc env) o.op&&o.dst.isSome
   | .indexAddr ..=>jq (evO H loc env) o.op&&o.dst.isSome
   | .call ..=>jq (evO H loc env) o.op&&o.dst.isSome
   |_=>Qv P H f base ops loc env tr k x
def Bu (ops:Array Oper) (env:Env):Env:=env.filter fun p=>!(ops.toList.any fun o=>o.dst==some p.1)
def VJ (id:Nat) (ops:Array Oper) (draw:Bool) (fr:Fr) (st:St) (k:AX→Fr→St→Option R):Option R :=
 if draw then
  if (H.recheck f id).isEmpty then
   Us P H callF f base ops ops.toList [] fr st fun ax fr' st'=>match ax with
    | .panic v=>if H.pok f id then k (.panic v) {fr' with env:=Bu ops fr.env} st' else none
    |ax=>k ax fr' st'
  else
   YS P H callF f base ops ops.toList [] fr st [st] 0 fun ax loc fr' st' tr n =>
    if (H.recheck f id).all (Ny P H f base ops loc fr'.env tr n) then
     match ax with
     | .panic v=>if H.pok f id then k (.panic v) {fr' with env:=Bu ops fr.env} st' else none
     |ax=>k ax fr' st'
    else none
 else Us P H callF f base ops ops.toList [] fr st k
def jk:Code→Fr→St→(AX→Fr→St→Option R)→Option R
 | .skip,fr,st,k=>k .normal fr st
 | .label _,fr,st,k=>k .normal fr st
 | .region id ops draw,fr,st,k=>VJ P H callF f base id ops draw fr st k
 | .seq a b,fr,st,k=>jk a fr st fun ax fr st=>match ax with | .normal=>jk b (Jj H f b fr) st k | ax=>k ax fr st
 | .cond c a b,fr,st,k=>(evO H [] fr.env c).bind fun v=>match c with
  | .tmp t=>Vf v (fun v=>jk a {fr with env:=Yy fr.env t v} st k) (fun v=>jk b {fr with env:=Yy fr.env t v} st k)
  |_=>Vf v (fun _=>jk a fr st k) (fun _=>jk b fr st k)
 | .block id body,fr,st,k=>jk body fr st fun ax fr st=>match ax with | .exit i=>if i=id then k .normal fr st else k (.exit i) fr st | ax=>k ax fr st
 | .loop body,fr,st,k=>Wi (again (.round body) fr st) k
 | .scope body,fr,st,k=>jk body fr st fun ax fr st=>match ax with
  | .goto l=>match findLabel body l with | some rest=>Wi (again (.resume body rest) fr st) k | none=>k (.goto l) fr st
  |ax=>k ax fr st
 | .exit id,fr,st,k=>k (.exit id) fr st
 | .goto l,fr,st,k=>k (.goto l) fr st
 | .ret,fr,st,k=>k .ret fr st
 | .rangeFunc ..,_,_,_=>none
 | .refuse _,_,_,_=>none
def Ei (body:Code) (n:Nat) (k:AX→Fr→St→Option R):AX→Fr→St→Option R:=fun ax fr st=>match ax with
 | .normal=>if H.loopKeep f then Wi (again (.round body) (Jj H f body fr) st) k else (Zl n (Jj H f body fr) st).bind fun e=>Wi (again (.round body) e.1 e.2) k
 |ax=>k ax fr st
def Ls (body:Code) (k:AX→Fr→St→Option R):AX→Fr→St→Option R:=fun ax fr st=>match ax with
 | .goto l=>match findLabel body l with | some rest=>Wi (again (.resume body rest) fr st) k | none=>k (.goto l) fr st
 |ax=>k ax fr st
end run
def ze (ko:Bool) (n:Nat) (r:zd) (st:St):Option (zd×St) :=
 if ko||st.length==n then some (r,st) else
 match r with
 | .ret v=>let v':=AV.stripR n v;if AV.closed n v'&&St.closed n (st.trunc n) then some (.ret v',st.trunc n) else none
 | .pan v=>if AV.closed n v&&St.closed n (st.trunc n) then some (.pan v,st.trunc n) else none
section call
variable (P:Program) (H:zN) (callF:Zw) (again:FuncId→Nat→jI)
def qG (vs:List AV):AV:=match vs with | [v]=>v | vs=>.tup vs
def FR (g:FuncId) (fn:Func) (base:Nat):AX→Fr→St→Option (zd×St):=fun ax fr st =>
 match ax with
 | .normal | .ret =>
  (match fr.defers with
  |[]=>(qF P fr.env st fn.results.toList).bind fun vs=>ze (H.keepObj g) base (.ret (qG vs)) st
  |ds=>(zW P (zY P H callF again) fn fr.env ds .ret st).bind fun o=>ze (H.keepObj g) base o.1 o.2)
 | .panic v =>
  (match fr.defers with
  |[]=>ze (H.keepObj g) base (.pan v) st
  |ds=>(zW P (zY P H callF again) fn fr.env ds (.pan v) st).bind fun o=>ze (H.keepObj g) base o.1 o.2)
 |_=>none
def Hy (g:FuncId) (args:List AV) (st:St):Option (zd×St) :=
 match H.prim g with
 |some _=>none
 |none =>
  (P.funcs[g]?).bind fun fn=>fn.body.bind fun c =>
  if args.length≤fn.params.size+fn.nfree then jk P H callF (again g st.length) g st.length c ⟨YY args,[]⟩ (ZH (H.homes g) st) (FR P H callF again g fn st.length)
  else none
end call
end Go.Abs
namespace Go.Abs
open Go
section
variable {R:Type} {P:Program} {H:zN} {callF:Zw} {again:jI} {f:FuncId} {base:Nat}
variable {ev:Operand→Option AV} {st:St} {dst:Option Tmp} {kv:AV→St→Option R} {ks:St→Option R} {kd:FuncId→List AV→St→Option R} {kp:AV→St→Option R} {r:R}
def HT (kv:AV→St→Option R) (ks:St→Option R) (kd:FuncId→List AV→St→Option R) (kp:AV→St→Option R) (q:Res×St):Option R :=
 match q.1 with
 | .val v=>kv v q.2
 | .skip=>ks q.2
 | .defer g as=>kd g as q.2
 | .pan v=>kp v q.2
theorem CL (t:Bool) (a b:AV):CB t a b=if t then a else b:=by
 unfold CB
 split
 ·cases t<;>rfl
 ·rfl
theorem Gf {v:AV} {t:Bool} (h:zB v=some t):v = .bool t:=by
 unfold zB at h;split at h<;>simp at h;subst h;rfl
theorem NQ {v c:AV} (h:cell1 v=some c):v.cells=[c]∧v.isTup=false:=by
 unfold cell1 at h
 split at h
 ·split at h<;>simp at h
  subst h;exact ⟨rfl,rfl⟩
 ·simp at h
 ·simp only [Option.some.injEq] at h
  subst h
  cases v<;>simp_all [AV.cells,AV.isTup]
theorem Zu {n:Nat} {v:AV} {k:List AV→Option R} (h:Qt n v k=some r):v.cells.length=n∧v.isTup=false∧k v.cells=some r:=by
 unfold Qt at h
 split at h
 ·obtain ⟨c,hc,h2⟩:=bind_eq_some_iff.1 h
  obtain ⟨h3,h4⟩:=NQ hc
  rw [h3];subst n;exact ⟨rfl,h4,h2⟩
 ·obtain ⟨c,hc,h2⟩:=bind_eq_some_iff.1 h
  unfold zq at hc
  split at hc
  ·rename_i hh
   simp only [Option.some.injEq] at hc;subst hc
   exact ⟨hh.1,hh.2,h2⟩
  ·simp at hc
theorem Kw {v:AV} {cs:List AV} (h:IB v=some cs):v = .agg cs:=by
 unfold IB at h;split at h<;>simp at h;subst h;rfl
theorem LT {v w:AV} (h:Lf v=some w):∃t x,v = .iface t x∧w = .iface t x:=by
 unfold Lf at h;split at h<;>simp at h;exact ⟨_,_,rfl,h.symm⟩
theorem MX {v:AV} {q:FuncId×List AV} (h:fnV v=some q):v = .fn q.1 q.2:=by
 unfold fnV at h;split at h<;>simp at h;subst h;rfl
theorem Xm {p p':Nat→Option (Nat×Nat)} (h:∀i x,p i=some x→p' i=some x):∀{ps:List (Nat×AV)} {cs cs':List AV},JU p cs ps=some cs'→JU p' cs ps=some cs'
 |[],cs,cs',hf=>hf
 |(i,v)::rest,cs,cs',hf=>by
  simp only [JU] at hf ⊢
  obtain ⟨x,hx,h2⟩:=bind_eq_some_iff.1 hf
  rw [h i x hx]
  simp only [bind_some]
  split at h2
  ·rename_i hc
   rw [if_pos hc]
   obtain ⟨c,hc,h3⟩:=bind_eq_some_iff.1 h2
   rw [hc]
   exact Xm h h3
  ·simp at h2
theorem VX {pl:List (Nat×Nat)} {k:List AV→Option R}:∀{ps:List (Nat×AV)} {cs:List AV},DH pl ps cs k=some r→∃cs',JU (fun i=>pl[i]?) cs ps=some cs'∧k cs'=some r
 |[],cs,h=>⟨cs,rfl,h⟩
 |(i,v)::rest,cs,h=>by
  simp only [DH] at h
  obtain ⟨x,hx,h2⟩:=bind_eq_some_iff.1 h
  obtain ⟨h3,h4,h5⟩:=Zu h2
  obtain ⟨c,hc,h6⟩:=bind_eq_some_iff.1 h5
  obtain ⟨cs',h7,h8⟩:=VX h6
  refine ⟨cs',?_,h8⟩
  simp only [JU,hx,bind_some]
  rw [if_pos ⟨h3,h4⟩,hc]
  exact h7
theorem UP {sz:Nat} {k:List (List AV)→Option R}:∀{ps:List (Nat×AV)} {rows:List (List AV)},Ep sz ps rows k=some r→∃rows',JG sz rows ps=some rows'∧k rows'=some r
 |[],rows,h=>⟨rows,rfl,h⟩
 |(i,v)::rest,rows,h=>by
  simp only [Ep] at h
  split at h
  ·rename_i hi
   obtain ⟨h3,h4,h5⟩:=Zu h
   obtain ⟨rows',h6,h7⟩:=UP h5
   refine ⟨rows',?_,h7⟩
   simp only [JG]
   rw [if_pos ⟨hi,h3,h4⟩];exact h6
  ·simp at h
theorem qW {α β:Type} {g:α→Option β}:∀{l:List α} {l':List β},l.mapM g=some l'→∀i:Nat,l'[i]?=(l[i]?).bind g
 |[],l',h,i=>by simp at h;subst h;simp
 |a::l,l',h,i=>by
  rw [List.mapM_cons] at h
  obtain ⟨b,hb,h2⟩:=bind_eq_some_iff.1 h
  obtain ⟨bs,hbs,h3⟩:=bind_eq_some_iff.1 h2
  simp only [Option.pure_def,Option.some.injEq] at h3
  subst h3
  cases i with
  |zero=>simp [hb]
  |succ i=>simpa using qW hbs i
theorem EM {t:TypeId} {z:AV} {pl:List (Nat×Nat)} {ps:List (Nat×AV)} {cs:List AV} (hz:Zt P t=some z) (hzt:z.isTup=false) (hpl:KQ P t=some pl) (hf:JU (fun i=>pl[i]?) z.cells ps=some cs) :
  UD P t ps=some (.agg cs):=by
 unfold UD
 rw [hz]
 simp only [bind_some,hzt,Bool.false_eq_true,if_false]
 unfold KQ at hpl
 split at hpl
 ·rename_i fields hu
  have hg:=qW hpl
  rw [hu]
  simp only
  rw [if_pos,Xm (p':=fun i=>(fields[i]?).bind fun f=>(qv P f.type).map fun s=>(f.offset,s)) (fun i x hx=>by
   rw [hg i] at hx;simpa using hx) hf]
  ·rfl
  ·refine List.all_eq_true.2 fun f hfm=>?_
   obtain ⟨i,hi,rfl⟩:=List.mem_iff_getElem.1 hfm
   have:=hg i
   cases hs:qv P (fields.toList[i]).type with
   |some s=>rfl
   |none =>
    rw [List.getElem?_eq_getElem hi] at this
    simp only [bind_some,hs,Option.map_none] at this
    have hlen:∀{α β:Type} {g:α→Option β} {l:List α} {l':List β},l.mapM g=some l'→l'.length=l.length:=by
     intro α β g l
     induction l with
     |nil=>intro l' h;simp at h;subst h;rfl
     |cons a l ih =>
      intro l' h
      rw [List.mapM_cons] at h
      obtain ⟨b,hb,h2⟩:=bind_eq_some_iff.1 h
      obtain ⟨bs,hbs,h3⟩:=bind_eq_some_iff.1 h2
      simp only [Option.pure_def,Option.some.injEq] at h3
      subst h3
      simp [ih hbs]
    have:=hlen hpl
    have h4:pl[i]?=none:=by assumption
    rw [List.getElem?_eq_none_iff] at h4
    omega
 ·rename_i n e hu
  obtain ⟨s,hs,rfl⟩:=map_eq_some_iff.1 hpl
  rw [hu]
  simp only [hs,bind_some]
  rw [Xm (p':=fun i=>some (i*s,s)) (fun i x hx=>by
   rw [List.getElem?_map] at hx
   obtain ⟨j,hj,rfl⟩:=map_eq_some_iff.1 hx
   have:=List.getElem?_eq_some_iff.1 hj
   obtain ⟨h1,h2⟩:=this
   simp at h2
   rw [h2]) hf]
  rfl
 ·simp at hpl
theorem Cv (st:St) (t:TypeId) (p:AV):ldA P st t p=(Ji P t).bind fun ag=>(qv P t).bind fun n=>zf st p n ag:=by
 unfold ldA zf;rfl
theorem Br {st:St} {t:TypeId} {p v:AV} {n:Nat} (hn:qv P t=some n) (h1:v.cells.length=n) (h2:v.isTup=false):stA P st t p v=zl st p v.cells:=by
 unfold stA zl
 rw [hn]
 simp only [bind_some]
 rw [if_pos ⟨h1,h2⟩]
 rfl
theorem JH {t:TypeId} {e:Nat×Nat×Option AV} (h:Km P t=some e):∃et i,P.underlying t=some (.slice et)∧P.info? et=some i∧QZ P et=some e.2.1∧e.1=i.bytes∧e.2.2=Zt P et:=by
 unfold Km at h
 split at h
 ·rename_i et hu
  obtain ⟨i,hi,h2⟩:=bind_eq_some_iff.1 h
  obtain ⟨kd,hk,rfl⟩:=map_eq_some_iff.1 h2
  exact ⟨et,i,hu,hi,hk,rfl,rfl⟩
 ·simp at h
theorem FQ {c:Call} (h:UR P H f base ev st dst kv c=some r):∃v s,Yl P H f ev st base dst c=some (.val v,s)∧kv v s=some r:=by
 unfold UR at h
 simp only [MW] at h
 unfold Yl
 split at h
 ·rename_i b hc
  rw [hc]
  simp only
  obtain ⟨args,ha,h2⟩:=bind_eq_some_iff.1 h
  rw [ha]
  simp only [bind_some]
  split at h2
  ·rename_i s x
   obtain ⟨t,ht,h3⟩:=bind_eq_some_iff.1 h2
   split at h3
   ·simp at h3
   ·simp at h3
   ·rename_i hn1 hn2
    obtain ⟨e,he,h4⟩:=bind_eq_some_iff.1 h3
    split at h4
    ·rename_i hnull
     obtain ⟨q,hq,h5⟩:=bind_eq_some_iff.1 h4
     refine ⟨q.1,q.2,?_,h5⟩
     obtain ⟨et,i,e1,e2,e3,e4,e5⟩:=JH he
     have hn:Wm P et e.2.1=true:=by
      unfold Wm;rw [←e5]
      unfold Hc at hnull
      exact hnull
     have happ:XX P st (Zk H f ev st base dst) t s x=some q:=by
      unfold XX
      rw [e1]
      simp only [e2,e3,bind_some,hn,if_true]
      rw [←e4]
      exact hq
     unfold qK
     simp only [ht,bind_some,happ]
     cases hu1:(c.argTypes[1]?).bind P.underlying with
     |none=>exact absurd hu1 hn2
     |some d =>
      cases d<;>first | rfl | exact absurd hu1 (hn1 _)
    ·simp at h4
  ·rename_i x
   obtain ⟨t,ht,h3⟩:=bind_eq_some_iff.1 h2
   obtain ⟨q,hq,h4⟩:=bind_eq_some_iff.1 h3
   obtain ⟨v,hv,h5⟩:=bind_eq_some_iff.1 h4
   refine ⟨v,st,?_,h5⟩
   have:MK P st t x=some v:=by
    unfold zbp at hq
    unfold MK
    split at hq<;>first | (simp only [Option.some.injEq] at hq;subst hq) | (simp at hq;done)
    ·rename_i hu;simp only [IH,Cp] at hv;split at hv<;>simp_all
    ·rename_i hu;rw [hu];exact hv
    ·rename_i hu;simp only [IH,zL] at hv;split at hv<;>simp_all
    ·rename_i hu
     simp only [IH,Hw] at hv
     split at hv
     ·rw [hu];exact hv
     ·rw [hu];exact hv
     ·simp at hv
   unfold qK
   simp only [ht,bind_some,this,map_some]
  ·rename_i d s
   obtain ⟨t,ht,h3⟩:=bind_eq_some_iff.1 h2
   obtain ⟨e,he,h4⟩:=bind_eq_some_iff.1 h3
   obtain ⟨q,hq,h5⟩:=bind_eq_some_iff.1 h4
   refine ⟨q.1,q.2,?_,h5⟩
   obtain ⟨et,i,e1,e2,e3,e4,e5⟩:=JH he
   have:Nl P st t d s=some q:=by
    unfold Nl
    rw [e1]
    simp only [e3,bind_some]
    exact hq
   unfold qK
   simp only [ht,bind_some,this,map_some]
  ·rename_i x r'
   obtain ⟨v,hv,h3⟩:=bind_eq_some_iff.1 h2
   exact ⟨v,st,by simp only [qK,hv,map_some],h3⟩
  ·rename_i x r'
   obtain ⟨v,hv,h3⟩:=bind_eq_some_iff.1 h2
   exact ⟨v,st,by simp only [qK,hv,map_some],h3⟩
  ·obtain ⟨v,hv,h3⟩:=bind_eq_some_iff.1 h2
   exact ⟨v,st,by simp only [qK,hv,map_some],h3⟩
  ·obtain ⟨v,hv,h3⟩:=bind_eq_some_iff.1 h2
   exact ⟨v,st,by simp only [qK,hv,map_some],h3⟩
  ·simp at h2
 ·rename_i g hc
  rw [hc]
  simp only
  obtain ⟨F,hF,h2⟩:=bind_eq_some_iff.1 h
  obtain ⟨args,ha,h3⟩:=bind_eq_some_iff.1 h2
  obtain ⟨v,hv,h4⟩:=bind_eq_some_iff.1 h3
  exact ⟨v,st,by simp only [hF,ha,bind_some,vA,hv,map_some],h4⟩
 ·simp at h
theorem zac {op:Op} (h:opK P H f base ev st dst kv ks kd kp op=some r):∃q,opA P H f ev st base dst op=some q∧HT kv ks kd kp q=some r:=by
 cases op<;>simp only [opK,MW] at h<;>try (simp at h;done)
 case move x =>
  obtain ⟨v,hv,h2⟩:=bind_eq_some_iff.1 h
  exact ⟨(.val v,st),by simp only [opA,vA,hv,map_some],h2⟩
 case assign x =>
  obtain ⟨v,hv,h2⟩:=bind_eq_some_iff.1 h
  exact ⟨(.val v,st),by simp only [opA,vA,hv,map_some],h2⟩
 case pick c a b =>
  obtain ⟨vc,hc,h2⟩:=bind_eq_some_iff.1 h
  obtain ⟨t,ht,h3⟩:=bind_eq_some_iff.1 h2
  obtain ⟨va,ha,h4⟩:=bind_eq_some_iff.1 h3
  obtain ⟨vb,hb,h5⟩:=bind_eq_some_iff.1 h4
  have:=Gf ht
  subst this
  rw [CL] at h5
  refine ⟨(.val (if t then va else vb),st),?_,h5⟩
  simp only [opA,vA,El,hc,bind_some]
  cases t
  ·simp [hb]
  ·simp [ha]
 case alloc t =>
  obtain ⟨z,hz,h2⟩:=bind_eq_some_iff.1 h
  split at h2
  ·simp at h2
  ·rename_i hn
   exact ⟨(.val (.bp st.length 0),ZH (US H f dst) (.box t z.cells::st)),by simp only [opA,vsA,UX,hz,bind_some,if_neg hn,map_some,Vu],h2⟩
 case box t x =>
  obtain ⟨v,hv,h2⟩:=bind_eq_some_iff.1 h
  obtain ⟨n,hn,h3⟩:=bind_eq_some_iff.1 h2
  obtain ⟨h4,h5,h6⟩:=Zu h3
  exact ⟨(.val (.bp st.length 0),ZH (US H f dst) (.box t v.cells::st)),by simp only [opA,vsA,IF,hv,bind_some,h5,Bool.false_eq_true,if_false,map_some,Vu],h6⟩
 case build t ps =>
  obtain ⟨z,hz,h2⟩:=bind_eq_some_iff.1 h
  split at h2
  ·simp at h2
  ·rename_i hn
   obtain ⟨pl,hpl,h3⟩:=bind_eq_some_iff.1 h2
   obtain ⟨qs,hq,h4⟩:=bind_eq_some_iff.1 h3
   obtain ⟨cs,hcs,h5⟩:=VX h4
   refine ⟨(.val (.agg cs),st),?_,h5⟩
   simp only [opA,vA,KJ,hq,bind_some,EM hz (by simpa using hn) hpl hcs,map_some]
 case buildSlice t len ps =>
  obtain ⟨e,he,h2⟩:=bind_eq_some_iff.1 h
  obtain ⟨z,hz,h3⟩:=bind_eq_some_iff.1 h2
  obtain ⟨qs,hq,h4⟩:=bind_eq_some_iff.1 h3
  obtain ⟨et,i,e1,e2,e3,e4,e5⟩:=JH he
  split at h4
  ·rename_i hc
   obtain ⟨rows,hr,h5⟩:=UP h4
   rw [e5] at hz
   simp only [opA,vsA,qP,e1,e3,hz,hq,bind_some,Jn]
   rw [if_pos hc,hr]
   simp only [bind_some]
   split at h5
   ·rename_i hm m hh
    obtain ⟨q,hq2,h6⟩:=bind_eq_some_iff.1 h5
    exact ⟨(.val q.1,q.2),by simp only [hh,hq2,map_some],h6⟩
   ·rename_i hh
    exact ⟨(.val (.sl e.2.1 rows 0 len .exact),st),by simp only [hh,map_some],h5⟩
  ·simp at h4
 case load t a =>
  obtain ⟨p,hp,h2⟩:=bind_eq_some_iff.1 h
  obtain ⟨ag,hag,h3⟩:=bind_eq_some_iff.1 h2
  obtain ⟨n,hn,h4⟩:=bind_eq_some_iff.1 h3
  obtain ⟨v,hv,h5⟩:=bind_eq_some_iff.1 h4
  refine ⟨(.val v,st),?_,h5⟩
  simp only [opA,vA,hp,bind_some,Cv,hag,hn,hv,map_some]
 case store t a x =>
  obtain ⟨p,hp,h2⟩:=bind_eq_some_iff.1 h
  obtain ⟨v,hv,h3⟩:=bind_eq_some_iff.1 h2
  obtain ⟨n,hn,h4⟩:=bind_eq_some_iff.1 h3
  obtain ⟨h5,h6,h7⟩:=Zu h4
  obtain ⟨s,hs,h8⟩:=bind_eq_some_iff.1 h7
  refine ⟨(.skip,s),?_,h8⟩
  simp only [opA,usA,Ln,hp,hv,bind_some,Br hn h5 h6,hs,map_some]
 case nilCheck x =>
  obtain ⟨v,hv,h2⟩:=bind_eq_some_iff.1 h
  obtain ⟨u,hu,h3⟩:=bind_eq_some_iff.1 h2
  exact ⟨(.val u,st),by simp only [opA,vA,hv,hu,bind_some,map_some],h3⟩
 case binOp op t x y ty =>
  obtain ⟨a,ha,h2⟩:=bind_eq_some_iff.1 h
  obtain ⟨b,hb,h3⟩:=bind_eq_some_iff.1 h2
  obtain ⟨v,hv,h4⟩:=bind_eq_some_iff.1 h3
  exact ⟨(.val v,st),by simp only [opA,vA,CG,ha,hb,hv,bind_some,map_some],h4⟩
 case unOp op ty x =>
  obtain ⟨a,ha,h2⟩:=bind_eq_some_iff.1 h
  obtain ⟨v,hv,h3⟩:=bind_eq_some_iff.1 h2
  exact ⟨(.val v,st),by simp only [opA,vA,ha,hv,bind_some,map_some],h3⟩
 case convert s d x =>
  obtain ⟨a,ha,h2⟩:=bind_eq_some_iff.1 h
  have key:∀{q:LZ} {v:AV},Hx P s d=some q→(q.ctorIdx=LZ.bytes.ctorIdx→(Zk H f ev st base dst).isSome=false)→Uq st q a=some v→JS P st (Zk H f ev st base dst) s d a=some (v,st):=by
   intro q v hq hh hv
   unfold Hx at hq
   unfold JS
   split at hq
   ·rename_i k' k hs hd
    simp only [Option.some.injEq] at hq;subst hq
    rw [hs,hd]
    simp only
    unfold Uq at hv
    split at hv<;>simp_all
   ·rename_i hs hd
    simp only [Option.some.injEq] at hq;subst hq
    rw [hs,hd]
    simp only
    unfold Uq at hv
    split at hv<;>simp_all
   ·rename_i e hs hd
    rw [hs,hd]
    simp only
    split at hq
    ·rename_i hu
     split at hq
     ·rename_i hce
      simp only [Option.some.injEq] at hq;subst hq
      have hh':=hh rfl
      simp only [Uq,By] at hv
      split at hv
      ·simp only [Option.some.injEq] at hv
       subst hv
       simp [hu,hce,hh']
      ·simp at hv
     ·simp at hq
    ·simp at hq
   ·rename_i e hs hd
    rw [hs,hd]
    simp only
    split at hq
    ·rename_i hu
     simp only [Option.some.injEq] at hq;subst hq
     rw [hu]
     simp only [Uq,Jg] at hv
     simp only
     split at hv
     ·simp at hv
     ·obtain ⟨rs,hrs,h3⟩:=bind_eq_some_iff.1 hv
      obtain ⟨bs,hbs,rfl⟩:=map_eq_some_iff.1 h3
      simp only [hrs,hbs,bind_some,map_some]
    ·simp at hq
   ·simp at hq
  split at h2
  ·rename_i q hq
   split at h2
   ·split at h2
    ·simp at h2
    ·rename_i hh
     obtain ⟨v,hv,h3⟩:=bind_eq_some_iff.1 h2
     exact ⟨(.val v,st),by simp only [opA,vsA,Ut,ha,bind_some,key hq (fun _=>by simpa using hh) hv,map_some],h3⟩
   ·rename_i hne
    obtain ⟨v,hv,h3⟩:=bind_eq_some_iff.1 h2
    exact ⟨(.val v,st),by simp only [opA,vsA,Ut,ha,bind_some,key hq (fun e=>by cases q<;>simp_all [LZ.ctorIdx]) hv,map_some],h3⟩
  ·obtain ⟨q,hq,h3⟩:=bind_eq_some_iff.1 h2
   exact ⟨(.val q.1,q.2),by simp only [opA,vsA,Ut,ha,bind_some,hq,map_some],h3⟩
 case makeInterface t x =>
  split at h
  ·rename_i hp
   obtain ⟨v,hv,h2⟩:=bind_eq_some_iff.1 h
   refine ⟨(.val (.iface t v),st),?_,h2⟩
   simp only [opA,vA,Lm]
   unfold KN at hp
   split at hp
   ·simp at hp
   ·rename_i q hu hnu
    rw [hnu]
    cases q<;>first | (exact (hu _ rfl).elim) | (simp only [hv,map_some])
   ·simp at hp
  ·simp at h
 case makeFunc fn first cap =>
  obtain ⟨v,hv,h2⟩:=bind_eq_some_iff.1 h
  exact ⟨(.val v,st),by simp only [opA,vA,hv,map_some],h2⟩
 case makeMap t x =>
  split at h
  ·exact ⟨(.val (.mp st.length),.amap []::st),rfl,h⟩
  ·simp at h
 case makeSlice t l c =>
  obtain ⟨e,he,h2⟩:=bind_eq_some_iff.1 h
  obtain ⟨z,hz,h3⟩:=bind_eq_some_iff.1 h2
  obtain ⟨et,i,e1,e2,e3,e4,e5⟩:=JH he
  rw [e5] at hz
  split at h3
  ·rename_i hc
   obtain ⟨lv,hl,h4⟩:=bind_eq_some_iff.1 h3
   obtain ⟨cv,hcv,h5⟩:=bind_eq_some_iff.1 h4
   obtain ⟨q,hq,h6⟩:=bind_eq_some_iff.1 h5
   refine ⟨(.val q.1,q.2),?_,h6⟩
   have:QL P st (Zk H f ev st base dst) t lv cv=some q:=by
    unfold Ui at hq
    split at hq
    ·rename_i l c
     unfold QL
     rw [e1]
     simp only [e2,e3,hz,bind_some]
     split at hq
     ·rename_i hb
      rw [if_pos ⟨hb.1,hb.2.1,by rw [←e4];exact hb.2.2.1,hb.2.2.2,hc.1,hc.2⟩]
      exact hq
     ·simp at hq
    ·simp at hq
   simp only [opA,vsA,YA,hl,hcv,bind_some,this,map_some]
  ·simp at h3
 case slice t x lo hi mx =>
  obtain ⟨xv,hx,h2⟩:=bind_eq_some_iff.1 h
  obtain ⟨q,hq,h3⟩:=bind_eq_some_iff.1 h2
  have optK_some:∀{o:Option Operand} {k:Option AV→Option R},EQ ev o k=some r→(∃vs,evs ev o.toList=some vs)∧k (o.bind ev)=some r:=by
   intro o k ho
   cases o with
   |none=>exact ⟨⟨[],rfl⟩,ho⟩
   |some o =>
    obtain ⟨v,hv,h4⟩:=bind_eq_some_iff.1 ho
    exact ⟨⟨[v],by simp [evs,hv]⟩,by simpa [hv] using h4⟩
  have evs_app:∀{a b:List Operand} {va vb:List AV},evs ev a=some va→evs ev b=some vb→evs ev (a++b)=some (va++vb):=by
   intro a
   induction a with
   |nil=>intro b va vb h1 h2;simp [evs] at h1;subst h1;simpa using h2
   |cons x a ih =>
    intro b va vb h1 h2
    simp only [evs] at h1
    obtain ⟨v,hv,h4⟩:=bind_eq_some_iff.1 h1
    obtain ⟨vs,hvs,rfl⟩:=map_eq_some_iff.1 h4
    simp only [List.cons_append,evs,hv,bind_some,ih hvs h2,map_some]
  unfold ixT at hq
  split at hq
  ·rename_i et hu
   obtain ⟨kdv,hkd,rfl⟩:=map_eq_some_iff.1 hq
   simp only at h3
   obtain ⟨⟨v1,g1⟩,h4⟩:=optK_some h3
   obtain ⟨⟨v2,g2⟩,h5⟩:=optK_some h4
   obtain ⟨⟨v3,g3⟩,h6⟩:=optK_some h5
   obtain ⟨v,hv,h7⟩:=bind_eq_some_iff.1 h6
   refine ⟨(.val v,st),?_,h7⟩
   have:QX P st t xv (lo.bind ev) (hi.bind ev) (mx.bind ev)=some v:=by
    unfold je at hv
    unfold QX
    rw [hu]
    split at hv
    ·simp only
     have:(qv P et).isSome=true:=by
      unfold QZ at hkd
      unfold qv
      split at hkd
      ·obtain ⟨i,hi,_⟩:=bind_eq_some_iff.1 hkd;simp [hi]
      ·obtain ⟨i,hi,_⟩:=bind_eq_some_iff.1 hkd;simp [hi]
      ·simp at hkd
     obtain ⟨s,hs⟩:=Option.isSome_iff_exists.1 this
     rw [hs];exact hv
    ·simp only [hkd,bind_some];exact hv
    ·simp only [hkd,bind_some];exact hv
    ·simp at hv
   simp only [opA,vA,XF,hx,bind_some,evs_app (evs_app g1 g2) g3,this,map_some]
  ·rename_i len e hu
   obtain ⟨ag,_,h4⟩:=bind_eq_some_iff.1 hq
   obtain ⟨n,_,rfl⟩:=map_eq_some_iff.1 h4
   simp at h3
  ·rename_i hu
   simp only [Option.some.injEq] at hq;subst hq
   simp only at h3
   split at h3
   ·obtain ⟨⟨v1,g1⟩,h4⟩:=optK_some h3
    obtain ⟨⟨v2,g2⟩,h5⟩:=optK_some h4
    obtain ⟨v,hv,h7⟩:=bind_eq_some_iff.1 h5
    refine ⟨(.val v,st),?_,h7⟩
    have:QX P st t xv (lo.bind ev) (hi.bind ev) none=some v:=by
     unfold qA at hv
     unfold QX
     rw [hu]
     split at hv
     ·simp only [Option.isNone_none,true_and];exact hv
     ·simp at hv
    have g3:evs ev (Option.toList (none:Option Operand))=some []:=rfl
    simp only [opA,vA,XF,hx,bind_some,evs_app (evs_app g1 g2) g3,Option.bind_none,this,map_some]
   ·simp at h3
  ·simp at hq
 case fieldAddr t x i =>
  obtain ⟨xv,hx,h2⟩:=bind_eq_some_iff.1 h
  obtain ⟨off,hoff,h3⟩:=bind_eq_some_iff.1 h2
  obtain ⟨v,hv,h4⟩:=bind_eq_some_iff.1 h3
  refine ⟨(.val v,st),?_,h4⟩
  have:Qy P t xv i=some v:=by
   unfold LK at hoff
   unfold Qy
   split at hoff
   ·rename_i fields hu
    rw [hu]
    obtain ⟨fd,hfd,h5⟩:=bind_eq_some_iff.1 hoff
    obtain ⟨n,hn,h6⟩:=bind_eq_some_iff.1 h5
    split at h6
    ·simp at h6
    ·rename_i hn0
     simp only [Option.some.injEq] at h6;subst h6
     simp only [hfd,hn,bind_some,if_neg hn0]
     unfold zc at hv
     exact hv
   ·simp at hoff
  simp only [opA,vA,hx,bind_some,this,map_some]
 case field t x i =>
  obtain ⟨xv,hx,h2⟩:=bind_eq_some_iff.1 h
  obtain ⟨q,hq,h3⟩:=bind_eq_some_iff.1 h2
  obtain ⟨cs,hcs,h4⟩:=bind_eq_some_iff.1 h3
  obtain ⟨v,hv,h5⟩:=bind_eq_some_iff.1 h4
  refine ⟨(.val v,st),?_,h5⟩
  have:=Kw hcs
  subst this
  have:UU P t (.agg cs) i=some v:=by
   unfold GX at hq
   unfold UU
   split at hq
   ·rename_i fields hu
    rw [hu]
    obtain ⟨fd,hfd,h5⟩:=bind_eq_some_iff.1 hq
    obtain ⟨ag,hag,h6⟩:=bind_eq_some_iff.1 h5
    obtain ⟨n,hn,rfl⟩:=map_eq_some_iff.1 h6
    simp only [hfd,bind_some,QV,hag,hn]
    exact hv
   ·simp at hq
  simp only [opA,vA,hx,bind_some,this,map_some]
 case indexAddr t x i =>
  obtain ⟨xv,hx,h2⟩:=bind_eq_some_iff.1 h
  obtain ⟨iv,hi,h3⟩:=bind_eq_some_iff.1 h2
  obtain ⟨j,hj,h4⟩:=bind_eq_some_iff.1 h3
  obtain ⟨q,hq,h5⟩:=bind_eq_some_iff.1 h4
  unfold ixT at hq
  split at hq
  ·rename_i et hu
   obtain ⟨kdv,hkd,rfl⟩:=map_eq_some_iff.1 hq
   simp only at h5
   obtain ⟨v,hv,h6⟩:=bind_eq_some_iff.1 h5
   refine ⟨(.val v,st),?_,h6⟩
   have:qY P st t xv iv=some v:=by
    unfold qY
    simp only [hj,hu,hkd,bind_some]
    exact hv
   simp only [opA,vA,hx,hi,bind_some,this,map_some]
  ·rename_i len e hu
   obtain ⟨ag,_,h6⟩:=bind_eq_some_iff.1 hq
   obtain ⟨n,hn,rfl⟩:=map_eq_some_iff.1 h6
   simp only at h5
   split at h5
   ·rename_i hjl
    obtain ⟨v,hv,h7⟩:=bind_eq_some_iff.1 h5
    refine ⟨(.val v,st),?_,h7⟩
    have:qY P st t xv iv=some v:=by
     unfold qY
     simp only [hj,hu,hn,bind_some,if_pos hjl]
     exact hv
    simp only [opA,vA,hx,hi,bind_some,this,map_some]
   ·simp at h5
  ·simp only [Option.some.injEq] at hq;subst hq;simp at h5
  ·simp at hq
 case index t x i =>
  obtain ⟨xv,hx,h2⟩:=bind_eq_some_iff.1 h
  obtain ⟨iv,hi,h3⟩:=bind_eq_some_iff.1 h2
  obtain ⟨j,hj,h4⟩:=bind_eq_some_iff.1 h3
  obtain ⟨q,hq,h5⟩:=bind_eq_some_iff.1 h4
  unfold ixT at hq
  split at hq
  ·obtain ⟨kdv,hkd,rfl⟩:=map_eq_some_iff.1 hq
   simp at h5
  ·rename_i len e hu
   obtain ⟨ag,hag,h6⟩:=bind_eq_some_iff.1 hq
   obtain ⟨n,hn,rfl⟩:=map_eq_some_iff.1 h6
   simp only at h5
   split at h5
   ·rename_i hjl
    obtain ⟨cs,hcs,h6⟩:=bind_eq_some_iff.1 h5
    obtain ⟨v,hv,h7⟩:=bind_eq_some_iff.1 h6
    have:=Kw hcs
    subst this
    refine ⟨(.val v,st),?_,h7⟩
    have:Xq P t (.agg cs) iv=some v:=by
     unfold Xq
     simp only [hj,hu,hn,bind_some,if_pos hjl,QV,hag]
     exact hv
    simp only [opA,vA,hx,hi,bind_some,this,map_some]
   ·simp at h5
  ·rename_i hu
   simp only [Option.some.injEq] at hq;subst hq
   simp only at h5
   obtain ⟨v,hv,h7⟩:=bind_eq_some_iff.1 h5
   refine ⟨(.val v,st),?_,h7⟩
   have:Xq P t xv iv=some v:=by
    unfold IS at hv
    split at hv
    ·unfold Xq
     simp only [hj,hu,bind_some]
     exact hv
    ·simp at hv
   simp only [opA,vA,hx,hi,bind_some,this,map_some]
  ·simp at hq
 case lookup t x k ok =>
  obtain ⟨xv,hx,h2⟩:=bind_eq_some_iff.1 h
  obtain ⟨kv',hk,h3⟩:=bind_eq_some_iff.1 h2
  obtain ⟨v,hv,h4⟩:=bind_eq_some_iff.1 h3
  exact ⟨(.val v,st),by simp only [opA,vA,Ge,hx,hk,hv,bind_some,map_some],h4⟩
 case mapUpdate t m k x =>
  obtain ⟨mv,hm,h2⟩:=bind_eq_some_iff.1 h
  obtain ⟨kv',hk,h3⟩:=bind_eq_some_iff.1 h2
  obtain ⟨xv,hx,h4⟩:=bind_eq_some_iff.1 h3
  obtain ⟨s,hs,h5⟩:=bind_eq_some_iff.1 h4
  exact ⟨(.skip,s),by simp only [opA,usA,Yv,hm,hk,hx,hs,bind_some,map_some],h5⟩
 case range t x =>
  obtain ⟨xv,hx,h2⟩:=bind_eq_some_iff.1 h
  obtain ⟨q,hq,h3⟩:=bind_eq_some_iff.1 h2
  exact ⟨(.val q.1,q.2),by simp only [opA,vsA,hx,hq,bind_some,map_some],h3⟩
 case next x isStr =>
  obtain ⟨xv,hx,h2⟩:=bind_eq_some_iff.1 h
  obtain ⟨q,hq,h3⟩:=bind_eq_some_iff.1 h2
  exact ⟨(.val q.1,q.2),by simp only [opA,vsA,hx,hq,bind_some,map_some],h3⟩
 case typeAssert x ty t ok =>
  split at h
  ·rename_i hp
   obtain ⟨xv,hx,h2⟩:=bind_eq_some_iff.1 h
   have hu:∃d,P.underlying t=some d∧∀i,d≠.interface i:=by
    unfold KN at hp
    split at hp
    ·simp at hp
    ·rename_i q hne hq;exact ⟨q,hq,fun i e=>hne i e⟩
    ·simp at hp
   obtain ⟨d,hd,hdi⟩:=hu
   split at h2
   ·rename_i z hz
    obtain ⟨v,hv,h3⟩:=bind_eq_some_iff.1 h2
    refine ⟨(.val v,st),?_,h3⟩
    have:jT P xv t ok=some v:=by
     unfold JP at hv
     unfold jT
     rw [hd]
     split at hv
     ·simp only [hz,map_some];first | exact hv | (cases d<;>first | exact hv | exact absurd rfl (hdi _))
     ·simp only [hz,map_some];first | exact hv | (cases d<;>first | exact hv | exact absurd rfl (hdi _))
     ·simp at hv
    simp only [opA,vA,hx,bind_some,this,map_some]
   ·rename_i hz
    split at h2
    ·simp at h2
    ·rename_i hok
     obtain ⟨v,hv,h3⟩:=bind_eq_some_iff.1 h2
     refine ⟨(.val v,st),?_,h3⟩
     have:jT P xv t ok=some v:=by
      unfold JP at hv
      unfold jT
      rw [hd]
      split at hv
      ·simp only [hok,Bool.false_eq_true,if_false] at hv ⊢;first | exact hv | (cases d<;>first | exact hv | exact absurd rfl (hdi _))
      ·simp at hv
      ·simp at hv
     simp only [opA,vA,hx,bind_some,this,map_some]
  ·simp at h
 case extract t i =>
  obtain ⟨xv,hx,h2⟩:=bind_eq_some_iff.1 h
  obtain ⟨v,hv,h3⟩:=bind_eq_some_iff.1 h2
  exact ⟨(.val v,st),by simp only [opA,vA,hx,hv,bind_some,map_some],h3⟩
 case call c =>
  obtain ⟨v,s,h1,h2⟩:=FQ h
  exact ⟨(.val v,s),h1,h2⟩
 case defer c =>
  split at h
  ·rename_i x hc
   obtain ⟨fv,hfv,h2⟩:=bind_eq_some_iff.1 h
   obtain ⟨q,hq,h3⟩:=bind_eq_some_iff.1 h2
   obtain ⟨args,ha,h4⟩:=bind_eq_some_iff.1 h3
   have:=MX hq
   subst this
   exact ⟨(.defer q.1 (args++q.2),st),by simp only [opA,Ub,hc,hfv,ha,bind_some,map_some],h4⟩
  ·simp at h
 case panic x =>
  obtain ⟨v,hv,h2⟩:=bind_eq_some_iff.1 h
  obtain ⟨u,hu,h3⟩:=bind_eq_some_iff.1 h2
  obtain ⟨t,y,rfl,rfl⟩:=LT hu
  exact ⟨(.pan (.iface t y),st),by simp only [opA,hv,bind_some,NS],h3⟩
end
end Go.Abs
namespace Go.Abs
open Go
section
variable {R:Type} {P:Program} {H:zN} {callF:Zw} {again:jI} {f:FuncId} {base:Nat}
variable {ev:Operand→Option AV} {st:St} {kv:AV→St→Option R} {ks:St→Option R} {kd:FuncId→List AV→St→Option R} {kp:AV→St→Option R} {r:R}
theorem Gd {x:Option (zd×St)} (h:zg x kv kp=some r):∃q,x=some q∧HT kv ks kd kp ((match q.1 with | .ret v=>(.val v,q.2) | .pan v=>(.pan v,q.2):Res×St))=some r:=by
 obtain ⟨q,hq,h2⟩:=bind_eq_some_iff.1 h
 refine ⟨q,hq,?_⟩
 obtain ⟨o,s⟩:=q
 cases o<;>exact h2
theorem UM {o:Oper} (h:Mp P H callF f base ev st o.dst kv ks kd kp o=some r):∃q,ZA P H callF f base o ev st=some q∧HT kv ks kd kp q=some r:=by
 unfold Mp at h
 unfold ZA
 have other:jr H ev o.op=none→opK P H f base ev st o.dst kv ks kd kp o.op=some r→∃q,(match jr H ev o.op with
   |some none=>none
   |some (some (g,args))=>(callF g args st).map fun r=>(match r.1 with | .ret v=>(.val v,r.2) | .pan v=>(.pan v,r.2):Res×St)
   |none=>opA P H f ev st base o.dst o.op)=some q∧HT kv ks kd kp q=some r:=by
  intro hc hk
  rw [hc]
  exact zac hk
 generalize hop:o.op=op at *
 cases op with
 |call c =>
  simp only at h
  split at h
  ·rename_i x hc
   split at h
   ·rename_i g
    split at h
    ·rename_i hx
     exact other (by simp [jr,hc,hx]) h
    ·rename_i hx
     obtain ⟨args,ha,h2⟩:=bind_eq_some_iff.1 h
     obtain ⟨q,hq,h3⟩:=Gd (ks:=ks) (kd:=kd) h2
     have:jr H ev (.call c)=some (some (g,args)):=by simp [jr,hc,hx,ha]
     rw [this]
     exact ⟨_,by simp only [hq,map_some];rfl,h3⟩
   ·rename_i hng
    obtain ⟨fv,hfv,h2⟩:=bind_eq_some_iff.1 h
    obtain ⟨q,hq,h3⟩:=bind_eq_some_iff.1 h2
    split at h3
    ·simp at h3
    ·rename_i hx
     obtain ⟨args,ha,h4⟩:=bind_eq_some_iff.1 h3
     obtain ⟨q',hq',h5⟩:=Gd (ks:=ks) (kd:=kd) h4
     have hf:=MX hq
     subst hf
     have:jr H ev (.call c)=some (some (q.1,args++q.2)):=by
      unfold jr
      simp [hc,hfv,hx,ha]
     rw [this]
     exact ⟨_,by simp only [hq',map_some];rfl,h5⟩
  ·rename_i hnv
   refine other ?_ h
   unfold jr
   cases hc:c.callee with
   |value x=>exact absurd hc (hnv x)
   |builtin b=>simp [hc]
   |invoke r m=>simp [hc]
 |_=>exact other rfl h
theorem Qz:∀{e:Env} {t:Nat} {v:AV},Env.get e t=some v→Yy e t v=e
 |[],t,v,h=>by simp [Env.get] at h
 |(s,u)::r,t,v,h=>by
  simp only [Env.get] at h
  simp only [Yy]
  split at h
  ·rename_i hs;rw [if_pos hs];simp only [Option.some.injEq] at h;rw [h]
  ·rename_i hs;rw [if_neg hs,Qz h]
theorem Vn {v:AV} {want:Bool} {yes no:AV→Option R} (h:Lo v want yes no=some r):∃b,(match v with | .bool b=>some (b==want) | .tup []=>some false | _=>none:Option Bool)=some b∧(if b then yes v else no v)=some r:=by
 unfold Lo at h
 split at h
 ·rename_i b
  refine ⟨b==want,rfl,?_⟩
  cases want<;>cases b<;>exact h
 ·exact ⟨false,rfl,h⟩
 ·simp at h
theorem Yr {ops:Array Oper} {loc:Env} {fr:Fr} {o:Oper} {yes no:Env→Fr→Option R} (h:Uh ops loc fr o yes no=some r):∃b,Zg ops loc fr.env o=some b∧(if b then yes loc fr else no loc fr)=some r:=by
 unfold Uh at h
 unfold Zg
 split at h
 ·rename_i hg;rw [hg];exact ⟨true,rfl,h⟩
 ·rename_i j want hg
  obtain ⟨d,hd,h2⟩:=bind_eq_some_iff.1 h
  rw [hg]
  simp only [hd,bind_some]
  split at h2
  ·rename_i v hv
   obtain ⟨b,hb,h3⟩:=Vn h2
   have hl:look loc fr.env d=some v:=by unfold look;rw [hv]
   rw [hl]
   simp only [bind_some]
   rw [Qz hv] at h3
   exact ⟨b,hb,h3⟩
  ·rename_i hv
   obtain ⟨v,hv2,h3⟩:=bind_eq_some_iff.1 h2
   obtain ⟨b,hb,h4⟩:=Vn h3
   have hl:look loc fr.env d=some v:=by unfold look;rw [hv];exact hv2
   rw [hl]
   simp only [bind_some]
   rw [Qz hv2] at h4
   exact ⟨b,hb,h4⟩
theorem qJ {dst:Option Tmp} {v:AV} {loc:Env} {fr:Fr} {k:Env→Fr→Option R} (h:Jd H f dst v loc fr k=some r):k (jY H f dst v loc fr.env).1 {fr with env:=(jY H f dst v loc fr.env).2}=some r:=by
 unfold Jd at h
 unfold jY
 split at h
 ·exact h
 ·split at h
  ·rename_i hk;simp only [if_pos hk];exact h
  ·rename_i hk;simp only [if_neg hk];exact h
theorem WP {t:TypeId} {v:AV} {k:AV→Option R} (h:Na P t v k=some r):k v=some r:=by
 unfold Na at h
 split at h
 ·obtain ⟨b,hb,h2⟩:=bind_eq_some_iff.1 h
  rw [Gf hb];exact h2
 ·obtain ⟨n,hn,h2⟩:=bind_eq_some_iff.1 h
  unfold zm at hn
  split at hn
  ·split at hn
   ·rename_i hk;simp only [Option.some.injEq] at hn;rw [hk,hn];exact h2
   ·simp at hn
  ·simp at hn
 ·obtain ⟨s,hs,h2⟩:=bind_eq_some_iff.1 h
  unfold zA at hs
  split at hs
  ·simp only [Option.some.injEq] at hs;rw [hs];exact h2
  ·simp at hs
 ·exact h
theorem Xn {o:Oper} {v:AV} {loc:Env} {fr:Fr} {k:Env→Fr→St→Option R} (h:Vb H f o.dst v st loc fr k=some r):∃l,jc H f o (.val v) loc fr st=some l∧k l.1 l.2.1 l.2.2=some r:=by
 unfold Vb at h
 unfold jc
 cases hd:o.dst with
 |none=>rw [hd] at h;exact ⟨(loc,fr,st),rfl,h⟩
 |some d =>
  rw [hd] at h
  simp only at h ⊢
  split at h
  ·rename_i hf
   rw [if_pos hf]
   obtain ⟨q,hq,h2⟩:=bind_eq_some_iff.1 h
   rw [hq]
   exact ⟨_,rfl,qJ h2⟩
  ·rename_i hf
   rw [if_neg hf]
   exact ⟨_,rfl,qJ h⟩
theorem YF {ops:Array Oper} {k:AX→Fr→St→Option R}:∀{l:List Oper} {loc:Env} {fr:Fr} {st:St},Us P H callF f base ops l loc fr st k=some r→∃q,XP P H callF f base ops l loc fr st=some q∧k q.1 q.2.1 q.2.2=some r
 |[],loc,fr,st,h=>⟨(.normal,fr,st),rfl,h⟩
 |o::rest,loc,fr,st,h=>by
  simp only [Us] at h
  obtain ⟨b,hb,h2⟩:=Yr h
  simp only [XP,hb,bind_some]
  cases b with
  |false =>
   simp only [Bool.false_eq_true,if_false] at h2 ⊢
   exact YF (qJ h2)
  |true =>
   simp only [if_true] at h2 ⊢
   obtain ⟨q,hq,h3⟩:=UM h2
   simp only [ZB,hq,bind_some]
   obtain ⟨res,s⟩:=q
   cases res with
   |pan v=>exact ⟨_,rfl,h3⟩
   |val v =>
    obtain ⟨l,hl,h4⟩:=Xn (WP (show Na P o.type v (fun v=>Vb H f o.dst v s loc fr (fun loc fr st=>Us P H callF f base ops rest loc fr st k))=some r from h3))
    simp only [hl,bind_some]
    exact YF h4
   |skip =>
    have h4:=qJ (show Jd H f o.dst qm loc fr (fun loc fr=>Us P H callF f base ops rest loc fr s k)=some r from h3)
    simp only [jc,bind_some]
    exact YF h4
   |defer g as =>
    have h4:=qJ (show Jd H f o.dst qm loc fr (fun loc fr=>Us P H callF f base ops rest loc {fr with defers:=(g,as)::fr.defers} s k)=some r from h3)
    simp only [jc,bind_some]
    exact YF h4
theorem Yt {ops:Array Oper} {k:AX→Env→Fr→St→List St→Nat→Option R}:∀{l:List Oper} {loc:Env} {fr:Fr} {st:St} {tr:List St} {n:Nat},YS P H callF f base ops l loc fr st tr n k=some r →
  ∃q,XC P H callF f base ops l loc fr st tr n=some q∧k q.1 q.2.1 q.2.2.1 q.2.2.2.1 q.2.2.2.2.1 q.2.2.2.2.2=some r
 |[],loc,fr,st,tr,n,h=>⟨(.normal,loc,fr,st,tr,n),rfl,h⟩
 |o::rest,loc,fr,st,tr,n,h=>by
  simp only [YS] at h
  obtain ⟨b,hb,h2⟩:=Yr h
  simp only [XC,hb,bind_some]
  cases b with
  |false =>
   simp only [Bool.false_eq_true,if_false] at h2 ⊢
   exact Yt (qJ h2)
  |true =>
   simp only [if_true] at h2 ⊢
   obtain ⟨q,hq,h3⟩:=UM h2
   simp only [ZB,hq,bind_some]
   obtain ⟨res,s⟩:=q
   cases res with
   |pan v=>exact ⟨_,rfl,h3⟩
   |val v =>
    obtain ⟨l,hl,h4⟩:=Xn (WP (show Na P o.type v (fun v=>Vb H f o.dst v s loc fr (fun loc fr st=>YS P H callF f base ops rest loc fr st (if isO H f o then st::tr else tr) (n+1) k))=some r from h3))
    simp only [hl,bind_some]
    exact Yt h4
   |skip =>
    have h4:=qJ (show Jd H f o.dst qm loc fr (fun loc fr=>YS P H callF f base ops rest loc fr s (if isO H f o then s::tr else tr) (n+1) k)=some r from h3)
    simp only [jc,bind_some]
    exact Yt h4
   |defer g as =>
    have h4:=qJ (show Jd H f o.dst qm loc fr (fun loc fr=>YS P H callF f base ops rest loc {fr with defers:=(g,as)::fr.defers} s (if isO H f o then s::tr else tr) (n+1) k)=some r from h3)
    simp only [jc,bind_some]
    exact Yt h4
theorem XQ {ops:Array Oper}:∀{l:List Oper} {loc:Env} {fr:Fr} {st:St} {tr:List St} {n:Nat} {q:AX×Fr×St},XP P H callF f base ops l loc fr st=some q →
  ∃loc' tr' n',XC P H callF f base ops l loc fr st tr n=some (q.1,loc',q.2.1,q.2.2,tr',n')
 |[],loc,fr,st,tr,n,q,h=>by simp only [XP,Option.some.injEq] at h;subst h;exact ⟨loc,tr,n,rfl⟩
 |o::rest,loc,fr,st,tr,n,q,h=>by
  simp only [XP] at h
  obtain ⟨b,hb,h2⟩:=bind_eq_some_iff.1 h
  simp only [XC,hb,bind_some]
  cases b with
  |false =>
   simp only [Bool.false_eq_true,if_false] at h2 ⊢
   exact XQ h2
  |true =>
   simp only [if_true] at h2 ⊢
   obtain ⟨s,hs,h3⟩:=bind_eq_some_iff.1 h2
   simp only [hs,bind_some]
   obtain ⟨res,s⟩:=s
   cases res with
   |pan v=>simp only [Option.some.injEq] at h3;subst h3;exact ⟨_,_,_,rfl⟩
   |val v =>
    obtain ⟨l,hl,h4⟩:=bind_eq_some_iff.1 h3
    simp only [hl,bind_some]
    exact XQ h4
   |skip =>
    obtain ⟨l,hl,h4⟩:=bind_eq_some_iff.1 h3
    simp only [hl,bind_some]
    exact XQ h4
   |defer g as =>
    obtain ⟨l,hl,h4⟩:=bind_eq_some_iff.1 h3
    simp only [hl,bind_some]
    exact XQ h4
theorem Fx {ops:Array Oper} {loc env:Env} {tr:List St} {k:Nat} {x:Nat×Nat×Nat} (h:Ny P H f base ops loc env tr k x=true):Qv P H f base ops loc env tr k x=true:=by
 unfold Ny at h
 split at h
 ·rename_i hk;unfold Qv;rw [if_pos hk]
 ·rename_i hk
  split at h
  ·simp at h
  ·rename_i o ho
   split at h
   ·rename_i hw;unfold Qv;rw [if_neg hk,ho];simp only [hw]
   ·simp at h
   ·rename_i hw
    have key:jq (evO H loc env) o.op&&o.dst.isSome→Qv P H f base ops loc env tr k x=true:=fun hs=>by
     simp only [Bool.and_eq_true] at hs
     unfold Qv
     rw [if_neg hk,ho]
     simp only [hw]
     rw [if_pos hs.1];exact hs.2
    split at h
    ·exact key (by simpa using h)
    ·exact key (by simpa using h)
    ·exact key (by simpa using h)
    ·exact h
theorem UZ {id:Nat} {ops:Array Oper} {draw:Bool} {fr:Fr} {k:AX→Fr→St→Option R} (h:VJ P H callF f base id ops draw fr st k=some r) :
  ∃q,Zi P H callF f base id ops draw fr st=some q∧k q.1 q.2.1 q.2.2=some r:=by
 unfold VJ at h
 unfold Zi
 split at h
 ·rename_i hd
  rw [if_pos hd]
  split at h
  ·rename_i he
   obtain ⟨q,hq,h2⟩:=YF h
   obtain ⟨loc',tr',n',h3⟩:=XQ (tr:=[st]) (n:=0) hq
   rw [h3]
   simp only [bind_some]
   rw [if_pos (by rw [List.isEmpty_iff.1 he];rfl)]
   obtain ⟨ax,fr',st'⟩:=q
   cases ax with
   |panic v =>
    simp only at h2 ⊢
    split at h2
    ·rename_i hp;rw [if_pos hp];exact ⟨_,rfl,h2⟩
    ·simp at h2
   |_=>exact ⟨_,rfl,h2⟩
  ·obtain ⟨q,hq,h2⟩:=Yt h
   rw [hq]
   simp only [bind_some]
   obtain ⟨ax,loc',fr',st',tr',n'⟩:=q
   simp only at h2 ⊢
   split at h2
   ·rename_i ha
    rw [if_pos (List.all_eq_true.2 fun x hx=>Fx (List.all_eq_true.1 ha x hx))]
    cases ax with
    |panic v =>
     simp only at h2 ⊢
     split at h2
     ·rename_i hp;rw [if_pos hp];exact ⟨_,rfl,h2⟩
     ·simp at h2
    |_=>exact ⟨_,rfl,h2⟩
   ·simp at h2
 ·rename_i hd
  rw [if_neg hd]
  exact YF h
theorem Qx {x:Option (AX×Fr×St)} {k:AX→Fr→St→Option R} (h:Wi x k=some r):∃q,x=some q∧k q.1 q.2.1 q.2.2=some r:=bind_eq_some_iff.1 h
theorem jj (hA:∀body fr st q,again (.round body) fr st=some q→qd P H callF again f base (.loop body) fr st=some q):∀{c:Code} {fr:Fr} {st:St} {k:AX→Fr→St→Option R},
  jk P H callF again f base c fr st k=some r→∃q,qd P H callF again f base c fr st=some q∧k q.1 q.2.1 q.2.2=some r
 | .skip,fr,st,k,h=>⟨_,rfl,h⟩
 | .label _,fr,st,k,h=>⟨_,rfl,h⟩
 | .region id ops draw,fr,st,k,h=>UZ h
 | .seq a b,fr,st,k,h=>by
  simp only [jk] at h
  obtain ⟨q,hq,h2⟩:=jj hA h
  simp only [qd,hq,bind_some]
  obtain ⟨ax,fr',st'⟩:=q
  cases ax with
  |normal=>exact jj hA h2
  |_=>exact ⟨_,rfl,h2⟩
 | .cond c a b,fr,st,k,h=>by
  simp only [jk] at h
  obtain ⟨v,hv,h2⟩:=bind_eq_some_iff.1 h
  simp only [qd,hv,bind_some]
  have key:∀{x y:AV→Option R},Vf v x y=some r→∃t,v = .bool t∧(if t then x v else y v)=some r:=by
   intro x y hxy
   unfold Vf at hxy
   split at hxy
   ·rename_i t;cases t<;>exact ⟨_,rfl,hxy⟩
   ·simp at hxy
  split at h2
  ·rename_i t
   obtain ⟨b,rfl,h3⟩:=key h2
   have hg:Env.get fr.env t=some (.bool b):=by simpa [evO,look,Env.get] using hv
   rw [Qz hg] at h3
   cases b with
   |true=>exact jj hA h3
   |false=>exact jj hA h3
  ·obtain ⟨b,rfl,h3⟩:=key h2
   cases b with
   |true=>exact jj hA h3
   |false=>exact jj hA h3
 | .block id body,fr,st,k,h=>by
  simp only [jk] at h
  obtain ⟨q,hq,h2⟩:=jj hA h
  simp only [qd,hq,map_some]
  obtain ⟨ax,fr',st'⟩:=q
  cases ax with
  |exit i =>
   simp only at h2 ⊢
   split at h2
   ·rename_i hi;rw [if_pos hi];exact ⟨_,rfl,h2⟩
   ·rename_i hi;rw [if_neg hi];exact ⟨_,rfl,h2⟩
  |_=>exact ⟨_,rfl,h2⟩
 | .loop body,fr,st,k,h=>by
  simp only [jk] at h
  obtain ⟨q,hq,h2⟩:=Qx h
  exact ⟨q,hA body fr st q hq,h2⟩
 | .scope body,fr,st,k,h=>by
  simp only [jk] at h
  obtain ⟨q,hq,h2⟩:=jj hA h
  simp only [qd,hq,bind_some]
  obtain ⟨ax,fr',st'⟩:=q
  cases ax with
  |goto l =>
   simp only at h2 ⊢
   split at h2
   ·rename_i rest hf;rw [hf];exact Qx h2
   ·rename_i hf;rw [hf];exact ⟨_,rfl,h2⟩
  |_=>exact ⟨_,rfl,h2⟩
 | .exit id,fr,st,k,h=>⟨_,rfl,h⟩
 | .goto l,fr,st,k,h=>⟨_,rfl,h⟩
 | .ret,fr,st,k,h=>⟨_,rfl,h⟩
 | .rangeFunc ..,fr,st,k,h=>by simp [jk] at h
 | .refuse _,fr,st,k,h=>by simp [jk] at h
end
section
variable {P:Program} {H:zN} {callF:Zw} {again:FuncId→Nat→jI}
theorem Cc (hA:∀f base body fr st q,again f base (.round body) fr st=some q→qd P H callF (again f base) f base (.loop body) fr st=some q) {g:FuncId} {args:List AV} {st:St} {r:zd×St}
  (h:Hy P H callF again g args st=some r):YU P H callF again g args st=some r:=by
 unfold Hy at h
 unfold YU
 split at h
 ·simp at h
 ·rename_i hp
  rw [hp]
  simp only
  obtain ⟨fn,hfn,h2⟩:=bind_eq_some_iff.1 h
  obtain ⟨c,hc,h3⟩:=bind_eq_some_iff.1 h2
  simp only [hfn,hc,bind_some]
  split at h3
  ·rename_i hl
   rw [if_pos hl]
   obtain ⟨q,hq,h4⟩:=jj (hA g st.length) h3
   rw [hq]
   simp only [bind_some]
   obtain ⟨ax,fr',st'⟩:=q
   unfold FR at h4
   cases ax with
   |normal =>
    simp only at h4 ⊢
    split at h4
    ·rename_i hd
     obtain ⟨vs,hvs,h5⟩:=bind_eq_some_iff.1 h4
     simp only [hd,zW,hvs,map_some,bind_some]
     exact h5
    ·exact h4
   |ret =>
    simp only at h4 ⊢
    split at h4
    ·rename_i hd
     obtain ⟨vs,hvs,h5⟩:=bind_eq_some_iff.1 h4
     simp only [hd,zW,hvs,map_some,bind_some]
     exact h5
    ·exact h4
   |panic v =>
    simp only at h4 ⊢
    split at h4
    ·rename_i hd
     simp only [hd,zW,bind_some]
     exact h4
    ·exact h4
   |exit i=>simp at h4
   |goto i=>simp at h4
  ·simp at h3
end
end Go.Abs
namespace Go.Abs
open Go
def Ev {α:Type} (x:Option α) (y:Nat→Option α):Prop:=∀r,x=some r→∃N,∀n,N≤n→y n=some r
theorem Ev.const {α:Type} (x:Option α):Ev x fun _=>x:=fun r h=>⟨0,fun _ _=>h⟩
theorem Ev.bind {α β:Type} {x:Option α} {y:Nat→Option α} {k:α→Option β} {k':Nat→α→Option β} (h:Ev x y) (hk:∀a,Ev (k a) fun n=>k' n a):Ev (x.bind k) fun n=>(y n).bind (k' n):=by
 intro r hr
 obtain ⟨a,ha,h2⟩:=bind_eq_some_iff.1 hr
 obtain ⟨N,hN⟩:=h a ha
 obtain ⟨M,hM⟩:=hk a r h2
 exact ⟨max N M,fun n hn=>by show (y n).bind (k' n)=_;rw [hN n (by omega)];exact hM n (by omega)⟩
theorem Ev.map {α β:Type} {x:Option α} {y:Nat→Option α} (k:α→β) (h:Ev x y):Ev (x.map k) fun n=>(y n).map k:=by
 intro r hr
 obtain ⟨a,ha,rfl⟩:=map_eq_some_iff.1 hr
 obtain ⟨N,hN⟩:=h a ha
 exact ⟨N,fun n hn=>by show (y n).map k=_;rw [hN n hn];rfl⟩
theorem Ev.ite {α:Type} {c:Prop} [Decidable c] {x x':Option α} {y y':Nat→Option α} (h:Ev x y) (h':Ev x' y'):Ev (if c then x else x') fun n=>if c then y n else y' n:=by
 by_cases hc:c
 ·simp only [if_pos hc];exact h
 ·simp only [if_neg hc];exact h'
section
variable {P:Program} {H:zN} {callF:Zw} {E:Nat→Zw}
theorem UL {f:FuncId} {base:Nat} (hE:∀g a s,Ev (callF g a s) fun n=>E n g a s) (o:Oper) (ev:Operand→Option AV) (st:St):Ev (ZA P H callF f base o ev st) fun n=>ZA P H (E n) f base o ev st:=by
 unfold ZA
 cases jr H ev o.op with
 |none=>exact .const _
 |some x =>
  cases x with
  |none=>exact .const _
  |some ga=>exact (hE ga.1 ga.2 st).map _
theorem KG {f:FuncId} {base:Nat} {ops:Array Oper} (hE:∀g a s,Ev (callF g a s) fun n=>E n g a s):∀(l:List Oper) (loc:Env) (fr:Fr) (st:St),Ev (XP P H callF f base ops l loc fr st) fun n=>XP P H (E n) f base ops l loc fr st
 |[],loc,fr,st=>.const _
 |o::l,loc,fr,st=>by
  simp only [XP]
  refine (Ev.const _).bind fun w=>.ite ((UL hE o _ st).bind fun q=>?_) (KG hE l _ _ st)
  obtain ⟨res,s⟩:=q
  cases res with
  |pan v=>exact .const _
  |_=>exact (Ev.const _).bind fun l'=>KG hE l _ _ _
theorem KB {f:FuncId} {base:Nat} {ops:Array Oper} (hE:∀g a s,Ev (callF g a s) fun n=>E n g a s):∀(l:List Oper) (loc:Env) (fr:Fr) (st:St) (tr:List St) (k:Nat),Ev (XC P H callF f base ops l loc fr st tr k) fun n=>XC P H (E n) f base ops l loc fr st tr k
 |[],loc,fr,st,tr,k=>.const _
 |o::l,loc,fr,st,tr,k=>by
  simp only [XC]
  refine (Ev.const _).bind fun w=>.ite ((UL hE o _ st).bind fun q=>?_) (KB hE l _ _ st _ _)
  obtain ⟨res,s⟩:=q
  cases res with
  |pan v=>exact .const _
  |_=>exact (Ev.const _).bind fun l'=>KB hE l _ _ _ _ _
theorem GN {f:FuncId} {base id:Nat} {ops:Array Oper} {draw:Bool} (hE:∀g a s,Ev (callF g a s) fun n=>E n g a s) (fr:Fr) (st:St):Ev (Zi P H callF f base id ops draw fr st) fun n=>Zi P H (E n) f base id ops draw fr st:=by
 unfold Zi
 exact .ite ((KB hE _ _ _ _ _ _).bind fun _=>.const _) (KG hE _ _ _ _)
variable {f:FuncId} {base:Nat} {again:jI} {G:Nat→jI}
theorem jK (hE:∀g a s,Ev (callF g a s) fun n=>E n g a s) (hG:∀t fr s,Ev (again t fr s) fun n=>G n t fr s):∀(c:Code) (fr:Fr) (st:St),Ev (qd P H callF again f base c fr st) fun n=>qd P H (E n) (G n) f base c fr st
 | .skip,fr,st=>.const _
 | .label _,fr,st=>.const _
 | .region id ops draw,fr,st=>GN hE fr st
 | .seq a b,fr,st=>by
  simp only [qd]
  refine (jK hE hG a fr st).bind fun q=>?_
  obtain ⟨ax,fr',st'⟩:=q
  cases ax with
  |normal=>exact jK hE hG b _ _
  |_=>exact .const _
 | .cond c a b,fr,st=>by
  simp only [qd]
  refine (Ev.const _).bind fun v=>?_
  cases v<;>first | exact .const _ | exact .ite (jK hE hG a fr st) (jK hE hG b fr st)
 | .block id body,fr,st=>by simp only [qd];exact (jK hE hG body fr st).map _
 | .loop body,fr,st=>by
  simp only [qd]
  refine (jK hE hG body fr st).bind fun q=>?_
  obtain ⟨ax,fr',st'⟩:=q
  cases ax with
  |normal=>exact (Ev.const _).bind fun e=>hG _ _ _
  |_=>exact .const _
 | .scope body,fr,st=>by
  simp only [qd]
  refine (jK hE hG body fr st).bind fun q=>?_
  obtain ⟨ax,fr',st'⟩:=q
  cases ax with
  |goto l =>
   simp only
   cases findLabel body l with
   |some rest=>exact hG _ _ _
   |none=>exact .const _
  |_=>exact .const _
 | .exit id,fr,st=>.const _
 | .goto l,fr,st=>.const _
 | .ret,fr,st=>.const _
 | .rangeFunc ..,fr,st=>.const _
 | .refuse _,fr,st=>.const _
theorem Eu (hE:∀g a s,Ev (callF g a s) fun n=>E n g a s) (hG:∀t fr s,Ev (again t fr s) fun n=>G n t fr s) (t:YR) (fr:Fr) (st:St):Ev (Xa P H callF again f base t fr st) fun n=>Xa P H (E n) (G n) f base t fr st:=by
 cases t with
 |code c=>exact jK hE hG c fr st
 |round body=>exact jK hE hG (.loop body) fr st
 |resume body rest =>
  simp only [Xa]
  refine (jK hE hG rest fr st).bind fun q=>?_
  obtain ⟨ax,fr',st'⟩:=q
  cases ax with
  |goto l =>
   simp only
   cases findLabel body l with
   |some rest=>exact hG _ _ _
   |none=>exact .const _
  |_=>exact .const _
theorem XO {ops:Array Oper} (hE:∀g a s,Ev (callF g a s) fun n=>E n g a s):∀(l:List Oper) (loc:Env) (fr:Fr) (st:St) (m:zo),Ev (WI P H callF f base ops l loc fr st m) fun n=>WI P H (E n) f base ops l loc fr st m
 |[],loc,fr,st,m=>.const _
 |o::l,loc,fr,st,m=>by
  simp only [WI]
  refine (Ev.const _).bind fun w=>.ite ?_ (XO hE l _ _ st m)
  split
  ·cases m with
   |pan v=>exact XO hE l _ _ _ _
   |_=>exact XO hE l _ _ _ _
  ·refine (UL hE o _ st).bind fun q=>?_
   obtain ⟨res,s⟩:=q
   cases res with
   |pan v=>exact .const _
   |_=>exact (Ev.const _).bind fun l'=>XO hE l _ _ _ _
theorem Bz (hE:∀g a s,Ev (callF g a s) fun n=>E n g a s) (hG:∀t fr s,Ev (again t fr s) fun n=>G n t fr s):∀(c:Code) (fr:Fr) (st:St) (m:zo),Ev (Zz P H callF again f base c fr st m) fun n=>Zz P H (E n) (G n) f base c fr st m:=by
 intro c
 have plain:∀(c:Code) (fr:Fr) (st:St) (m:zo),Ev ((qd P H callF again f base c fr st).map fun r=>(r.1,r.2.1,r.2.2,m)) fun n=>(qd P H (E n) (G n) f base c fr st).map fun r=>(r.1,r.2.1,r.2.2,m):=fun c fr st m=>(jK hE hG c fr st).map _
 induction c with
 |region id ops draw =>
  intro fr st m
  simp only [Zz]
  exact .ite ((GN hE fr st).map _) (XO hE _ _ _ _ _)
 |seq a b iha ihb =>
  intro fr st m
  simp only [Zz]
  refine (iha fr st m).bind fun q=>?_
  obtain ⟨ax,fr',st',m'⟩:=q
  cases ax with
  |normal=>exact ihb _ _ _
  |_=>exact .const _
 |cond c a b iha ihb =>
  intro fr st m
  simp only [Zz]
  refine (Ev.const _).bind fun v=>?_
  cases v<;>first | exact .const _ | exact .ite (iha fr st m) (ihb fr st m)
 |_=>intro fr st m;exact plain _ fr st m
end
section
variable {P:Program} {H:zN} {callF:Zw} {E:Nat→Zw} {again:FuncId→Nat→jI} {G:Nat→FuncId→Nat→jI}
theorem Ua (hE:∀g a s,Ev (callF g a s) fun n=>E n g a s) (hG:∀f b t fr s,Ev (again f b t fr s) fun n=>G n f b t fr s) (g:FuncId) (args:List AV) (st:St) (m:zo) :
  Ev (zY P H callF again g args st m) fun n=>zY P H (E n) (G n) g args st m:=by
 unfold zY
 refine (Ev.const _).bind fun fn=>(Ev.const _).bind fun c=>.ite (Ev.bind (.ite (Bz hE (hG g st.length) c _ _ m) ((jK hE (hG g st.length) c _ _).map _)) fun q=>.const _) (.const _)
theorem JY {callD:FuncId→List AV→St→zo→Option (zd×St×zo)} {D:Nat→FuncId→List AV→St→zo→Option (zd×St×zo)} (hD:∀g a s m,Ev (callD g a s m) fun n=>D n g a s m) (fn:Func) (env:Env) :
  ∀(ds:List (FuncId×List AV)) (m:zo) (st:St),Ev (zW P callD fn env ds m st) fun n=>zW P (D n) fn env ds m st
 |[],m,st=>by cases m<;>exact .const _
 |(g,args)::ds,m,st=>by
  simp only [zW]
  refine (hD g args st m).bind fun q=>?_
  obtain ⟨o,s,m'⟩:=q
  cases o with
  |ret v=>exact JY hD fn env ds _ _
  |pan v =>
   cases m' with
   |ret=>exact JY hD fn env ds _ _
   |_=>exact .const _
theorem DN (hE:∀g a s,Ev (callF g a s) fun n=>E n g a s) (hG:∀f b t fr s,Ev (again f b t fr s) fun n=>G n f b t fr s) (g:FuncId) (args:List AV) (st:St):Ev (YU P H callF again g args st) fun n=>YU P H (E n) (G n) g args st:=by
 unfold YU
 cases H.prim g with
 |some F=>exact .const _
 |none =>
  simp only
  refine (Ev.const _).bind fun fn=>(Ev.const _).bind fun c=>.ite ((jK hE (hG g st.length) c _ _).bind fun q=>Ev.bind ?_ fun o=>.const _) (.const _)
  obtain ⟨ax,fr',st'⟩:=q
  cases ax with
  |normal=>exact JY (Ua hE hG) fn _ _ _ _
  |ret=>exact JY (Ua hE hG) fn _ _ _ _
  |panic v=>exact JY (Ua hE hG) fn _ _ _ _
  |_=>exact .const _
end
section
variable (P:Program) (H:zN)
theorem Vl:∀n,(∀g a s r,(levels P H n).1 g a s=some r→(levels P H (n+1)).1 g a s=some r)∧∀f b t fr s r,(levels P H n).2 f b t fr s=some r→(levels P H (n+1)).2 f b t fr s=some r
 | 0=>⟨fun g a s r h=>by simp [levels] at h,fun f b t fr s r h=>by simp [levels] at h⟩
 |n+1=>by
  obtain ⟨h1,h2⟩:=Vl n
  have hE:∀g a s,Ev ((levels P H n).1 g a s) fun _:Nat=>(levels P H (n+1)).1 g a s:=fun g a s r h=>⟨0,fun _ _=>h1 g a s r h⟩
  have hG:∀f b t fr s,Ev ((levels P H n).2 f b t fr s) fun _:Nat=>(levels P H (n+1)).2 f b t fr s:=fun f b t fr s r h=>⟨0,fun _ _=>h2 f b t fr s r h⟩
  exact ⟨fun g a s r h=>(DN (E:=fun _=>(levels P H (n+1)).1) (G:=fun _=>(levels P H (n+1)).2) hE hG g a s r h).elim fun N h=>h N (Nat.le_refl N),
   fun f b t fr s r h=>(Eu (E:=fun _=>(levels P H (n+1)).1) (G:=fun _=>(levels P H (n+1)).2 f b) hE (hG f b) t fr s r h).elim fun N h=>h N (Nat.le_refl N)⟩
theorem jQ {n m:Nat} (h:n≤m):(∀g a s r,(levels P H n).1 g a s=some r→(levels P H m).1 g a s=some r)∧∀f b t fr s r,(levels P H n).2 f b t fr s=some r→(levels P H m).2 f b t fr s=some r:=by
 induction m with
 |zero=>rw [show n=0 by omega];exact ⟨fun _ _ _ _ h=>h,fun _ _ _ _ _ _ h=>h⟩
 |succ m ih =>
  by_cases e:n=m+1
  ·subst e;exact ⟨fun _ _ _ _ h=>h,fun _ _ _ _ _ _ h=>h⟩
  ·obtain ⟨h1,h2⟩:=ih (by omega)
   obtain ⟨h3,h4⟩:=Vl P H m
   exact ⟨fun g a s r h=>h3 g a s r (h1 g a s r h),fun f b t fr s r h=>h4 f b t fr s r (h2 f b t fr s r h)⟩
noncomputable def FY {α:Type} (s:Nat→Option α):Option α:=open Classical in if h:∃n r,s n=some r then some (Classical.choose (Classical.choose_spec h)) else none
theorem YJ {α:Type} {s:Nat→Option α} {r:α} (h:FY s=some r):∃n,s n=some r:=by
 unfold FY at h
 split at h
 ·rename_i hh
  simp only [Option.some.injEq] at h
  exact ⟨Classical.choose hh,by rw [←h];exact Classical.choose_spec (Classical.choose_spec hh)⟩
 ·simp at h
theorem VI {α:Type} {s:Nat→Option α} {r:α} {n:Nat} (hm:∀n m r,n≤m→s n=some r→s m=some r) (h:s n=some r):FY s=some r:=by
 have hh:∃n r,s n=some r:=⟨n,r,h⟩
 unfold FY
 rw [dif_pos hh]
 have h2:=Classical.choose_spec (Classical.choose_spec hh)
 have h3:=hm _ (max n (Classical.choose hh)) _ (by omega) h2
 have h4:=hm _ (max n (Classical.choose hh)) _ (by omega) h
 rw [h4] at h3
 exact h3.symm
noncomputable def qU (g:FuncId) (args:List AV) (st:St):Option (zd×St):=FY fun n=>Ce P H n g args st
noncomputable def qq (f:FuncId) (base:Nat) (t:YR) (fr:Fr) (st:St):Option (AX×Fr×St):=FY fun n=>zbN P H n f base t fr st
variable {P H}
theorem Mr (g:FuncId) (a:List AV) (s:St):Ev (qU P H g a s) fun n=>(levels P H n).1 g a s:=fun r h=>by
 obtain ⟨N,hN⟩:=YJ h
 exact ⟨N,fun n hn=>(jQ P H hn).1 g a s r hN⟩
theorem DE (f:FuncId) (b:Nat) (t:YR) (fr:Fr) (s:St):Ev (qq P H f b t fr s) fun n=>(levels P H n).2 f b t fr s:=fun r h=>by
 obtain ⟨N,hN⟩:=YJ h
 exact ⟨N,fun n hn=>(jQ P H hn).2 f b t fr s r hN⟩
theorem Xc {g:FuncId} {args:List AV} {st:St} {r:zd×St} (h:YU P H (qU P H) (qq P H) g args st=some r):qU P H g args st=some r:=by
 obtain ⟨N,hN⟩:=DN Mr DE g args st r h
 exact VI (n:=N+1) (fun n m r hnm h=>(jQ P H hnm).1 g args st r h) (hN N (Nat.le_refl N))
theorem XM {f:FuncId} {b:Nat} {t:YR} {fr:Fr} {st:St} {r:AX×Fr×St} (h:Xa P H (qU P H) (qq P H f b) f b t fr st=some r):qq P H f b t fr st=some r:=by
 obtain ⟨N,hN⟩:=Eu Mr (DE f b) t fr st r h
 exact VI (n:=N+1) (fun n m r hnm h=>(jQ P H hnm).2 f b t fr st r h) (hN N (Nat.le_refl N))
theorem Dx {g:FuncId} {args:List AV} {st:St} {r:zd×St} (h:qU P H g args st=some r):∃n,Ce P H n g args st=some r:=YJ h
theorem YK {f:FuncId} {b:Nat} {body:Code} {fr:Fr} {st:St} {q:AX×Fr×St} (h:qq P H f b (.round body) fr st=some q):qd P H (qU P H) (qq P H f b) f b (.loop body) fr st=some q:=by
 obtain ⟨N,hN⟩:=YJ h
 have hN2:=(jQ P H (Nat.le_succ N)).2 f b (.round body) fr st q hN
 have hE:∀g a s,Ev ((levels P H N).1 g a s) fun _:Nat=>qU P H g a s:=fun g a s r h=>⟨0,fun _ _=>VI (n:=N) (fun n m r hnm h=>(jQ P H hnm).1 g a s r h) h⟩
 have hG:∀t fr s,Ev ((levels P H N).2 f b t fr s) fun _:Nat=>qq P H f b t fr s:=fun t fr s r h=>⟨0,fun _ _=>VI (n:=N) (fun n m r hnm h=>(jQ P H hnm).2 f b t fr s r h) h⟩
 obtain ⟨M,hM⟩:=jK (E:=fun _=>qU P H) (G:=fun _=>qq P H f b) hE hG (.loop body) fr st q hN2
 exact hM M (Nat.le_refl M)
theorem zw {g:FuncId} {args:List AV} {st:St} {r:zd×St} (h:Hy P H (qU P H) (qq P H) g args st=some r):qU P H g args st=some r :=
 Xc (Cc (fun f base body fr st q h=>YK h) h)
theorem Fk {f:FuncId} {body:Code} {n:Nat} {fr:Fr} {st:St} {e:Fr×St} (hk:H.loopKeep f=false) (h:Zl n (Jj H f body fr) st=some e):Zo H f body n fr st=some e:=by
 have hd:(Jj H f body fr).defers=fr.defers:=by unfold Jj;split<;>rfl
 unfold Zl at h
 unfold Zo Yc
 rw [hk]
 simp only [Bool.false_or]
 split at h
 ·rename_i hl
  rw [if_pos hl]
  exact h
 ·rename_i hl
  rw [if_neg hl]
  rw [hd] at h
  split at h
  ·rename_i hc
   rw [if_pos hc]
   simp only [Option.some.injEq] at h
   subst h
   simp only [map_some,Option.some.injEq,Prod.mk.injEq,and_true]
   unfold Jj
   split
   ·rfl
   ·simp only [List.filter_filter]
    congr 1
    apply List.filter_congr
    intro p _
    exact Bool.and_comm _ _
  ·simp at h
theorem Fa {R:Type} {f:FuncId} {b:Nat} {body:Code} {fr:Fr} {st:St} {k:AX→Fr→St→Option R} {r:R}
  (h:jk P H (qU P H) (qq P H f b) f b body fr st (Ei H (qq P H f b) f body st.length k)=some r):Wi (qq P H f b (.round body) fr st) k=some r:=by
 obtain ⟨q,hq,h2⟩:=jj (fun body fr st q h=>YK h) h
 obtain ⟨ax,fr',st'⟩:=q
 have key:∀{x:AX×Fr×St},(match (generalizing:=false) ax with | .normal=>(Zo H f body st.length fr' st').bind fun e=>qq P H f b (.round body) e.1 e.2 | _=>some (ax,fr',st'))=some x→qq P H f b (.round body) fr st=some x:=by
  intro x hx
  refine XM ?_
  simp only [Xa,qd,hq,bind_some]
  exact hx
 unfold Ei at h2
 cases ax with
 |normal =>
  simp only at h2 key
  split at h2
  ·rename_i hk
   obtain ⟨x,hx,h3⟩:=Qx h2
   have:Zo H f body st.length fr' st'=some (Jj H f body fr',st'):=by
    unfold Zo Yc
    rw [hk];rfl
   rw [this] at key
   simp only [bind_some] at key
   rw [key hx];exact h3
  ·rename_i hk
   obtain ⟨e,he,h3⟩:=bind_eq_some_iff.1 h2
   obtain ⟨x,hx,h4⟩:=Qx h3
   rw [Fk (by simpa using hk) he] at key
   simp only [bind_some] at key
   rw [key hx];exact h4
 |exit i=>rw [key rfl];exact h2
 |goto i=>rw [key rfl];exact h2
 |ret=>rw [key rfl];exact h2
 |panic v=>rw [key rfl];exact h2
theorem Dn {R:Type} {f:FuncId} {b:Nat} {body rest:Code} {fr:Fr} {st:St} {k:AX→Fr→St→Option R} {r:R}
  (h:jk P H (qU P H) (qq P H f b) f b rest fr st (Ls (qq P H f b) body k)=some r):Wi (qq P H f b (.resume body rest) fr st) k=some r:=by
 obtain ⟨q,hq,h2⟩:=jj (fun body fr st q h=>YK h) h
 obtain ⟨ax,fr',st'⟩:=q
 have key:∀{x:AX×Fr×St},(match (generalizing:=false) ax with | .goto l=>(match findLabel body l with | some rest=>qq P H f b (.resume body rest) fr' st' | none=>some (ax,fr',st')) | _=>some (ax,fr',st'))=some x→qq P H f b (.resume body rest) fr st=some x:=by
  intro x hx
  refine XM ?_
  simp only [Xa,hq,bind_some]
  exact hx
 unfold Ls at h2
 cases ax with
 |goto l =>
  simp only at h2 key
  split at h2
  ·rename_i rest' hf
   obtain ⟨x,hx,h3⟩:=Qx h2
   rw [hf] at key
   rw [key hx];exact h3
  ·rename_i hf
   rw [hf] at key
   rw [key rfl];exact h2
 |exit i=>rw [key rfl];exact h2
 |normal=>rw [key rfl];exact h2
 |ret=>rw [key rfl];exact h2
 |panic v=>rw [key rfl];exact h2
end
end Go.Abs
namespace Go.Abs
open Go
inductive Dir where
 |sl | sr | ca | cb | bk | sc
 |lp (n:Nat)
def QH:Code→List Dir→Option Code
 |c,[]=>some c
 | .seq a _,.sl::p=>QH a p
 | .seq _ b,.sr::p=>QH b p
 | .cond _ a _,.ca::p=>QH a p
 | .cond _ _ b,.cb::p=>QH b p
 | .block _ b,.bk::p=>QH b p
 | .loop b,.lp _::p=>QH b p
 | .scope b,.sc::p=>QH b p
 |_,_=>none
section
variable {R:Type} (P:Program) (H:zN) (callF:Zw) (again:jI) (f:FuncId) (base:Nat)
def zbD (b:Code) (k:AX→Fr→St→Option R):AX→Fr→St→Option R:=fun ax fr st=>match ax with | .normal=>jk P H callF again f base b (Jj H f b fr) st k | ax=>k ax fr st
def zaR (id:Nat) (k:AX→Fr→St→Option R):AX→Fr→St→Option R:=fun ax fr st=>match ax with | .exit i=>if i=id then k .normal fr st else k (.exit i) fr st | ax=>k ax fr st
def QM:Code→List Dir→(AX→Fr→St→Option R)→AX→Fr→St→Option R
 | .seq a b,.sl::p,k=>QM a p (zbD P H callF again f base b k)
 | .seq _ b,.sr::p,k=>QM b p k
 | .cond _ a _,.ca::p,k=>QM a p k
 | .cond _ _ b,.cb::p,k=>QM b p k
 | .block id b,.bk::p,k=>QM b p (zaR id k)
 | .loop b,.lp n::p,k=>QM b p (Ei H again f b n k)
 | .scope b,.sc::p,k=>QM b p (Ls again b k)
 |_,_,k=>k
end
section
variable (P:Program) (H:zN)
noncomputable def atW (g:FuncId) (base:Nat) (p:List Dir) (fr:Fr) (st:St):Option (zd×St) :=
 (P.funcs[g]?).bind fun fn=>fn.body.bind fun c=>(QH c p).bind fun d =>
 jk P H (qU P H) (qq P H g base) g base d fr st (QM P H (qU P H) (qq P H g base) g base c p (FR P H (qU P H) (qq P H) g fn base))
noncomputable def atL (g:FuncId) (base:Nat) (p:List Dir) (fr:Fr) (st:St):Option (zd×St) :=
 (P.funcs[g]?).bind fun fn=>fn.body.bind fun c=>(QH c p).bind fun d=>match d with
 | .loop body=>jk P H (qU P H) (qq P H g base) g base body fr st (Ei H (qq P H g base) g body st.length (QM P H (qU P H) (qq P H g base) g base c p (FR P H (qU P H) (qq P H) g fn base)))
 |_=>none
variable {P H}
theorem ql {g:FuncId} {base:Nat} {p:List Dir} {fr:Fr} {st:St} {r:zd×St} (h:atL P H g base p fr st=some r):atW P H g base p fr st=some r:=by
 unfold atL at h
 unfold atW
 obtain ⟨fn,hfn,h2⟩:=bind_eq_some_iff.1 h
 obtain ⟨c,hc,h3⟩:=bind_eq_some_iff.1 h2
 obtain ⟨d,hd,h4⟩:=bind_eq_some_iff.1 h3
 simp only [hfn,hc,hd,bind_some]
 split at h4
 ·exact Fa h4
 ·simp at h4
noncomputable def atG (g:FuncId) (base:Nat) (p:List Dir) (l:Nat) (fr:Fr) (st:St):Option (zd×St) :=
 (P.funcs[g]?).bind fun fn=>fn.body.bind fun c=>(QH c p).bind fun d=>match d with
 | .scope body=>(findLabel body l).bind fun rest=>Wi (qq P H g base (.resume body rest) fr st) (QM P H (qU P H) (qq P H g base) g base c p (FR P H (qU P H) (qq P H) g fn base))
 |_=>none
noncomputable def atH (g:FuncId) (base:Nat) (p:List Dir) (l:Nat) (fr:Fr) (st:St):Option (zd×St) :=
 (P.funcs[g]?).bind fun fn=>fn.body.bind fun c=>(QH c p).bind fun d=>match d with
 | .scope body=>(findLabel body l).bind fun rest=>jk P H (qU P H) (qq P H g base) g base rest fr st (Ls (qq P H g base) body (QM P H (qU P H) (qq P H g base) g base c p (FR P H (qU P H) (qq P H) g fn base)))
 |_=>none
theorem zar {g:FuncId} {base:Nat} {p:List Dir} {l:Nat} {fr:Fr} {st:St} {r:zd×St} (h:atH (P:=P) (H:=H) g base p l fr st=some r):atG (P:=P) (H:=H) g base p l fr st=some r:=by
 unfold atH at h
 unfold atG
 obtain ⟨fn,hfn,h2⟩:=bind_eq_some_iff.1 h
 obtain ⟨c,hc,h3⟩:=bind_eq_some_iff.1 h2
 obtain ⟨d,hd,h4⟩:=bind_eq_some_iff.1 h3
 simp only [hfn,hc,hd,bind_some]
 split at h4
 ·obtain ⟨rest,hr,h5⟩:=bind_eq_some_iff.1 h4
  simp only [hr,bind_some]
  exact Dn h5
 ·simp at h4
end
end Go.Abs
namespace Go.Abs
open Go
def Ef:Op→Bool
 | .call {callee:=.builtin .recover,..}=>true
 |_=>false
section run
variable {R:Type} (P:Program) (H:zN) (callF:Zw) (again:jI) (f:FuncId) (base:Nat)
def JR (ops:Array Oper):List Oper→Env→Fr→St→zo→(AX→Fr→St→zo→Option R)→Option R
 |[],_,fr,st,m,k=>k .normal fr st m
 |o::rest,loc,fr,st,m,k =>
  Uh ops loc fr o
   (fun loc fr=>if Ef o.op then
     (match m with
     | .pan v=>Jd H f o.dst v loc fr fun loc fr=>JR ops rest loc fr st (.recd v) k
     |m=>Jd H f o.dst .nili loc fr fun loc fr=>JR ops rest loc fr st m k)
    else Mp P H callF f base (evO H loc fr.env) st o.dst
     (fun v st=>Na P o.type v fun v=>Vb H f o.dst v st loc fr fun loc fr st=>JR ops rest loc fr st m k)
     (fun st=>Jd H f o.dst qm loc fr fun loc fr=>JR ops rest loc fr st m k)
     (fun g xa0 st=>Jd H f o.dst qm loc fr fun loc fr=>JR ops rest loc {fr with defers:=(g,xa0)::fr.defers} st m k)
     (fun v st=>k (.panic v) fr st m) o)
   (fun loc fr=>Jd H f o.dst qm loc fr fun loc fr=>JR ops rest loc fr st m k)
def Qw:Code→Fr→St→zo→(AX→Fr→St→zo→Option R)→Option R
 | .region id ops draw,fr,st,m,k=>if draw then VJ P H callF f base id ops draw fr st (fun ax fr st=>k ax fr st m) else JR P H callF f base ops ops.toList [] fr st m k
 | .seq a b,fr,st,m,k=>Qw a fr st m fun ax fr st m=>match ax with | .normal=>Qw b fr st m k | ax=>k ax fr st m
 | .cond c a b,fr,st,m,k=>(evO H [] fr.env c).bind fun v=>match c with
  | .tmp t=>Vf v (fun v=>Qw a {fr with env:=Yy fr.env t v} st m k) (fun v=>Qw b {fr with env:=Yy fr.env t v} st m k)
  |_=>Vf v (fun _=>Qw a fr st m k) (fun _=>Qw b fr st m k)
 |c,fr,st,m,k=>jk P H callF again f base c fr st (fun ax fr st=>k ax fr st m)
end run
def zbq (x:Option (zd×St)) (m:zo):Option (zd×St×zo):=x.map fun o=>(o.1,o.2,m)
section call
variable (P:Program) (H:zN) (callF:Zw) (again:FuncId→Nat→jI)
def DQ (g:FuncId) (fn:Func) (base:Nat):AX→Fr→St→zo→Option (zd×St×zo):=fun ax fr st m =>
 if fr.defers.isEmpty then
  match ax with
  | .normal | .ret=>(qF P fr.env st fn.results.toList).bind fun vs=>zbq (ze (H.keepObj g) base (.ret (qG vs)) st) m
  | .panic v=>zbq (ze (H.keepObj g) base (.pan v) st) m
  |_=>none
 else none
def NE (g:FuncId) (args:List AV) (st:St) (m:zo):Option (zd×St×zo) :=
 (P.funcs[g]?).bind fun fn=>fn.body.bind fun c =>
 if args.length≤fn.params.size+fn.nfree then
  if H.recov g then Qw P H callF (again g st.length) g st.length c ⟨YY args,[]⟩ (ZH (H.homes g) st) m (DQ P H g fn st.length)
  else jk P H callF (again g st.length) g st.length c ⟨YY args,[]⟩ (ZH (H.homes g) st) fun ax fr st'=>DQ P H g fn st.length ax fr st' m
 else none
end call
section
variable {R:Type} {P:Program} {H:zN} {callF:Zw} {again:jI} {f:FuncId} {base:Nat} {r:R}
theorem Qe {ops:Array Oper} {k:AX→Fr→St→zo→Option R}:∀{l:List Oper} {loc:Env} {fr:Fr} {st:St} {m:zo},JR P H callF f base ops l loc fr st m k=some r→∃q,WI P H callF f base ops l loc fr st m=some q∧k q.1 q.2.1 q.2.2.1 q.2.2.2=some r
 |[],loc,fr,st,m,h=>⟨(.normal,fr,st,m),rfl,h⟩
 |o::rest,loc,fr,st,m,h=>by
  simp only [JR] at h
  obtain ⟨b,hb,h2⟩:=Yr h
  simp only [WI,hb,bind_some]
  cases b with
  |false =>
   simp only [Bool.false_eq_true,if_false] at h2 ⊢
   exact Qe (qJ h2)
  |true =>
   simp only [if_true] at h2 ⊢
   split
   ·rename_i hop
    have hr:Ef o.op=true:=by rw [hop];rfl
    rw [if_pos hr] at h2
    cases m with
    |pan v=>exact Qe (qJ h2)
    |ret=>exact Qe (qJ h2)
    |recd v=>exact Qe (qJ h2)
   ·rename_i hop
    have hr:¬Ef o.op=true:=by
     intro hr
     unfold Ef at hr
     split at hr
     ·rename_i hq;simp [hq] at hop
     ·cases hr
    rw [if_neg hr] at h2
    obtain ⟨q,hq,h3⟩:=UM h2
    simp only [ZB,hq,bind_some]
    obtain ⟨res,s⟩:=q
    cases res with
    |pan v=>exact ⟨_,rfl,h3⟩
    |val v =>
     obtain ⟨l,hl,h4⟩:=Xn (WP (show Na P o.type v (fun v=>Vb H f o.dst v s loc fr (fun loc fr st=>JR P H callF f base ops rest loc fr st m k))=some r from h3))
     simp only [hl,bind_some]
     exact Qe h4
    |skip =>
     have h4:=qJ (show Jd H f o.dst qm loc fr (fun loc fr=>JR P H callF f base ops rest loc fr s m k)=some r from h3)
     simp only [jc,bind_some]
     exact Qe h4
    |defer g xa0 =>
     have h4:=qJ (show Jd H f o.dst qm loc fr (fun loc fr=>JR P H callF f base ops rest loc {fr with defers:=(g,xa0)::fr.defers} s m k)=some r from h3)
     simp only [jc,bind_some]
     exact Qe h4
theorem FI (hA:∀body fr st q,again (.round body) fr st=some q→qd P H callF again f base (.loop body) fr st=some q):∀{c:Code} {fr:Fr} {st:St} {m:zo} {k:AX→Fr→St→zo→Option R},
  Qw P H callF again f base c fr st m k=some r→∃q,Zz P H callF again f base c fr st m=some q∧k q.1 q.2.1 q.2.2.1 q.2.2.2=some r:=by
 intro c
 have plain:∀{c:Code} {fr:Fr} {st:St} {m:zo} {k:AX→Fr→St→zo→Option R},jk P H callF again f base c fr st (fun ax fr st=>k ax fr st m)=some r →
   ∃q,((qd P H callF again f base c fr st).map fun r=>(r.1,r.2.1,r.2.2,m))=some q∧k q.1 q.2.1 q.2.2.1 q.2.2.2=some r:=by
  intro c fr st m k h
  obtain ⟨q,hq,h2⟩:=jj hA h
  exact ⟨_,by rw [hq];rfl,h2⟩
 induction c with
 |region id ops draw =>
  intro fr st m k h
  simp only [Qw] at h
  simp only [Zz]
  split at h
  ·rename_i hd
   rw [if_pos hd]
   obtain ⟨q,hq,h2⟩:=UZ h
   exact ⟨_,by rw [hq];rfl,h2⟩
  ·rename_i hd
   rw [if_neg hd]
   exact Qe h
 |seq a b iha ihb =>
  intro fr st m k h
  simp only [Qw] at h
  obtain ⟨q,hq,h2⟩:=iha h
  simp only [Zz,hq,bind_some]
  obtain ⟨ax,fr',st',m'⟩:=q
  cases ax with
  |normal=>exact ihb h2
  |_=>exact ⟨_,rfl,h2⟩
 |cond c a b iha ihb =>
  intro fr st m k h
  simp only [Qw] at h
  obtain ⟨v,hv,h2⟩:=bind_eq_some_iff.1 h
  simp only [Zz,hv,bind_some]
  have key:∀{x y:AV→Option R},Vf v x y=some r→∃t,v = .bool t∧(if t then x v else y v)=some r:=by
   intro x y hxy
   unfold Vf at hxy
   split at hxy
   ·rename_i t;cases t<;>exact ⟨_,rfl,hxy⟩
   ·simp at hxy
  split at h2
  ·rename_i t
   obtain ⟨b,rfl,h3⟩:=key h2
   have hg:Env.get fr.env t=some (.bool b):=by simpa [evO,look,Env.get] using hv
   rw [Qz hg] at h3
   cases b with
   |true=>exact iha h3
   |false=>exact ihb h3
  ·obtain ⟨b,rfl,h3⟩:=key h2
   cases b with
   |true=>exact iha h3
   |false=>exact ihb h3
 |_=>intro fr st m k h;exact plain h
end
section
variable {P:Program} {H:zN} {callF:Zw} {again:FuncId→Nat→jI}
theorem Mx {g:FuncId} {fn:Func} {base:Nat} {q:AX×Fr×St×zo} {r:zd×St×zo} (h:DQ P H g fn base q.1 q.2.1 q.2.2.1 q.2.2.2=some r) :
  (if q.2.1.defers.isEmpty then
  (match q.1 with
   | .normal | .ret=>(qF P q.2.1.env q.2.2.1 fn.results.toList).map fun vs=>zd.ret (match vs with | [v]=>v | vs=>.tup vs)
   | .panic v=>some (zd.pan v)
   |_=>none).bind fun o=>(Cn H g base o q.2.2.1).map fun (x:zd×St)=>(x.1,x.2,q.2.2.2)
 else none)=some r:=by
 unfold DQ at h
 obtain ⟨ax,fr,st,m⟩:=q
 simp only at h ⊢
 split at h
 ·rename_i hd
  rw [if_pos hd]
  cases ax with
  |normal =>
   obtain ⟨vs,hvs,h2⟩:=bind_eq_some_iff.1 h
   simp only [hvs,map_some,bind_some]
   exact h2
  |ret =>
   obtain ⟨vs,hvs,h2⟩:=bind_eq_some_iff.1 h
   simp only [hvs,map_some,bind_some]
   exact h2
  |panic v=>exact h
  |exit i=>simp at h
  |goto i=>simp at h
 ·simp at h
theorem Bc (hA:∀f base body fr st q,again f base (.round body) fr st=some q→qd P H callF (again f base) f base (.loop body) fr st=some q) {g:FuncId} {args:List AV} {st:St} {m:zo} {r:zd×St×zo}
  (h:NE P H callF again g args st m=some r):zY P H callF again g args st m=some r:=by
 unfold NE at h
 unfold zY
 obtain ⟨fn,hfn,h2⟩:=bind_eq_some_iff.1 h
 obtain ⟨c,hc,h3⟩:=bind_eq_some_iff.1 h2
 simp only [hfn,hc,bind_some]
 split at h3
 ·rename_i hl
  rw [if_pos hl]
  split at h3
  ·rename_i hr
   rw [if_pos hr]
   obtain ⟨q,hq,h4⟩:=FI (hA g st.length) h3
   rw [hq]
   exact Mx h4
  ·rename_i hr
   rw [if_neg hr]
   obtain ⟨q,hq,h4⟩:=jj (hA g st.length) h3
   rw [hq]
   exact Mx (q:=(q.1,q.2.1,q.2.2,m)) h4
 ·simp at h3
theorem Wt {g:FuncId} {args:List AV} {st:St} {m:zo} {r:zd×St×zo} (h:NE P H (qU P H) (qq P H) g args st m=some r):zY P H (qU P H) (qq P H) g args st m=some r :=
 Bc (fun f base body fr st q h=>YK h) h
theorem WJ {callD:FuncId→List AV→St→zo→Option (zd×St×zo)} {fn:Func} {env:Env} {g:FuncId} {xa0:List AV} {m m':zo} {st st':St} {v:AV} (h:callD g xa0 st m=some (.ret v,st',m')) :
  zW P callD fn env [(g,xa0)] m st=zW P callD fn env [] (VK m') st':=by
 simp only [zW,h,bind_some]
theorem Kt {callD:FuncId→List AV→St→zo→Option (zd×St×zo)} {fn:Func} {env:Env} {st:St} {vs:List AV} (h:qF P env st fn.results.toList=some vs) :
  zW P callD fn env [] .ret st=some (.ret (qG vs),st):=by
 simp only [zW,h,map_some];rfl
end
end Go.Abs
namespace Go.Abs
open Go
section
variable {R:Type} {kv kp:AV→St→Option R} {v:AV} {s st:St}
@[simp] theorem zi:zg (some (.ret v,s)) kv kp=kv v s:=rfl
@[simp] theorem zF:zg (some (.pan v,s)) kv kp=kp v s:=rfl
@[simp] theorem qc:zX (some (v,s)) kv=kv v s:=rfl
@[simp] theorem zp (b:Bool):zB (.bool b)=some b:=rfl
@[simp] theorem zk (k:IntKind) (n:Int):zm k (.int k n)=some n:=by simp [zm]
@[simp] theorem zr (s:List UInt8):zA (.str s)=some s:=rfl
@[simp] theorem zT (i:Nat) (vs:List AV):zK i (.tup vs)=vs[i]?:=rfl
@[simp] theorem zaW (k:IntKind) (n:Int):cell1 (.int k n)=some (.int k n):=rfl
@[simp] theorem zaV (x:List UInt8):cell1 (.str x)=some (.str x):=rfl
@[simp] theorem zao (x:Bool):cell1 (.bool x)=some (.bool x):=rfl
@[simp] theorem GH (x:AV):zf st (.ip [x] 0) 1 false=some x:=rfl
@[simp] theorem zO (k:IntKind) (n:Nat):zJ (.int k (n:Int))=some n:=by simp [zJ]
theorem HM {k:IntKind} {n:Int} (h:0≤n):zJ (.int k n)=some n.toNat:=by simp [zJ,h]
@[simp] theorem zx (ko:Bool) (r:zd):ze ko st.length r st=some (r,st):=by simp [ze]
@[simp] theorem zaT (n:Nat) (r:zd):ze true n r st=some (r,st):=by simp [ze]
end
mutual
theorem AV.closed_mono {n m:Nat} (h:n≤m) (a:AV) (ha:AV.closed n a=true):AV.closed m a=true:=by
 cases a<;>simp only [AV.closed,Bool.and_eq_true,decide_eq_true_eq] at ha ⊢
 all_goals first
  |exact AV.closeds_mono h _ ha
  |exact AV.closedss_mono h _ ha
  |exact AV.closed_mono h _ ha
  |(refine ⟨AV.closedss_mono h _ ha.1,?_⟩;rename_i tok;have h2:=ha.2;cases tok<;>simp_all<;>omega)
  |omega
  |skip
termination_by structural a
theorem AV.closeds_mono {n m:Nat} (h:n≤m) (a:List AV) (ha:AV.closeds n a=true):AV.closeds m a=true:=by
 cases a with
 |nil=>rfl
 |cons x r =>
  simp only [AV.closeds,Bool.and_eq_true] at ha ⊢
  exact ⟨AV.closed_mono h _ ha.1,AV.closeds_mono h _ ha.2⟩
termination_by structural a
theorem AV.closedss_mono {n m:Nat} (h:n≤m) (a:List (List AV)) (ha:AV.closedss n a=true):AV.closedss m a=true:=by
 cases a with
 |nil=>rfl
 |cons x r =>
  simp only [AV.closedss,Bool.and_eq_true] at ha ⊢
  exact ⟨AV.closeds_mono h _ ha.1,AV.closedss_mono h _ ha.2⟩
termination_by structural a
end
theorem zh.closed_mono {n m:Nat} (h:n≤m) {x:zh} (hx:zh.closed n x=true):zh.closed m x=true:=by
 cases x with
 |box ty row=>exact AV.closeds_mono h _ hx
 |rows a b rs=>exact AV.closedss_mono h _ hx
 |amap es =>
  simp only [zh.closed,List.all_eq_true,Bool.and_eq_true] at hx ⊢
  exact fun p hp=>⟨AV.closed_mono h _ (hx p hp).1,AV.closed_mono h _ (hx p hp).2⟩
 |_=>rfl
def Cl (st:St):Prop:=St.closed st.length st=true
theorem Cl.nil:Cl []:=rfl
theorem closed_mono {n m:Nat} (h:n≤m) {st:St} (hs:St.closed n st=true):St.closed m st=true:=List.all_eq_true.2 fun x hx=>zh.closed_mono h (List.all_eq_true.1 hs x hx)
theorem Cl.cons {x:zh} {st:St} (h:Cl st) (hx:zh.closed (st.length+1) x=true):Cl (x::st):=by
 unfold Cl St.closed
 simp only [List.length_cons,List.all_cons,Bool.and_eq_true]
 exact ⟨hx,closed_mono (by omega) h⟩
theorem Cl.free {e:Nat} {st:St} (h:Cl st):Cl (.free e::st):=h.cons rfl
@[simp] theorem St.trunc_cons (x:zh) (st:St):St.trunc (x::st) st.length=st:=by unfold St.trunc;simp
@[simp] theorem St.trunc_cons2 (x y:zh) (st:St):St.trunc (x::y::st) st.length=st:=by
 unfold St.trunc;rw [show (x::y::st).length - st.length=2 by simp only [List.length_cons];omega];rfl
@[simp] theorem St.trunc_self (st:St):St.trunc st st.length=st:=by unfold St.trunc;simp
@[simp] theorem St.get_top (x:zh) (st:St):St.get (x::st) st.length=some x:=by rw [St.get_cons,if_pos rfl]
theorem St.get_under {x:zh} {st:St} {o:Nat} (h:o≠st.length):St.get (x::st) o=St.get st o:=by rw [St.get_cons,if_neg h]
theorem St.put_same {st:St} {t:Nat} {x:zh} (h:st.get t=some x):st.put t x=st:=by
 have ht:=St.get_lt h
 unfold St.put St.get at *
 rw [if_pos ht] at h ⊢
 apply List.ext_getElem?
 intro i
 by_cases e:i=st.length - 1 - t
 ·subst e;rw [List.getElem?_set_self (by omega),h]
 ·rw [List.getElem?_set_ne (fun x=>e x.symm)]
theorem St.put_put (st:St) (t:Nat) (x y:zh):(st.put t x).put t y=st.put t y:=by
 unfold St.put
 by_cases h:t<st.length
 ·simp [h]
 ·simp [h]
theorem St.trunc_put {st:St} {t n:Nat} {x:zh} (h:n≤t):(st.put t x).trunc n=st.trunc n:=by
 unfold St.put
 split
 ·rename_i ht
  unfold St.trunc
  rw [List.length_set,List.drop_set_of_lt (by omega)]
 ·rfl
def Sl (kd:Nat) (a:AV) (c:List (List AV)):Prop :=
 (a = .nils∧c=[])∨∃rows off tok,a = .sl kd rows off c.length tok∧off+c.length≤rows.length∧(rows.drop off).take c.length=c
theorem Sl.nil {kd:Nat}:Sl kd .nils []:=.inl ⟨rfl,rfl⟩
theorem Sl.mk {kd:Nat} {c:List (List AV)} {tok:Tok}:Sl kd (.sl kd c 0 c.length tok) c:=.inr ⟨c,0,tok,rfl,by omega,by simp⟩
variable {kd:Nat} {a:AV} {c:List (List AV)} {st:St}
theorem Sl.len (h:Sl kd a c):zL a=some (.int .i64 c.length):=by
 rcases h with ⟨rfl,rfl⟩ | ⟨rows,off,tok,rfl,h1,h2⟩<;>rfl
theorem Sl.rows (h:Sl kd a c):rowsOf st kd a=some c:=by
 rcases h with ⟨rfl,rfl⟩ | ⟨rows,off,tok,rfl,h1,h2⟩
 ·rfl
 ·simp [rowsOf,h2]
theorem Sl.at (h:Sl kd a c) {j:Nat} {r:List AV} (hj:c[j]?=some r):zt st kd a j=some (.ip r 0):=by
 have hl:=(List.getElem?_eq_some_iff.1 hj).1
 rcases h with ⟨rfl,rfl⟩ | ⟨rows,off,tok,rfl,h1,h2⟩
 ·simp at hl
 ·have:rows[off+j]?=some r:=by
   rw [←h2,List.getElem?_take_of_lt hl,List.getElem?_drop] at hj
   exact hj
  simp [zt,hl,this]
theorem Sl.cut (h:Sl kd a c) {lo hi:Option AV} {l k:Nat} (hlo:jd lo 0=some l) (hhi:jd hi c.length=some k) (h1:l≤k) (h2:k≤c.length) :
  ∃a',je st kd a lo hi none=some a'∧Sl kd a' ((c.take k).drop l):=by
 rcases h with ⟨rfl,rfl⟩ | ⟨rows,off,tok,rfl,h3,h4⟩
 ·simp only [List.length_nil,Nat.le_zero_eq] at h2
  subst h2
  have:l=0:=by omega
  subst this
  refine ⟨.nils,?_,by simpa using Sl.nil⟩
  simp only [je,List.length_nil] at hhi ⊢
  rw [hhi,hlo]
  simp [jd]
 ·have e:((c.take k).drop l).length=k - l:=by simp;omega
  refine ⟨.sl kd rows (off+l) (k - l) tok,?_,.inr ⟨rows,off+l,tok,by rw [e],by rw [e];omega,?_⟩⟩
  ·simp only [je,hhi,hlo,bind_some,true_and]
   rw [if_pos h1,if_pos (by omega)]
  ·rw [e,←h4,List.take_take,Nat.min_eq_left h2,List.drop_take,List.drop_drop]
theorem Sl.frz (h:Sl kd a c):qN st a=some (a,st):=by
 rcases h with ⟨rfl,rfl⟩ | ⟨rows,off,tok,rfl,h1,h2⟩<;>rfl
def Acc (kd t:Nat) (st:St) (v:AV) (c:List (List AV)):Prop :=
 (v = .nils∧c=[]∧∃e,st.get t=some (.free e))∨(∃ep,v = .sl kd c 0 c.length (.spare t ep)∧st.get t=some (.spare ep c.length))∨(v = .sl kd c 0 c.length .exact∧∃e,st.get t=some (.free e))
variable {t bytes:Nat} {v x:AV} {new:List (List AV)}
theorem Acc.sl (h:Acc kd t st v c):Sl kd v c:=by
 rcases h with ⟨rfl,rfl,_⟩ | ⟨ep,rfl,_⟩ | ⟨rfl,_⟩
 ·exact .nil
 ·exact .mk
 ·exact .mk
theorem Acc.app (h:Acc kd t st v c) (hx:rowsOf st kd x=some new) (h1:(c.length+new.length)*bytes≤qe) (h2:c.length+new.length≤qe) :
  ∃v' y,zR st (some (t,false)) bytes kd v x=some (v',st.put t y)∧Acc kd t (st.put t y) v' (c++new):=by
 unfold zR
 rw [hx]
 simp only [bind_some]
 rcases h with ⟨rfl,rfl,e,he⟩ | ⟨ep,rfl,he⟩ | ⟨rfl,e,he⟩
 ·have ht:=St.get_lt he
  simp only [List.length_nil,Nat.zero_add] at h1 h2
  by_cases hn:new.length=0
  ·have:new=[]:=List.eq_nil_of_length_eq_zero hn
   subst this
   exact ⟨.nils,.free e,by simp [St.put_same he],.inl ⟨rfl,rfl,e,by rw [St.put_same he];exact he⟩⟩
  ·refine ⟨.sl kd new 0 new.length (.spare t (e+1)),.spare (e+1) new.length,?_,.inr (.inl ⟨e+1,rfl,by rw [St.get_put_same ht];rfl⟩)⟩
   simp only [if_neg hn]
   rw [if_pos ⟨h1,h2⟩]
   simp [jm,he]
 ·have ht:=St.get_lt he
  dsimp only
  rw [if_pos (show kd=kd∧0+c.length=c.length∧(c.length+new.length)*bytes≤qe∧c.length+new.length≤qe from ⟨rfl,by omega,h1,h2⟩)]
  simp only [he,if_true,and_self]
  by_cases hn:new.length=0
  ·have:new=[]:=List.eq_nil_of_length_eq_zero hn
   subst this
   exact ⟨.sl kd c 0 c.length (.spare t ep),.spare ep c.length,by simp [St.put_same he],.inr (.inl ⟨ep,by simp,by rw [St.put_same he];simpa using he⟩)⟩
  ·refine ⟨.sl kd (c++new) 0 (c.length+new.length) (.spare t ep),.spare ep (c.length+new.length),by simp [hn],.inr (.inl ⟨ep,by simp,by rw [St.get_put_same ht];simp⟩)⟩
 ·have ht:=St.get_lt he
  dsimp only
  rw [if_pos (show kd=kd∧0+c.length=c.length∧(c.length+new.length)*bytes≤qe∧c.length+new.length≤qe from ⟨rfl,by omega,h1,h2⟩)]
  by_cases hn:new.length=0
  ·have:new=[]:=List.eq_nil_of_length_eq_zero hn
   subst this
   exact ⟨.sl kd c 0 c.length .exact,.free e,by simp [St.put_same he],.inr (.inr ⟨by simp,e,by rw [St.put_same he];exact he⟩)⟩
  ·refine ⟨.sl kd (c++new) 0 (c.length+new.length) (.spare t (e+1)),.spare (e+1) (c.length+new.length),?_,.inr (.inl ⟨e+1,by simp,by rw [St.get_put_same ht];simp⟩)⟩
   simp only [if_neg hn,List.drop_zero]
   simp [jm,he]
theorem Acc.out {n:Nat} (h:Acc kd t st v c) (hn:n≤t) (hc:AV.closedss n c=true) (hs:St.closed n (st.trunc n)=true) :
  ∃v',ze false n (.ret v) st=some (.ret v',st.trunc n)∧Sl kd v' c∧AV.closed n v'=true:=by
 have ht:t<st.length:=by
  rcases h with ⟨_,_,e,he⟩ | ⟨ep,_,he⟩ | ⟨_,e,he⟩<;>exact St.get_lt he
 have hne:(st.length==n)=false:=by simp;omega
 rcases h with ⟨rfl,rfl,e,he⟩ | ⟨ep,rfl,he⟩ | ⟨rfl,e,he⟩
 ·exact ⟨.nils,by simp [ze,hne,AV.stripR,AV.stripN,AV.closed,hs],.nil,rfl⟩
 ·refine ⟨.sl kd c 0 c.length .no,?_,.mk,by simp [AV.closed,hc]⟩
  have hs2:AV.stripR n (.sl kd c 0 c.length (.spare t ep)) = .sl kd c 0 c.length .no:=by
   simp only [AV.stripR,AV.stripN];rw [if_neg (by omega)]
  simp only [ze,hne,Bool.or_self,Bool.false_eq_true,if_false,hs2]
  simp [AV.closed,hc,hs]
 ·refine ⟨.sl kd c 0 c.length .exact,?_,.mk,by simp [AV.closed,hc]⟩
  simp [ze,hne,AV.stripR,AV.stripN,AV.closed,hc,hs]
theorem QO {n:Nat} {v:AV} {st:St} (h1:AV.stripR n v=v) (h2:AV.closed n v=true) (hs:St.closed n (st.trunc n)=true) (hl:n≤st.length):ze false n (.ret v) st=some (.ret v,st.trunc n):=by
 unfold ze
 by_cases hne:st.length=n
 ·subst hne;simp
 ·have:(st.length==n)=false:=by simpa using hne
  simp [this,h1,h2,hs]
end Go.Abs
namespace Go.Abs
open Go
structure Rd (st:St) (kd:Nat) (v:AV) (c:List (List AV)):Prop where
 len:zL v=some (.int .i64 c.length)
 rows:rowsOf st kd v=some c
 at':∀(j:Nat) r,c[j]?=some r→∃p,zt st kd v j=some p∧∀n ag,zf st p n ag=zj r 0 n ag
def Mu (st:St) (kd:Nat) (v:AV) (o:Nat) (c:List (List AV)):Prop:=∃ep,v = .ms o ep 0 c.length c.length∧st.get o=some (.rows kd ep c)
def MuN (st:St) (kd:Nat) (v:AV) (o:Nat) (c:List (List AV)):Prop:=(v = .nils∧c=[]∧∃e,st.get o=some (.free e))∨Mu st kd v o c
variable {kd:Nat} {a v x:AV} {c new:List (List AV)} {st st':St} {o bytes:Nat}
theorem Sl.rd (h:Sl kd a c):Rd st kd a c:=⟨h.len,h.rows,fun j r hj=>⟨_,h.at hj,fun n ag=>rfl⟩⟩
theorem Mu.rd (h:Mu st kd v o c):Rd st kd v c:=by
 obtain ⟨ep,rfl,hg⟩:=h
 refine ⟨rfl,?_,fun j r hj=>?_⟩
 ·simp [rowsOf,hg]
 ·have hl:=(List.getElem?_eq_some_iff.1 hj).1
  refine ⟨.ptr o ep (0+j) 0,?_,fun n ag=>?_⟩
  ·simp [zt,LA,hg,hl]
  ·simp [zf,hg,hj]
theorem MuN.rd (h:MuN st kd v o c):Rd st kd v c:=by
 rcases h with ⟨rfl,rfl,_⟩ | h
 ·exact Sl.rd .nil
 ·exact h.rd
theorem Mu.same (h:Mu st kd v o c) (hg:st'.get o=st.get o):Mu st' kd v o c:=by
 obtain ⟨ep,rfl,h2⟩:=h
 exact ⟨ep,rfl,by rw [hg];exact h2⟩
theorem MuN.same (h:MuN st kd v o c) (hg:st'.get o=st.get o):MuN st' kd v o c:=by
 rcases h with ⟨h1,h2,e,h3⟩ | h
 ·exact .inl ⟨h1,h2,e,by rw [hg];exact h3⟩
 ·exact .inr (h.same hg)
theorem MuN.lt (h:MuN st kd v o c):o<st.length:=by
 rcases h with ⟨_,_,e,h⟩ | ⟨ep,_,h⟩<;>exact St.get_lt h
theorem MuN.app (h:MuN st kd v o c) (hx:rowsOf st kd x=some new) (h1:(c.length+new.length)*bytes≤qe) (h2:c.length+new.length≤qe) :
  ∃v' y,zR st (some (o,true)) bytes kd v x=some (v',st.put o y)∧MuN (st.put o y) kd v' o (c++new)∧((∃e,y = .free e)∨∃ep,y = .rows kd ep (c++new)):=by
 have ho:=h.lt
 unfold zR
 rw [hx]
 simp only [bind_some]
 rcases h with ⟨rfl,rfl,e,he⟩ | ⟨ep,rfl,he⟩
 ·simp only [List.length_nil,Nat.zero_add] at h1 h2
  by_cases hn:new.length=0
  ·have:new=[]:=List.eq_nil_of_length_eq_zero hn
   subst this
   exact ⟨.nils,.free e,by simp [St.put_same he],.inl ⟨rfl,rfl,e,by rw [St.put_same he];exact he⟩,.inl ⟨e,rfl⟩⟩
  ·refine ⟨.ms o (e+1) 0 new.length new.length,.rows kd (e+1) new,?_,.inr ⟨e+1,rfl,by rw [St.get_put_same ho];rfl⟩,.inr ⟨e+1,rfl⟩⟩
   simp only [if_neg hn]
   rw [if_pos ⟨h1,h2⟩]
   simp [jm,he]
 ·dsimp only
  rw [he]
  dsimp only
  rw [if_pos (show kd=kd∧ep=ep∧(c.length+new.length)*bytes≤qe∧c.length+new.length≤qe∧0+c.length≤c.length∧c.length≤c.length from ⟨rfl,rfl,h1,h2,by omega,by omega⟩)]
  by_cases hn:new.length=0
  ·have:new=[]:=List.eq_nil_of_length_eq_zero hn
   subst this
   refine ⟨.ms o ep 0 c.length c.length,.rows kd ep c,by simp,.inr ⟨ep,by simp,by rw [St.get_put_same ho];simp⟩,.inr ⟨ep,by simp⟩⟩
  ·rw [if_neg (by omega)]
   refine ⟨.ms o (ep+1) 0 (c++new).length (c++new).length,.rows kd (ep+1) (c++new),by simp,.inr ⟨ep+1,rfl,by rw [St.get_put_same ho]⟩,.inr ⟨ep+1,rfl⟩⟩
def Ext (st st':St):Prop:=∀o x,st.get o=some x→st'.get o=some x
theorem Ext.refl (st:St):Ext st st:=fun _ _ h=>h
theorem Ext.trans {s1 s2 s3:St} (h:Ext s1 s2) (h':Ext s2 s3):Ext s1 s3:=fun o x hx=>h' o x (h o x hx)
theorem Ext.cons (x:zh) (st:St):Ext st (x::st):=fun o y h=>by
 have:=St.get_lt h
 rw [St.get_under (by omega)];exact h
theorem Mu.ext (h:Mu st kd v o c) (he:Ext st st'):Mu st' kd v o c:=by
 obtain ⟨ep,rfl,h2⟩:=h
 exact ⟨ep,rfl,he _ _ h2⟩
theorem MuN.ext (h:MuN st kd v o c) (he:Ext st st'):MuN st' kd v o c:=by
 rcases h with ⟨h1,h2,e,h3⟩ | h
 ·exact .inl ⟨h1,h2,e,he _ _ h3⟩
 ·exact .inr (h.ext he)
theorem Sl.cell1 (h:Sl kd a c):cell1 a=some a:=by
 rcases h with ⟨rfl,rfl⟩ | ⟨rows,off,tok,rfl,h1,h2⟩<;>rfl
theorem MuN.cell1 (h:MuN st kd v o c):Go.Abs.cell1 v=some v:=by
 rcases h with ⟨rfl,rfl,_⟩ | ⟨ep,rfl,_⟩<;>rfl
section
variable {R:Type} {j:Nat} {r:List AV} {k:IntKind}
theorem Rd.cell (h:Rd st kd a c) {y:AV} (hj:c[j]?=some r) (hr:r[0]?=some y) (K:AV→Option R) :
  ((zJ (.int k (j:Int))).bind fun j=>(zt st kd a j).bind fun v=>(zf st v 1 false).bind K)=K y:=by
 obtain ⟨p,h1,h2⟩:=h.at' j r hj
 rw [zO,bind_some,h1,bind_some,h2]
 simp [zj,hr]
theorem Rd.int (h:Rd st kd a c) {n:Int} {k':IntKind} (hj:c[j]?=some r) (hr:r[0]?=some (.int k' n)) (K:Int→Option R) :
  ((zJ (.int k (j:Int))).bind fun j=>(zt st kd a j).bind fun v=>(zf st v 1 false).bind fun v=>(zm k' v).bind K)=K n:=by
 rw [h.cell hj hr];simp
theorem Rd.agg (h:Rd st kd a c) (hj:c[j]?=some r) {n:Nat} (hn:r.length=n) (K:AV→Option R) :
  ((zJ (.int k (j:Int))).bind fun j=>(zt st kd a j).bind fun v=>(zf st v n true).bind K)=K (.agg r):=by
 obtain ⟨p,h1,h2⟩:=h.at' j r hj
 rw [zO,bind_some,h1,bind_some,h2]
 subst hn
 simp [zj]
theorem Rd.lenI (h:Rd st kd a c) (K:Int→Option R):((zL a).bind fun v=>(zm .i64 v).bind K)=K c.length:=by rw [h.len];simp
end
theorem St.put_top (x y:zh) (st:St):St.put (x::st) st.length y=y::st:=by unfold St.put;simp
theorem St.put_under {x y:zh} {st:St} {o:Nat} (h:o<st.length):St.put (x::st) o y=x::St.put st o y:=by
 unfold St.put
 simp only [List.length_cons]
 rw [if_pos (by omega),if_pos h,show st.length+1 - 1 - o=(st.length - 1 - o)+1 by omega,List.set_cons_succ]
theorem QQ (fr:Fr) (st:St):Zl st.length fr st=some (fr,st):=by simp [Zl]
mutual
theorem AV.beq_refl (a:AV):AV.beq a a=true:=by
 cases a<;>simp only [AV.beq,beq_self_eq_true,Bool.and_self,Bool.true_and,Bool.and_true]
 all_goals first
  |exact AV.beqs_refl _
  |exact AV.beqss_refl _
  |exact AV.beq_refl _
  |(simp;exact AV.beqss_refl _)
  |(simp;exact AV.beqs_refl _)
  |simp
  |skip
termination_by structural a
theorem AV.beqs_refl (a:List AV):AV.beqs a a=true:=by
 cases a with
 |nil=>rfl
 |cons x r=>simp only [AV.beqs,Bool.and_eq_true];exact ⟨AV.beq_refl x,AV.beqs_refl r⟩
termination_by structural a
theorem AV.beqss_refl (a:List (List AV)):AV.beqss a a=true:=by
 cases a with
 |nil=>rfl
 |cons x r=>simp only [AV.beqss,Bool.and_eq_true];exact ⟨AV.beqs_refl x,AV.beqss_refl r⟩
termination_by structural a
end
def Yj (kd:Nat) (v:AV) (c extra:List (List AV)):Prop:=∃tok:Tok,(tok = .no∨tok = .exact)∧v = .sl kd (c++extra) 0 c.length tok
theorem Yj.strip {kd n:Nat} {v:AV} {c extra:List (List AV)} (h:Yj kd v c extra):AV.stripN n v=v:=by
 obtain ⟨tok,rfl | rfl,rfl⟩:=h<;>rfl
theorem Yj.closed {kd n:Nat} {v:AV} {c extra:List (List AV)} (h:Yj kd v c extra) (hc:AV.closedss n (c++extra)=true):AV.closed n v=true:=by
 obtain ⟨tok,rfl | rfl,rfl⟩:=h<;>simp [AV.closed,hc]
theorem Yj.strip1 {kd:Nat} {v:AV} {c extra:List (List AV)} (h:Yj kd v c extra):Yj kd v.strip c extra:=by
 obtain ⟨tok,_,rfl⟩:=h
 exact ⟨.no,.inl rfl,rfl⟩
theorem Yj.sl {kd:Nat} {v:AV} {c extra:List (List AV)} (h:Yj kd v c extra):Sl kd v c:=by
 obtain ⟨tok,_,rfl⟩:=h
 exact .inr ⟨c++extra,0,tok,by simp,by simp,by simp⟩
theorem Yj.behind {kd:Nat} {v:AV} {c extra:List (List AV)} {n:Nat} (h:Yj kd v c extra) (hn:extra.length=n) (st:St) :
  ∃v',je st kd v none (some (.int .i64 ((c.length+n:Nat):Int))) none=some v'∧Sl kd v' (c++extra):=by
 obtain ⟨tok,_,rfl⟩:=h
 subst hn
 refine ⟨.sl kd (c++extra) 0 (c.length+extra.length) tok,?_,.inr ⟨c++extra,0,tok,by simp,by simp,by rw [List.drop_zero,List.take_of_length_le (Nat.le_refl _)]⟩⟩
 unfold je
 simp only [jd,zO,bind_some]
 rw [if_pos ⟨trivial,Nat.zero_le _⟩,if_pos (by simp)]
 simp
section
variable {st:St} {o n:Nat} {x y z u:zh}
theorem qz (h:n=st.length):St.get (x::st) n=some x:=by subst h;exact St.get_top _ _
theorem Zv (h:n=st.length):St.get (x::y::st) n=some y:=by subst h;rw [St.get_under (by simp only [List.length_cons];omega)];exact St.get_top _ _
theorem zn {ty:TypeId} {row:List AV} {c k:Nat} {ag:Bool} (h:st.get o=some (.box ty row)):zf st (.bp o c) k ag=zj row c k ag:=by simp [zf,h]
theorem zM {ty:TypeId} {row row' cs:List AV} {c:Nat} (h:st.get o=some (.box ty row)) (hs:setAt row c cs=some row'):zl st (.bp o c) cs=some (st.put o (.box ty row')):=by simp [zl,h,hs]
theorem Fs {cs:List AV} (h:cs.length=n):zq n (.agg cs)=some cs:=by simp [zq,AV.cells,AV.isTup,h]
theorem Wp:∀(xs cs:List AV),xs.length=cs.length→setAt xs 0 cs=some cs
 |[],[],_=>rfl
 |x::xs,c::cs,h=>by simp only [setAt,Wp xs cs (by simpa using h),map_some]
theorem VF (xs:List AV) (m:Nat) (h:xs.length=m):zj xs 0 m true=some (.agg xs):=by
 subst h
 simp [zj]
end
def WC {α:Type} (R:α→List AV→Prop) (xs:List α) (rows:List (List AV)):Prop:=xs.length=rows.length∧∀(i:Nat) x r,xs[i]?=some x→rows[i]?=some r→R x r
theorem WC.nil {α:Type} {R:α→List AV→Prop}:WC R [] []:=⟨rfl,by simp⟩
theorem WC.get {α:Type} {R:α→List AV→Prop} {xs:List α} {rows:List (List AV)} (h:WC R xs rows) {i:Nat} {x:α} (hx:xs[i]?=some x):∃r,rows[i]?=some r∧R x r:=by
 have hl:=(List.getElem?_eq_some_iff.1 hx).1
 have:rows[i]?=some (rows[i]'(by rw [←h.1];exact hl)):=List.getElem?_eq_getElem _
 exact ⟨_,this,h.2 i x _ hx this⟩
theorem WC.snoc {α:Type} {R:α→List AV→Prop} {xs:List α} {rows:List (List AV)} (h:WC R xs rows) {x:α} {r:List AV} (hr:R x r):WC R (xs++[x]) (rows++[r]):=by
 refine ⟨by simp [h.1],fun i y q hy hq=>?_⟩
 by_cases hi:i<xs.length
 ·rw [List.getElem?_append_left hi] at hy
  rw [List.getElem?_append_left (by rw [←h.1];exact hi)] at hq
  exact h.2 i y q hy hq
 ·rw [List.getElem?_append_right (by omega)] at hy
  rw [List.getElem?_append_right (by rw [←h.1];omega),←h.1] at hq
  have:i - xs.length=0:=by
   have:=(List.getElem?_eq_some_iff.1 hy).1
   simp at this;omega
  rw [this] at hy hq
  simp at hy hq
  subst hy;subst hq
  exact hr
theorem WC.imp {α:Type} {R R':α→List AV→Prop} {xs:List α} {rows:List (List AV)} (h:WC R xs rows) (hi:∀x r,R x r→R' x r):WC R' xs rows:=⟨h.1,fun i x r h1 h2=>hi _ _ (h.2 i x r h1 h2)⟩
theorem WC.take {α:Type} {R:α→List AV→Prop} {xs:List α} {rows:List (List AV)} (h:WC R xs rows) (n:Nat):WC R (xs.take n) (rows.take n):=by
 refine ⟨by simp [h.1],fun i x r h1 h2=>?_⟩
 rw [List.getElem?_take] at h1 h2
 split at h1
 ·rename_i hi;rw [if_pos hi] at h2;exact h.2 i x r h1 h2
 ·simp at h1
end Go.Abs
namespace Go.Abs
open Go Go.IntWalk
@[simp] theorem Ih (r:List AV) (c:Nat):zb (.ip r c)=some (.ip r c):=rfl
@[simp] theorem zu (o c:Nat):zb (.bp o c)=some (.bp o c):=rfl
@[simp] theorem zaU (k:Nat) (r:List AV) (c:Nat):zc k (.ip r c)=some (.ip r (c+k)):=rfl
@[simp] theorem zE (k o c:Nat):zc k (.bp o c)=some (.bp o (c+k)):=rfl
@[simp] theorem Zx (st:St) (r:List AV) (c n:Nat) (ag:Bool):zf st (.ip r c) n ag=zj r c n ag:=rfl
theorem e1i {i:Nat} (h:i<1000000000000):IntKind.i64.wrap ((i:Int)+1)=((i+1:Nat):Int):=by rw [i64_in _ (by omega)];rfl
theorem zbb {i j:Nat} (h:i+j<1000000000000):IntKind.i64.wrap ((i:Int)+(j:Int))=((i+j:Nat):Int):=by rw [i64_in _ (by omega)];rfl
structure Up (st S:St):Prop where
 low:S.trunc st.length=st
 len:st.length≤S.length
theorem Up.refl (st:St):Up st st:=⟨St.trunc_self st,Nat.le_refl _⟩
theorem St.trunc_trunc {S:St} {n m:Nat} (h:n≤m):(S.trunc m).trunc n=S.trunc n:=by
 unfold St.trunc
 rw [List.drop_drop]
 simp only [List.length_drop]
 congr 1
 omega
theorem Up.trans {a b c:St} (h1:Up a b) (h2:Up b c):Up a c:=⟨by rw [←St.trunc_trunc h1.len,h2.low,h1.low],Nat.le_trans h1.len h2.len⟩
theorem Up.cons (x:zh) (st:St):Up st (x::st):=⟨St.trunc_cons x st,by simp⟩
theorem Up.push {st S:St} (h:Up st S) (x:zh):Up st (x::S):=h.trans (Up.cons x S)
theorem Up.put {st S:St} (h:Up st S) {t:Nat} (ht:st.length≤t) (x:zh):Up st (S.put t x):=⟨by rw [St.trunc_put ht,h.low],by simpa using h.len⟩
theorem Up.app {st S:St} (h:Up st S):∃js,S=js++st:=by
 have:=h.low
 unfold St.trunc at this
 exact ⟨S.take (S.length - st.length),by conv=>lhs;rw [←List.take_append_drop (S.length - st.length) S,this]⟩
theorem St.get_app {js st:St} {o:Nat} (h:o<st.length):St.get (js++st) o=St.get st o:=by
 induction js with
 |nil=>rfl
 |cons x js ih=>rw [List.cons_append,St.get_under (by rw [List.length_append];omega),ih]
theorem Up.get {st S:St} (h:Up st S) {o:Nat} {x:zh} (hg:st.get o=some x):S.get o=some x:=by
 obtain ⟨js,rfl⟩:=h.app
 rw [St.get_app (St.get_lt hg)];exact hg
theorem St.get_put_other {st:St} {o t:Nat} {x:zh} (h:o≠t):St.get (st.put t x) o=st.get o:=by
 unfold St.get St.put
 by_cases ht:t<st.length
 ·rw [if_pos ht,List.length_set]
  by_cases ho:o<st.length
  ·rw [if_pos ho,if_pos ho,List.getElem?_set_ne (by omega)]
  ·rw [if_neg ho,if_neg ho]
 ·rw [if_neg ht]
theorem Up.putLow {st S:St} (h:Up st S) {o:Nat} (ho:o<st.length) (x:zh):Up (st.put o x) (S.put o x):=by
 obtain ⟨js,rfl⟩:=h.app
 have:St.put (js++st) o x=js++St.put st o x:=by
  clear h
  induction js with
  |nil=>rfl
  |cons y js ih=>rw [List.cons_append,St.put_under (by rw [List.length_append];omega),ih];rfl
 rw [this]
 refine ⟨?_,by simp⟩
 unfold St.trunc
 rw [List.length_append,Nat.add_sub_cancel,List.drop_left]
section
variable {R:Type} {st:St} {s:List UInt8} {c:UInt8}
theorem jH {j:Nat} (h:s[j]?=some c) (K:Int→Option R):((Option.map (fun b:UInt8=>AV.int .u8 (b.toNat:Int)) s[j]?).bind fun v=>(zm .u8 v).bind K)=K (c.toNat:Int):=by rw [h];simp
@[simp] theorem qr (a b:List UInt8):zQ .eql a b=some (.bool (a==b)):=rfl
@[simp] theorem zV (a b:List UInt8):zQ .neq a b=some (.bool (!(a==b))):=rfl
theorem Yp {i:Nat} (h:i≤s.length):qA (.str s) (some (.int .i64 (i:Int))) none=some (.str (s.drop i)):=by
 simp only [qA,jd,zO,bind_some]
 rw [if_pos ⟨h,Nat.le_refl _⟩,List.take_of_length_le (Nat.le_refl _)]
theorem zah {i:Nat} (h:i≤s.length):qA (.str s) none (some (.int .i64 (i:Int)))=some (.str (s.take i)):=by
 simp only [qA,jd,zO,bind_some]
 rw [if_pos ⟨Nat.zero_le _,h⟩];rfl
theorem DG {i j:Nat} (h1:i≤j) (h:j≤s.length):qA (.str s) (some (.int .i64 (i:Int))) (some (.int .i64 (j:Int)))=some (.str ((s.take j).drop i)):=by
 simp only [qA,jd,zO,bind_some]
 rw [if_pos ⟨h1,h⟩]
theorem qa {i:Nat} {r:List UInt8} (h:s.drop i=c::r):s[i]?=some c∧s.drop (i+1)=r∧i<s.length:=by
 have h1:i<s.length:=by
  by_cases hl:i<s.length
  ·exact hl
  ·rw [List.drop_of_length_le (by omega)] at h;cases h
 refine ⟨?_,?_,h1⟩
 ·have:(s.drop i)[0]?=some c:=by rw [h];rfl
  rw [List.getElem?_drop] at this;simpa using this
 ·rw [←List.drop_drop,h];rfl
theorem jw {i:Nat} (h:s.drop i=[]):s.length≤i:=by
 have:=congrArg List.length h
 simp at this;omega
end
theorem LE {a b:UInt8}:a=b↔a.toNat=b.toNat:=⟨fun h=>by rw [h],fun h=>UInt8.toNat_inj.1 h⟩
end Go.Abs
