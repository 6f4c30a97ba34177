/- ExprPrints returns true for every expression of bulk at most 1048576 and leaves it as it was: where the package-level variables that the row lists stand as it lists them. -/
import Derived.Test.YtldmjmhmckogkaaGreatDoorZE
set_option linter.unusedVariables false
set_option linter.unusedSimpArgs false
set_option linter.unusedSectionVars false
open Option (bind_some bind_eq_some_iff map_eq_some_iff map_some)
open UInt8 (ofNat)
namespace Go.Abs.X
inductive Lx:B→List Tk→Prop
 |fin:Lx [] []
 |blank (c:UInt8) (r:B) (ks:List Tk):blk c=true→Lx r ks→Lx (c::r) ks
 |tok (c:UInt8) (r q:B) (k:Tk) (ks:List Tk):blk c=false→(∀e p,k≠.bad e p)→(∀i,∃j,ZG (c::r) i=(k,q,j))→q.length≤r.length→Lx q ks→Lx (c::r) (k::ks)
theorem NF {c:UInt8} (hc:blk c=true) (n:Nat) (r:B) (i m:Nat):toks (n+1) (c::r) i m=toks (n+1) r (i+1) m:=by
 unfold toks
 simp only [List.takeWhile_cons,List.dropWhile_cons,hc,if_true,List.length_cons]
 rw [show i+((r.takeWhile blk).length+1)=i+1+(r.takeWhile blk).length by omega]
theorem CT {c:UInt8} {r q:B} {k:Tk} (hc:blk c=false) (hk:∀e p,k≠.bad e p) (n i j m:Nat) (h:ZG (c::r) i=(k,q,j)):toks (n+1) (c::r) i m=if m≥512 then [⟨.bad 1002 i,i⟩] else ⟨k,i⟩::toks n q j (m+1):=by
 conv=>lhs;unfold toks
 simp only [List.takeWhile_cons,List.dropWhile_cons,hc,Bool.false_eq_true,if_false,List.length_nil,Nat.add_zero,h]
theorem Lx.toks {r:B} {ks:List Tk} (h:Lx r ks):∀n i c,r.length<n→(512≤c∧∃p a,X.toks n r i c=[⟨.bad 1002 p,a⟩])∨Ag (X.toks n r i c) ks:=by
 induction h with
 |fin =>
  intro n i c hn
  match n,hn with
  |n+1,_=>exact .inr rfl
 |blank c r ks hc _ ih =>
  intro n i m hn
  match n,hn with
  |n+1,hn =>
   rw [NF hc]
   simp only [List.length_cons] at hn
   exact ih (n+1) (i+1) m (by omega)
 |tok c r q k ks hc hk hl hq _ ih =>
  intro n i m hn
  match n,hn with
  |n+1,hn =>
   obtain ⟨j,hj⟩:=hl i
   rw [CT hc hk n i j m hj]
   by_cases h:m≥512
   ·rw [if_pos h];exact .inl ⟨h,_,_,rfl⟩
   ·rw [if_neg h]
    simp only [List.length_cons] at hn
    refine .inr (Ag.cons.2 ⟨rfl,hk,?_⟩)
    rcases ih n j (m+1) (by omega) with ⟨_,p,a,h⟩ | h
    ·exact .inl ⟨p,a,h⟩
    ·exact .inr h
def nh (r:B):Prop:=match r with
 |[]=>True
 |c::_=>nam c=false
def nhd (p:UInt8→Bool) (r:B):Prop:=match r with
 |[]=>True
 |c::_=>p c=false
theorem BH {p:UInt8→Bool} (a b:B) (ha:a.all p=true) (hb:nhd p b):(a++b).takeWhile p=a∧(a++b).dropWhile p=b:=by
 induction a with
 |nil =>
  cases b with
  |nil=>exact ⟨rfl,rfl⟩
  |cons c b=>have hb:p c=false:=hb;simp [List.takeWhile_cons,List.dropWhile_cons,hb]
 |cons x a ih =>
  rw [List.all_cons,Bool.and_eq_true] at ha
  obtain ⟨h1,h2⟩:=ih ha.2
  simp [List.takeWhile_cons,List.dropWhile_cons,ha.1,h1,h2]
theorem FU {c:UInt8} (h:sml c=true):c.toNat≠39∧dig c=false∧blk c=false∧nam c=true∧c≠61:=by
 simp only [sml,Bool.and_eq_true,decide_eq_true_eq] at h
 refine ⟨by omega,?_,?_,?_,?_⟩
 ·simp [dig];omega
 ·simp [blk];omega
 ·simp [nam,sml,h]
 ·intro h';subst h';revert h;decide
theorem Kd {c:UInt8} (h:dig c=true):c.toNat≠39∧sml c=false∧blk c=false∧nam c=true∧c≠61:=by
 have h':=h
 simp only [dig,Bool.and_eq_true,decide_eq_true_eq] at h
 refine ⟨by omega,?_,?_,?_,?_⟩
 ·simp [sml];omega
 ·simp [blk];omega
 ·simp [nam,h']
 ·intro h';subst h';revert h;decide
def okH (b:B):Prop:=∃c r,b=c::r∧c≠61
theorem okH.app {a:B} (h:okH a) (b:B):okH (a++b):=by
 obtain ⟨c,r,rfl,hc⟩:=h;exact ⟨c,r++b,rfl,hc⟩
theorem Lx.name {s rest:B} {ks:List Tk} (hs:qf s=true) (hr:nh rest) (h:Lx rest ks):Lx (s++rest) (.name s::ks)∧okH s:=by
 match s,hs with
 |c::r,hs =>
  simp only [qf,Bool.and_eq_true,decide_eq_true_eq] at hs
  obtain ⟨⟨h1,h2⟩,h3⟩:=hs
  obtain ⟨f1,f2,f3,f4,f5⟩:=FU h1
  have hr':nhd nam rest:=by cases rest<;>exact hr
  obtain ⟨t1,t2⟩:=BH r rest h2 hr'
  refine ⟨.tok c (r++rest) rest _ ks f3 (by simp) (fun i=>⟨i+(c::r).length,?_⟩) (by simp) h,c,r,rfl,f5⟩
  unfold ZG
  simp only [f1,if_false,f2,Bool.false_eq_true,h1,if_true,t1,t2]
  rw [if_neg (by omega)]
theorem Fp (l:B) (a:Nat) (c:UInt8):(l++[c]).foldl (fun a c=>a*10+(c.toNat - 48)) a=(l.foldl (fun a c=>a*10+(c.toNat - 48)) a)*10+(c.toNat - 48):=by
 rw [List.foldl_append];rfl
theorem Xt {d:Nat} (h:d<10):((48+d).toUInt8).toNat=48+d:=by
 show (48+d)%256=_;omega
theorem Dg:∀(f n:Nat),n<10^f→dec (qM f n)=n∧(qM f n).all dig=true∧(0<f→∃c r,qM f n=c::r∧dig c=true∧(0<n→c.toNat≠48)):=by
 intro f
 induction f with
 |zero=>intro n h;obtain rfl:n=0:=(by simpa using h);exact ⟨rfl,rfl,fun h=>absurd h (by omega)⟩
 |succ f ih =>
  intro n h
  simp only [qM]
  by_cases h9:n<10
  ·rw [if_pos h9]
   have hd:dig (48+n).toUInt8=true:=by simp only [dig,Xt h9];simp;omega
   refine ⟨?_,by rw [List.all_cons,hd];rfl,fun _=>⟨_,[],rfl,hd,fun _=>by rw [Xt h9];omega⟩⟩
   show 0*10+((48+n).toUInt8.toNat - 48)=n
   rw [Xt h9];omega
  ·rw [if_neg h9]
   have hq:n / 10<10^f:=by rw [Nat.pow_succ] at h;omega
   obtain ⟨i1,i2,i3⟩:=ih (n / 10) hq
   have hd:dig (48+n%10).toUInt8=true:=by simp only [dig,Xt (show n%10<10 by omega)];simp;omega
   have hf:0<f:=by
    cases f with
    |zero=>simp at hq;omega
    |succ=>omega
   obtain ⟨c,r,e,g1,g2⟩:=i3 hf
   refine ⟨?_,by rw [List.all_append,i2,List.all_cons,hd];rfl,fun _=>⟨c,r++[(48+n%10).toUInt8],by rw [e];rfl,g1,fun _=>g2 (by omega)⟩⟩
   unfold dec at i1 ⊢
   rw [Fp,i1,Xt (show n%10<10 by omega)];omega
theorem Lx.num {n:Nat} {rest:B} {ks:List Tk} (hn:n≤9223372036854775807) (hr:nh rest) (h:Lx rest ks):Lx (digits n++rest) (.num n::ks)∧okH (digits n):=by
 obtain ⟨h1,h2,h3⟩:=Dg 20 n (by omega)
 obtain ⟨c,r,e,g1,g2⟩:=h3 (by omega)
 obtain ⟨f1,f2,f3,f4,f5⟩:=Kd g1
 have e':digits n=c::r:=e
 rw [e']
 rw [e,List.all_cons,Bool.and_eq_true] at h2
 have hr':nhd dig rest:=by
  cases rest with
  |nil=>trivial
  |cons d q =>
   have:nam d=false:=hr
   show dig d=false
   cases hd:dig d with
   |false=>rfl
   |true=>rw [(Kd hd).2.2.2.1] at this;cases this
 obtain ⟨t1,t2⟩:=BH r rest h2.2 hr'
 refine ⟨.tok c (r++rest) rest _ ks f3 (by simp) (fun i=>?_) (by simp) h,c,r,rfl,f5⟩
 unfold ZG
 simp only [f1,if_false,g1,if_true]
 by_cases h0:n=0
 ·subst h0
  have:qM 20 0=[48]:=rfl
  rw [this] at e
  cases e
  exact ⟨_,rfl⟩
 ·rw [if_neg (g2 (by omega)),t1,t2,←e,h1,if_pos hn]
  exact ⟨_,rfl⟩
def esc (s:B):B:=s.flatMap (fun c=>if c.toNat=39∨c.toNat=92∨c.toNat=125 then [92,c] else if c.toNat=10 then [92,110] else [c])
theorem XV (c:UInt8) (s:B):esc (c::s)=(if c.toNat=39∨c.toNat=92∨c.toNat=125 then [92,c] else if c.toNat=10 then [92,110] else [c])++esc s:=by simp [esc,List.flatMap_cons]
theorem Cm (a s:B) (h:∀c ∈ a,128≤c.toNat):esc (a++s)=a++esc s:=by
 induction a with
 |nil=>rfl
 |cons c a ih =>
  have hc:=h c List.mem_cons_self
  rw [List.cons_append,XV,if_neg (by omega),if_neg (by omega),ih fun c hc=>h c (List.mem_cons_of_mem _ hc)]
  rfl
theorem VA (s:B):s.length≤(esc s).length:=by
 induction s with
 |nil=>exact Nat.zero_le _
 |cons c s ih =>
  rw [XV,List.length_append,List.length_cons]
  have:1≤(if c.toNat=39∨c.toNat=92∨c.toNat=125 then [92,c] else if c.toNat=10 then [92,110] else [c]:B).length:=by
   split
   ·simp
   ·split<;>simp
  omega
theorem MS {c:UInt8} {r:B} (h:c.toNat<128):zI (c::r)=1:=by
 show (if c.toNat<128 then 1 else _)=1
 rw [if_pos h]
theorem CA {c:UInt8} {r:B} (h:¬c.toNat<128) (h0:zI (c::r)≠0):2≤zI (c::r):=by
 revert h0
 simp only [zI,if_neg h]
 repeat' split
 all_goals intro h0
 all_goals first | omega | exact absurd rfl h0
theorem NJ {d:UInt8} (h:d.toNat=39∨d.toNat=92∨d.toNat=125) (f:Nat) (r:B) (i:Nat) (out:B):zH (f+1) (92::d::r) i out=zH f r (i+2) (out++[d]):=by
 simp only [zH]
 rw [if_neg (by decide),if_neg (by decide),if_pos (by decide),if_pos h]
theorem YV {c:UInt8} {r:B} {k:Nat} (h1:32≤c.toNat) (h2:c.toNat≠39) (h3:c.toNat≠92) (hk:zI (c::r)=k+1) (f:Nat) (i:Nat) (out:B):zH (f+1) (c::r) i out=zH f ((c::r).drop (k+1)) (i+(k+1)) (out++(c::r).take (k+1)):=by
 simp only [zH]
 rw [if_neg (by omega),if_neg h2,if_neg h3,hk];rfl
theorem Ma (rest:B):∀(m:Nat) (s:B) (f i:Nat) (out:B),s.length≤m→qI s.length s=true→s.all okc=true→s.length<f→∃j,zH f (esc s++39::rest) i out = .ok (out++s,rest,j):=by
 intro m
 induction m with
 |zero =>
  intro s f i out hm _ _ hf
  obtain rfl:s=[]:=List.length_eq_zero_iff.1 (by omega)
  match f,hf with
  |f+1,_=>exact ⟨_,by rw [List.append_nil];rfl⟩
 |succ m ih =>
  intro s f i out hm hv ha hf
  match s with
  |[] =>
   match f,hf with
   |f+1,_=>exact ⟨_,by rw [List.append_nil];rfl⟩
  |c::s =>
   match f,hf with
   |f+1,hf =>
    simp only [List.length_cons] at hm hf
    rw [show (c::s).length=s.length+1 from rfl,qZ _ _ (by simp)] at hv
    split at hv
    ·cases hv
    ·rename_i hu
     rw [List.all_cons,Bool.and_eq_true] at ha
     obtain ⟨ha1,ha2⟩:=ha
     by_cases h128:c.toNat<128
     ·rw [MS h128] at hv
      have hv:=Xk _ _ (show qI s.length s=true from hv)
      rw [XV]
      split
      ·rename_i hc
       have h92:zH (f+1) ([92,c]++esc s++39::rest) i out=zH f (esc s++39::rest) (i+2) (out++[c]):=NJ hc f _ i out
       rw [h92]
       obtain ⟨j,hj⟩:=ih s f (i+2) (out++[c]) (by omega) hv ha2 (by omega)
       exact ⟨j,by rw [hj];simp⟩
      ·rename_i hc
       split
       ·rename_i h10
        have h92:zH (f+1) ([92,110]++esc s++39::rest) i out=zH f (esc s++39::rest) (i+2) (out++[10]):=rfl
        rw [h92]
        obtain ⟨j,hj⟩:=ih s f (i+2) (out++[10]) (by omega) hv ha2 (by omega)
        have:c=10:=UInt8.toNat_inj.1 h10
        exact ⟨j,by rw [hj,this];simp⟩
       ·rename_i h10
        have h32:32≤c.toNat:=by
         simp only [okc,Bool.or_eq_true,decide_eq_true_eq,beq_iff_eq] at ha1;omega
        have hl:zH (f+1) ([c]++esc s++39::rest) i out=zH f (esc s++39::rest) (i+1) (out++[c]):=YV (k:=0) h32 (by omega) (by omega) (MS h128) f i out
        rw [hl]
        obtain ⟨j,hj⟩:=ih s f (i+1) (out++[c]) (by omega) hv ha2 (by omega)
        exact ⟨j,by rw [hj];simp⟩
     ·have h2:=CA h128 hu
      have hlen:=Qm (c::s)
      have hhigh:=VN (c::s) h2
      have hs:c::s=(c::s).take (zI (c::s))++(c::s).drop (zI (c::s)):=(List.take_append_drop _ _).symm
      have hv:=Xk _ _ hv
      have hal:((c::s).drop (zI (c::s))).all okc=true:=by
       have:(c::s).all okc=true:=by rw [List.all_cons,ha1,ha2];rfl
       rw [hs,List.all_append,Bool.and_eq_true] at this
       exact this.2
      have hdl:((c::s).drop (zI (c::s))).length≤m∧((c::s).drop (zI (c::s))).length<f:=by
       simp only [List.length_drop,List.length_cons] at hlen ⊢
       omega
      have hesc:esc (c::s)=(c::s).take (zI (c::s))++esc ((c::s).drop (zI (c::s))):=by
       conv=>lhs;rw [hs]
       exact Cm _ _ hhigh
      have htl:((c::s).take (zI (c::s))).length=zI (c::s):=by simp only [List.length_take];omega
      have hul:∀x,zI ((c::s).take (zI (c::s))++x)=zI (c::s):=fun x=>by
       rw [UY _ _ (by rw [WU _ hu];exact hu),WU _ hu]
      rw [hesc]
      generalize hk:zI (c::s)=k at *
      generalize hd:(c::s).drop k=d at *
      generalize ht:(c::s).take k=t at *
      have htc:∃t',t=c::t':=by
       subst ht
       match k,h2 with
       |k+1,_=>exact ⟨s.take k,rfl⟩
      obtain ⟨t',rfl⟩:=htc
      have hl:zH (f+1) ((c::t')++esc d++39::rest) i out=zH f (esc d++39::rest) (i+k) (out++(c::t')):=by
       match k,h2 with
       |k+1,_ =>
        have h5:=hul (esc d++39::rest)
        have h6:=YV (c:=c) (r:=t'++(esc d++39::rest)) (k:=k) (by omega) (by omega) (by omega) h5 f i out
        rw [show (c::t')++esc d++39::rest=c::(t'++(esc d++39::rest)) by simp,h6]
        show zH f (((c::t')++(esc d++39::rest)).drop (k+1)) (i+(k+1)) (out++((c::t')++(esc d++39::rest)).take (k+1))=_
        rw [←htl,List.drop_left,List.take_left]
      rw [hl]
      obtain ⟨j,hj⟩:=ih d f (i+k) (out++(c::t')) hdl.1 hv hal hdl.2
      exact ⟨j,by rw [hj,List.append_assoc,←hs]⟩
theorem Lx.text {s rest:B} {ks:List Tk} (hs:Ju s=true) (h:Lx rest ks):Lx (quoted s++rest) (.text s::ks)∧okH (quoted s):=by
 have hs':=hs
 simp only [Ju,XG,Bool.and_eq_true,decide_eq_true_eq] at hs'
 obtain ⟨⟨hv,hl⟩,ha⟩:=hs'
 refine ⟨?_,39,esc s++[39],rfl,by decide⟩
 have hq:quoted s++rest=39::(esc s++39::rest):=by simp [quoted,esc]
 rw [hq]
 have hel:=VA s
 refine .tok 39 _ rest _ ks (by decide) (by simp) (fun i=>?_) (by simp;omega) h
 obtain ⟨j,hj⟩:=Ma rest s.length s ((esc s++39::rest).length+1) (i+1) [] (Nat.le_refl _) hv ha (by simp;omega)
 refine ⟨j,?_⟩
 unfold ZG
 simp only [show (39:UInt8).toNat=39 from rfl,if_true,hj,List.nil_append]
 rw [if_neg (by omega)]
theorem Kh {c:UInt8} {r m:B} (h:(c.toNat==39||dig c||sml c)=false) (hf:signs.find? (fun s=>s.isPrefixOf (c::r))=some m) (i:Nat):ZG (c::r) i=(.sign m,(c::r).drop m.length,i+m.length):=by
 simp only [Bool.or_eq_false_iff,beq_eq_false_iff_ne] at h
 unfold ZG
 simp only [h.1.1,if_false,h.1.2,Bool.false_eq_true,h.2,hf]
theorem Dc:∀m ∈ signs,∀rest:B,∃c r,m=c::r∧blk c=false∧(c.toNat==39||dig c||sml c)=false∧signs.find? (fun s=>s.isPrefixOf (m++32::rest))=some m:=by
 intro m hm
 simp only [signs,List.mem_cons,List.not_mem_nil,or_false] at hm
 rcases hm with rfl | rfl | rfl | rfl | rfl | rfl | rfl | rfl | rfl | rfl | rfl | rfl | rfl | rfl | rfl | rfl | rfl | rfl | rfl | rfl | rfl | rfl | rfl | rfl | rfl | rfl | rfl<;>exact fun rest=>⟨_,_,rfl,rfl,rfl,rfl⟩
theorem Lx.signB {m rest:B} {ks:List Tk} (hm:m ∈ signs) (h:Lx rest ks):Lx (m++32::rest) (.sign m::ks):=by
 obtain ⟨c,r,rfl,h1,h2,h3⟩:=Dc m hm rest
 refine .tok c (r++32::rest) (32::rest) _ ks h1 (by simp) (fun i=>⟨i+(c::r).length,?_⟩) (by simp) (.blank _ _ _ rfl h)
 have:=Kh (c:=c) (r:=r++32::rest) h2 h3 i
 rw [this]
 simp
theorem Lx.sign1 {c:UInt8} {rest:B} {ks:List Tk} (hc:blk c=false∧(c.toNat==39||dig c||sml c)=false) (hf:signs.find? (fun s=>s.isPrefixOf (c::rest))=some [c]) (h:Lx rest ks):Lx (c::rest) (.sign [c]::ks) :=
 .tok c rest rest _ ks hc.1 (by simp) (fun i=>⟨_,by rw [Kh hc.2 hf i];rfl⟩) (Nat.le_refl _) h
theorem Lx.not {rest:B} {ks:List Tk} (hr:okH rest) (h:Lx rest ks):Lx (33::rest) (.sign [33]::ks):=by
 refine Lx.sign1 ⟨rfl,rfl⟩ ?_ h
 obtain ⟨c,r,rfl,hc⟩:=hr
 have:((61:UInt8)==c)=false:=by simp;exact fun h=>hc h.symm
 simp [signs,List.find?,List.isPrefixOf,this]
theorem Wq:∀y ∈ tab,y.2.1 ∈ signs:=fun y hy=>by
 have:tab.all (fun y=>signs.contains y.2.1)=true:=by decide
 simpa using List.all_eq_true.1 this y hy
def Bd (b:B) (w:List Tk):Prop:=(∀rest ks,nh rest→Lx rest ks→Lx (b++rest) (w++ks))∧okH b
theorem Bd.paren {b:B} {w:List Tk} (h:Bd b w):Bd ([40]++b++[41]) (.sign [40]::w++[.sign [41]]):=by
 refine ⟨fun rest ks hr hl=>?_,40,b++[41],rfl,by decide⟩
 have h1:=h.1 (41::rest) (.sign [41]::ks) rfl (Lx.sign1 ⟨rfl,rfl⟩ rfl hl)
 have h2:=Lx.sign1 (c:=40) ⟨rfl,rfl⟩ rfl h1
 simpa using h2
theorem zaH {op n:Int} {s:B} {ks:List Ex} (h:Bd (body op n s (puts ks)) (Jw op n s (putTs ks))) (L:Nat):Bd (put (.mk op n s ks) L) (QP (.mk op n s ks) L):=by
 by_cases hl:level op<L
 ·rw [Uu hl,show put (.mk op n s ks) L=[40]++body op n s (puts ks)++[41] by simp only [put,if_pos hl]]
  exact h.paren
 ·rw [Wk (by omega),show put (.mk op n s ks) L=body op n s (puts ks) by simp only [put,if_neg hl]]
  exact h
theorem KX:∀(m:Nat) (e:Ex),e.size≤m→Ex.fine e=true→∀L,Bd (put e L) (QP e L):=by
 intro m
 induction m with
 |zero=>intro e he;have:=XZ e;omega
 |succ m ih =>
  intro e he hall
  match e with
  | .mk op n s ks =>
   rw [Zd,Bool.and_eq_true,Bool.and_eq_true] at hall
   obtain ⟨⟨hal,hmax⟩,hks⟩:=hall
   have hk:zZ op=(ks.length:Int):=by simp only [qo,Bool.and_eq_true,beq_iff_eq] at hal;exact hal.1
   rw [jp] at he
   have hsz:∀(l:List Ex),Ex.sizes l≤m→Ex.fines l=true→∀x ∈ l,x.size≤m∧Ex.fine x=true:=by
    intro l
    induction l with
    |nil=>intro _ _ x hx;cases hx
    |cons y r ih =>
     intro h hf x hx
     rw [qh] at h
     rw [qT,Bool.and_eq_true] at hf
     rcases List.mem_cons.1 hx with rfl | hx
     ·exact ⟨by omega,hf.1⟩
     ·exact ih (by omega) hf.2 x hx
   have hA:∀x ∈ ks,∀L,Bd (put x L) (QP x L):=fun x hx=>ih x (hsz ks (by omega) hks x hx).1 (hsz ks (by omega) hks x hx).2
   refine zaH ?_
   rcases Xh hk with ⟨⟨mm,l⟩,hb,h2⟩ | ⟨hb,h⟩
   ·obtain ⟨a,b,rfl⟩:=FN h2
    have ha:=hA a (by simp) l
    have hb':=hA b (by simp) (l+1)
    have e1:body op n s (puts [a,b])=put a l++([32]++mm++[32])++put b (l+1):=by unfold body;rw [hb];rfl
    have e2:Jw op n s (putTs [a,b])=QP a l++.sign mm::QP b (l+1):=by unfold Jw;rw [hb];rfl
    rw [e1,e2]
    refine ⟨fun rest ks hr hl=>?_,(ha.2.app _).app _⟩
    have h1:=hb'.1 rest ks hr hl
    have h2:=Lx.signB (Wq _ (YG hb)) h1
    have h3:=ha.1 _ _ (show nh (32::_) from rfl) (.blank 32 _ _ rfl h2)
    simpa using h3
   ·rcases h with ⟨rfl,h2⟩ | ⟨rfl,h2⟩ | ⟨rfl,h2⟩ | ⟨rfl,h2⟩ | ⟨rfl,h2⟩ | ⟨rfl,h2⟩ | ⟨rfl,h2⟩ | ⟨rfl,h2⟩ | ⟨rfl,h2⟩ | ⟨rfl,h2⟩ | ⟨rfl,h2⟩ | ⟨rfl,h2⟩
    ·obtain ⟨a,b,c,rfl⟩:=zaB h2
     have ha:=hA a (by simp) 1
     have hb:=hA b (by simp) 0
     have hc:=hA c (by simp) 0
     show Bd (put a 1++[32,63,32]++put b 0++[32,58,32]++put c 0) (QP a 1++.sign [63]::QP b 0++.sign [58]::QP c 0)
     refine ⟨fun rest ks hr hl=>?_,(((ha.2.app _).app _).app _).app _⟩
     have h1:=Lx.signB (m:=[58]) (by decide) (hc.1 rest ks hr hl)
     have h2:=Lx.signB (m:=[63]) (by decide) (hb.1 _ _ (show nh (32::_) from rfl) (.blank 32 _ _ rfl h1))
     have h3:=ha.1 _ _ (show nh (32::_) from rfl) (.blank 32 _ _ rfl h2)
     simpa using h3
    ·obtain ⟨a,rfl⟩:=List.length_eq_one_iff.1 h2
     have ha:=hA a (by simp) 12
     show Bd ([45]++put a 12) (.sign [45]::QP a 12)
     exact ⟨fun rest ks hr hl=>Lx.sign1 (c:=45) ⟨rfl,rfl⟩ rfl (ha.1 rest ks hr hl),45,_,rfl,by decide⟩
    ·obtain ⟨a,rfl⟩:=List.length_eq_one_iff.1 h2
     have ha:=hA a (by simp) 12
     show Bd ([33]++put a 12) (.sign [33]::QP a 12)
     exact ⟨fun rest ks hr hl=>Lx.not (ha.2.app _) (ha.1 rest ks hr hl),33,_,rfl,by decide⟩
    ·obtain ⟨a,rfl⟩:=List.length_eq_one_iff.1 h2
     have ha:=hA a (by simp) 13
     have hn:qf s=true:=by simp [qo] at hal;exact hal.2.2
     show Bd (put a 13++([46]++s)) (QP a 13++[.sign [46],.name s])
     refine ⟨fun rest ks hr hl=>?_,ha.2.app _⟩
     have h1:=ha.1 _ _ (show nh (46::_) from rfl) (Lx.sign1 (c:=46) ⟨rfl,rfl⟩ rfl (Lx.name hn hr hl).1)
     simpa using h1
    ·obtain ⟨a,b,rfl⟩:=FN h2
     have ha:=hA a (by simp) 13
     have hb:=hA b (by simp) 0
     show Bd (put a 13++[91]++put b 0++[93]) (QP a 13++.sign [91]::QP b 0++[.sign [93]])
     refine ⟨fun rest ks hr hl=>?_,((ha.2.app _).app _).app _⟩
     have h1:=hb.1 _ _ (show nh (93::_) from rfl) (Lx.sign1 (c:=93) ⟨rfl,rfl⟩ rfl hl)
     have h2:=ha.1 _ _ (show nh (91::_) from rfl) (Lx.sign1 (c:=91) ⟨rfl,rfl⟩ rfl h1)
     simpa using h2
    ·obtain ⟨a,rfl⟩:=List.length_eq_one_iff.1 h2
     have ha:=hA a (by simp) 0
     have hn:(1≤n∧n≤8)∧s=[]:=by simp [qo] at hal;exact hal.2
     obtain ⟨_,_,hcn,_⟩:=WL hn.1.1 hn.1.2
     show Bd ((calls.getD (n.toNat - 1) []++[40])++put a 0++[41]) (.name (calls.getD (n.toNat - 1) [])::.sign [40]::QP a 0++[.sign [41]])
     refine ⟨fun rest ks hr hl=>?_,(((Lx.name hcn (rest:=[]) (ks:=[]) trivial .fin).2.app _).app _).app _⟩
     have h1:=ha.1 _ _ (show nh (41::_) from rfl) (Lx.sign1 (c:=41) ⟨rfl,rfl⟩ rfl hl)
     have h2:=(Lx.name hcn (show nh (40::_) from rfl) (Lx.sign1 (c:=40) ⟨rfl,rfl⟩ rfl h1)).1
     simpa using h2
    ·have hn:0≤n:=by simp [qo] at hal;exact hal.2.1
     have hm:n.toNat≤9223372036854775807:=by have:=of_decide_eq_true hmax;omega
     exact ⟨fun rest ks hr hl=>(Lx.num hm hr hl).1,(Lx.num hm (rest:=[]) (ks:=[]) trivial .fin).2⟩
    ·have hn:Ju s=true:=by simp [qo] at hal;exact hal.2.2
     exact ⟨fun rest ks hr hl=>(Lx.text hn hl).1,(Lx.text hn (rest:=[]) (ks:=[]) .fin).2⟩
    ·have hn:qf s=true:=by simp [qo] at hal;exact hal.2.1.2
     exact ⟨fun rest ks hr hl=>(Lx.name hn hr hl).1,(Lx.name hn (rest:=[]) (ks:=[]) trivial .fin).2⟩
    ·exact ⟨fun rest ks hr hl=>(Lx.name (s:=[110,117,108,108]) (by decide) hr hl).1,(Lx.name (s:=[110,117,108,108]) (by decide) (rest:=[]) (ks:=[]) trivial .fin).2⟩
    ·exact ⟨fun rest ks hr hl=>(Lx.name (s:=[102,97,108,115,101]) (by decide) hr hl).1,(Lx.name (s:=[102,97,108,115,101]) (by decide) (rest:=[]) (ks:=[]) trivial .fin).2⟩
    ·exact ⟨fun rest ks hr hl=>(Lx.name (s:=[116,114,117,101]) (by decide) hr hl).1,(Lx.name (s:=[116,114,117,101]) (by decide) (rest:=[]) (ks:=[]) trivial .fin).2⟩
end Go.Abs.X
namespace Go.Abs.X
def QB (ts:List T) (ks:List Tk):Prop:=ts.map (·.k)=ks++[.fin]∧∀k ∈ ks,k≠.fin∧∀c p,k≠.bad c p
theorem QB.nil {ts:List T} (h:QB ts []):∃a,ts=[⟨.fin,a⟩]:=by
 obtain ⟨h1,_⟩:=h
 match ts,h1 with
 |[⟨k,a⟩],h1=>simp at h1;subst h1;exact ⟨a,rfl⟩
theorem QB.cons {ts:List T} {k:Tk} {ks:List Tk} (h:QB ts (k::ks)):∃a r,ts=⟨k,a⟩::r∧QB r ks:=by
 obtain ⟨h1,h2⟩:=h
 match ts,h1 with
 |⟨k',a⟩::r,h1 =>
  rw [List.map_cons,List.cons_append] at h1
  obtain ⟨h3,h4⟩:=List.cons.inj h1
  simp only at h3
  subst h3
  exact ⟨a,r,rfl,h4,fun x hx=>h2 x (List.mem_cons_of_mem _ hx)⟩
theorem QB.ne {ts:List T} {ks:List Tk} (h:QB ts ks):∃t r,ts=t::r∧∀c p,t.k≠.bad c p:=by
 cases ks with
 |nil=>obtain ⟨a,rfl⟩:=h.nil;exact ⟨_,_,rfl,fun c p h=>by cases h⟩
 |cons k ks=>obtain ⟨a,r,rfl,_⟩:=h.cons;exact ⟨_,_,rfl,(h.2 k List.mem_cons_self).2⟩
def s41 (z:List Tk):List Tk:=.sign [41]::z
theorem zaK {ts ts':List T} {ks z:List Tk} (h:QB ts ks) (h':Ag ts' (ks++s41 z)) {x:B} (hx:isS ts x=true):isS ts' x=true:=by
 rw [h'.isS]
 cases ks with
 |nil=>obtain ⟨a,rfl⟩:=h.nil;cases hx
 |cons k ks=>obtain ⟨a,r,rfl,_⟩:=h.cons;cases k<;>exact hx
def Sm (z:List Tk) (R R':Res):Prop:=∀e u,R=ok e u→Bad R'∨∃ku u',QB u ku∧R'=ok e u'∧Ag u' (ku++s41 z)
section
variable {z:List Tk}
theorem Sm.ok {e:Ex} {u u':List T} {ku:List Tk} (h:QB u ku) (h':Ag u' (ku++s41 z)):Sm z (X.ok e u) (X.ok e u'):=fun e' v hv=>by
 cases hv;exact .inr ⟨ku,u',h,rfl,h'⟩
theorem Sm.err {f:F} {R':Res}:Sm z (some (.error f)) R':=fun e u h=>by cases h
theorem Sm.none {R':Res}:Sm z none R':=fun e u h=>by cases h
theorem Sm.bad {R R':Res} (h:Bad R'):Sm z R R':=fun _ _ _=>.inl h
theorem Sm.andThen {R R':Res} {K K':Ex→List T→Res} (h:Sm z R R') (hK:∀e v v' kv,QB v kv→Ag v' (kv++s41 z)→Sm z (K e v) (K' e v')):Sm z (X.andThen R K) (X.andThen R' K'):=by
 match R,h with
 |some (.ok (e,v)),h =>
  rcases h e v rfl with (rfl | ⟨c,p,rfl,hc⟩) | ⟨kv,v',h1,rfl,h2⟩
  ·exact .bad (.inl rfl)
  ·exact .bad (.inr ⟨c,p,rfl,hc⟩)
  ·exact hK e v v' kv h1 h2
 |some (.error f),_=>exact .err
 |Option.none,_=>exact .none
theorem Sm.adv {ts ts':List T} {ks:List Tk} (h:QB ts ks) (h':Ag ts' (ks++s41 z)) {K K':List T→Res} (hK:∀v v' kv,QB v kv→Ag v' (kv++s41 z)→Sm z (K v) (K' v')):Sm z (X.adv ts K) (X.adv ts' K'):=by
 cases ks with
 |nil=>obtain ⟨a,rfl⟩:=h.nil;exact .err
 |cons k ks =>
  obtain ⟨a,r,rfl,hr⟩:=h.cons
  rcases Cx h' K' with hb | ⟨u,hu,he⟩
  ·exact .bad hb
  ·rw [he]
   obtain ⟨t,q,rfl,hb⟩:=hr.ne
   have:X.adv (⟨k,a⟩::t::q) K=K (t::q):=by
    obtain ⟨k',a'⟩:=t
    cases k'<;>first | rfl | exact absurd rfl (hb _ _)
   rw [this]
   exact hK _ _ ks hr hu
theorem Sm.want {s:B} {ts ts':List T} {ks:List Tk} (h:QB ts ks) (h':Ag ts' (ks++s41 z)) {K K':List T→Res} (hK:∀v v' kv,QB v kv→Ag v' (kv++s41 z)→Sm z (K v) (K' v')):Sm z (X.want s ts K) (X.want s ts' K'):=by
 unfold X.want
 by_cases hs:isS ts s=true
 ·rw [if_pos hs,if_pos (zaK h h' hs)];exact .adv h h' hK
 ·rw [if_neg hs];exact .err
end
theorem BL {p:UInt8→Bool} (hp:p 9=false) (r y:B):(r++9::y).takeWhile p=r.takeWhile p∧(r++9::y).dropWhile p=r.dropWhile p++9::y:=by
 induction r with
 |nil=>simp [List.takeWhile_cons,List.dropWhile_cons,hp]
 |cons c r ih =>
  by_cases h:p c=true
  ·simp [List.takeWhile_cons,List.dropWhile_cons,h,ih.1,ih.2]
  ·simp [List.takeWhile_cons,List.dropWhile_cons,h]
theorem Ye (y:B):∀(f:Nat) (r:B) (i i':Nat) (out o q:B) (j:Nat) (f':Nat),f≤f'→zH f r i out = .ok (o,q,j)→q.length≤r.length∧∃j',zH f' (r++y) i' out = .ok (o,q++y,j'):=by
 intro f
 induction f with
 |zero=>intro r i i' out o q j f' _ h;simp [zH] at h
 |succ f ih =>
  intro r i i' out o q j f' hf h
  match r with
  |[]=>simp [zH] at h
  |c::r =>
   match f',hf with
   |f'+1,hf =>
    have hf:f≤f':=by omega
    simp only [zH] at h
    rw [List.cons_append]
    simp only [zH]
    by_cases h32:c.toNat<32
    ·rw [if_pos h32] at h;cases h
    rw [if_neg h32] at h ⊢
    by_cases h39:c.toNat=39
    ·rw [if_pos h39] at h ⊢
     cases h
     exact ⟨by simp,_,rfl⟩
    rw [if_neg h39] at h ⊢
    by_cases h92:c.toNat=92
    ·rw [if_pos h92] at h ⊢
     cases r with
     |nil=>cases h
     |cons d r =>
      rw [List.cons_append]
      dsimp only at h ⊢
      by_cases hd:d.toNat=39∨d.toNat=92∨d.toNat=125
      ·rw [if_pos hd] at h ⊢
       obtain ⟨h1,h2⟩:=ih _ _ (i'+2) _ _ _ _ f' hf h
       exact ⟨by simp only [List.length_cons];omega,h2⟩
      ·rw [if_neg hd] at h ⊢
       by_cases h10:d.toNat=110
       ·rw [if_pos h10] at h ⊢
        obtain ⟨h1,h2⟩:=ih _ _ (i'+2) _ _ _ _ f' hf h
        exact ⟨by simp only [List.length_cons];omega,h2⟩
       ·rw [if_neg h10] at h;cases h
    ·rw [if_neg h92] at h ⊢
     split at h
     ·cases h
     ·rename_i hm
      have hu:zI (c::r)≠0:=fun h0=>hm h0
      have hl:=Qm (c::r)
      have hua:=UY (c::r) y hu
      rw [List.cons_append] at hua
      rw [hua]
      split
      ·rename_i h0;exact absurd h0 hu
      ·obtain ⟨h1,j',h2⟩:=ih _ _ (i'+zI (c::r)) _ _ _ _ f' hf h
       refine ⟨by simp only [List.length_drop] at h1;omega,j',?_⟩
       rw [←List.cons_append,List.drop_append_of_le_length hl,List.take_append_of_le_length hl]
       exact h2
theorem NV:∀(m l y:B),(9:UInt8) ∉ m→m.isPrefixOf (l++9::y)=m.isPrefixOf l:=by
 intro m
 induction m with
 |nil=>intro l y _;cases l<;>rfl
 |cons c m ih =>
  intro l y h
  cases l with
  |nil =>
   have:(c==9)=false:=by simp;exact fun h9=>h (h9▸List.mem_cons_self)
   simp [List.isPrefixOf,this]
  |cons d l =>
   have:=ih l y fun h9=>h (List.mem_cons_of_mem _ h9)
   simp only [List.cons_append,List.isPrefixOf,this]
theorem GI:∀m ∈ signs,(9:UInt8) ∉ m∧1≤m.length:=fun m hm=>by
 have:signs.all (fun m=>!m.contains 9&&decide (1≤m.length))=true:=by decide
 have:=List.all_eq_true.1 this m hm
 simp only [Bool.and_eq_true,decide_eq_true_eq,Bool.not_eq_true'] at this
 exact ⟨fun h=>by have h2:=this.1;simp at h2;exact h2 h,this.2⟩
theorem FT {c:UInt8} {r q:B} {k:Tk} {i j:Nat} (h:ZG (c::r) i=(k,q,j)) (hk:∀e p,k≠.bad e p):q.length≤r.length∧k≠.fin∧(∀i',∃j',ZG (c::r) i'=(k,q,j'))∧∀y i',∃j',ZG (c::(r++9::y)) i'=(k,q++9::y,j'):=by
 unfold ZG at h ⊢
 dsimp only at h ⊢
 by_cases h39:c.toNat=39
 ·rw [if_pos h39] at h
  split at h
  ·cases h;exact absurd rfl (hk _ _)
  ·rename_i out q' k' ho
   split at h
   ·cases h;exact absurd rfl (hk _ _)
   ·rename_i hlen
    cases h
    refine ⟨(Ye [] _ _ _ 0 _ _ _ _ _ (Nat.le_refl _) ho).1,by simp,fun i'=>?_,fun y i'=>?_⟩
    ·obtain ⟨_,j',h2⟩:=Ye [] _ _ _ (i'+1) _ _ _ _ _ (Nat.le_refl _) ho
     rw [List.append_nil,List.append_nil] at h2
     refine ⟨j',?_⟩
     rw [if_pos h39,h2]
     dsimp only
     rw [if_neg hlen]
    ·obtain ⟨_,j',h2⟩:=Ye (9::y) _ _ _ (i'+1) _ _ _ _ ((r++9::y).length+1) (by simp) ho
     refine ⟨j',?_⟩
     rw [if_pos h39,h2]
     dsimp only
     rw [if_neg hlen]
 ·rw [if_neg h39] at h
  by_cases hd:dig c=true
  ·rw [if_pos hd] at h
   by_cases h48:c.toNat=48
   ·rw [if_pos h48] at h
    cases h
    exact ⟨Nat.le_refl _,by simp,fun i'=>⟨_,by rw [if_neg h39,if_pos hd,if_pos h48]⟩,fun y i'=>⟨_,by rw [if_neg h39,if_pos hd,if_pos h48]⟩⟩
   ·rw [if_neg h48] at h
    split at h
    ·rename_i hm
     cases h
     have ht:=Zh (p:=dig) r
     refine ⟨by omega,by simp,fun i'=>⟨_,by rw [if_neg h39,if_pos hd,if_neg h48,if_pos hm]⟩,fun y i'=>?_⟩
     obtain ⟨t1,t2⟩:=BL (p:=dig) (by decide) r y
     exact ⟨_,by rw [if_neg h39,if_pos hd,if_neg h48,t1,t2,if_pos hm]⟩
    ·cases h;exact absurd rfl (hk _ _)
  ·rw [if_neg hd] at h
   by_cases hs:sml c=true
   ·rw [if_pos hs] at h
    split at h
    ·cases h;exact absurd rfl (hk _ _)
    ·rename_i hm
     cases h
     have ht:=Zh (p:=nam) r
     refine ⟨by omega,by simp,fun i'=>⟨_,by rw [if_neg h39,if_neg hd,if_pos hs,if_neg hm]⟩,fun y i'=>?_⟩
     obtain ⟨t1,t2⟩:=BL (p:=nam) (by decide) r y
     exact ⟨_,by rw [if_neg h39,if_neg hd,if_pos hs,t1,t2,if_neg hm]⟩
   ·rw [if_neg hs] at h
    split at h
    ·rename_i m hf
     cases h
     have hm:=List.mem_of_find?_eq_some hf
     have hp:=List.find?_some hf
     have hle:m.length≤(c::r).length:=(List.isPrefixOf_iff_prefix.1 hp).length_le
     have h1:=(GI m hm).2
     refine ⟨by simp only [List.length_drop,List.length_cons];omega,by simp,fun i'=>⟨_,by rw [if_neg h39,if_neg hd,if_neg hs]⟩,fun y i'=>?_⟩
     have hf2:signs.find? (fun s=>s.isPrefixOf (c::(r++9::y)))=some m:=by
      rw [←hf]
      have:∀q:List B,(∀m ∈ q,(9:UInt8) ∉ m)→q.find? (fun s=>s.isPrefixOf (c::(r++9::y)))=q.find? (fun s=>s.isPrefixOf (c::r)):=by
       intro q
       induction q with
       |nil=>intro _;rfl
       |cons m q ih =>
        intro hq
        rw [List.find?_cons,List.find?_cons,←List.cons_append,NV m (c::r) y (hq m List.mem_cons_self),List.cons_append,ih fun m hm=>hq m (List.mem_cons_of_mem _ hm)]
      exact this signs fun m hm=>(GI m hm).1
     refine ⟨i'+m.length,?_⟩
     rw [if_neg h39,if_neg hd,if_neg hs,hf2]
     dsimp only
     rw [←List.cons_append,List.drop_append_of_le_length hle]
    ·cases h;exact absurd rfl (hk _ _)
theorem Lx.more {s:B} {ks:List Tk} (h:Lx s ks) {y:B} {ky:List Tk} (hy:Lx (9::y) ky):Lx (s++9::y) (ks++ky):=by
 induction h with
 |fin=>exact hy
 |blank c r ks hc _ ih=>exact .blank _ _ _ hc ih
 |tok c r q k ks hc hk hl hq _ ih =>
  obtain ⟨j,hj⟩:=hl 0
  obtain ⟨_,_,_,h4⟩:=FT hj hk
  exact .tok c _ (q++9::y) k _ hc hk (h4 y) (by simp;omega) ih
def Suf (ts:List T) (R:Res):Prop:=∀e u,R=ok e u→∃p,ts=p++u
section
variable {ts:List T}
theorem Suf.ok {e:Ex} {us:List T} (h:∃p,ts=p++us):Suf ts (X.ok e us):=fun _ _ hu=>by cases hu;exact h
theorem Suf.err {f:F}:Suf ts (some (.error f)):=fun _ _ h=>by cases h
theorem Suf.none:Suf ts none:=fun _ _ h=>by cases h
theorem Suf.andThen {R:Res} {K:Ex→List T→Res} (h:Suf ts R) (hK:∀e us,Suf us (K e us)):Suf ts (X.andThen R K):=by
 match R,h with
 |some (.ok (e,v)),h =>
  intro e' u hu
  obtain ⟨p,rfl⟩:=h e v rfl
  obtain ⟨q,rfl⟩:=hK e v e' u hu
  exact ⟨p++q,by simp⟩
 |some (.error f),_=>exact .err
 |Option.none,_=>exact .none
theorem Suf.adv {K:List T→Res} (hK:∀us,Suf us (K us)):Suf ts (X.adv ts K):=by
 unfold X.adv
 match ts with
 |[]=>exact .err
 |[_]=>exact .err
 |t::u::r =>
  dsimp only
  split
  ·exact .err
  ·intro e v hv
   obtain ⟨q,hq⟩:=hK _ e v hv
   exact ⟨t::q,by rw [hq];rfl⟩
theorem Suf.want {s:B} {K:List T→Res} (hK:∀us,Suf us (K us)):Suf ts (X.want s ts K):=by
 unfold X.want
 split
 ·exact .adv hK
 ·exact .err
theorem Suf.ite {c:Prop} [Decidable c] {a b:Res} (h1:Suf ts a) (h2:Suf ts b):Suf ts (if c then a else b):=by split<;>assumption
end
end Go.Abs.X
namespace Go.Abs.X
theorem Ic (s:B):(esc s).length≤2*s.length:=by
 induction s with
 |nil=>exact Nat.le_refl _
 |cons c s ih =>
  rw [XV,List.length_append,List.length_cons]
  have:(if c.toNat=39∨c.toNat=92∨c.toNat=125 then [92,c] else if c.toNat=10 then [92,110] else [c]:B).length≤2:=by
   split
   ·simp
   ·split<;>simp
  omega
theorem Dm {s:B} (h:Ju s=true):(quoted s).length≤8194:=by
 have h1:=Ic s
 have h2:s.length≤4096:=by simp only [Ju,XG,Bool.and_eq_true,decide_eq_true_eq] at h;exact h.1.2
 show ([39]++esc s++[39]).length≤_
 simp;omega
theorem Ml:∀f n,(qM f n).length≤f:=by
 intro f
 induction f with
 |zero=>intro n;simp [qM]
 |succ f ih =>
  intro n
  simp only [qM]
  split
  ·simp
  ·have:=ih (n / 10);simp;omega
theorem Yf {s:B} (h:qf s=true):s.length≤32:=by
 cases s with
 |nil=>simp
 |cons c r=>simp only [qf,Bool.and_eq_true,decide_eq_true_eq] at h;exact h.2
theorem Kb:∀m ∈ signs,m.length≤2:=by decide
theorem HU:∀(m:Nat) (e:Ex),e.size≤m→Ex.fine e=true→∀L,(put e L).length≤8400*e.size:=by
 intro m
 induction m with
 |zero=>intro e he;have:=XZ e;omega
 |succ m ih =>
  intro e he hall L
  match e with
  | .mk op n s ks =>
   rw [Zd,Bool.and_eq_true,Bool.and_eq_true] at hall
   obtain ⟨⟨hal,hmax⟩,hks⟩:=hall
   have hk:zZ op=(ks.length:Int):=by simp only [qo,Bool.and_eq_true,beq_iff_eq] at hal;exact hal.1
   rw [jp] at he
   have hsz:∀(l:List Ex),Ex.sizes l≤m→Ex.fines l=true→∀x ∈ l,x.size≤m∧Ex.fine x=true:=by
    intro l
    induction l with
    |nil=>intro _ _ x hx;cases hx
    |cons y r ih =>
     intro h hf x hx
     rw [qh] at h
     rw [qT,Bool.and_eq_true] at hf
     rcases List.mem_cons.1 hx with rfl | hx
     ·exact ⟨by omega,hf.1⟩
     ·exact ih (by omega) hf.2 x hx
   have hA:∀x ∈ ks,∀L,(put x L).length≤8400*x.size:=fun x hx=>ih x (hsz ks (by omega) hks x hx).1 (hsz ks (by omega) hks x hx).2
   have key:(body op n s (puts ks)).length≤8300+8400*Ex.sizes ks:=by
    rcases Xh hk with ⟨⟨mm,l⟩,hb,h2⟩ | ⟨hb,h⟩
    ·obtain ⟨a,b,rfl⟩:=FN h2
     have ha:=hA a (by simp) l
     have hb':=hA b (by simp) (l+1)
     have e1:body op n s (puts [a,b])=put a l++([32]++mm++[32])++put b (l+1):=by unfold body;rw [hb];rfl
     have:=Kb _ (Wq _ (YG hb))
     rw [e1]
     simp only [List.length_append,List.length_cons,List.length_nil,qh,qp] at this ⊢
     omega
    ·rcases h with ⟨rfl,h2⟩ | ⟨rfl,h2⟩ | ⟨rfl,h2⟩ | ⟨rfl,h2⟩ | ⟨rfl,h2⟩ | ⟨rfl,h2⟩ | ⟨rfl,h2⟩ | ⟨rfl,h2⟩ | ⟨rfl,h2⟩ | ⟨rfl,h2⟩ | ⟨rfl,h2⟩ | ⟨rfl,h2⟩
     ·obtain ⟨a,b,c,rfl⟩:=zaB h2
      have ha:=hA a (by simp) 1
      have hb:=hA b (by simp) 0
      have hc:=hA c (by simp) 0
      show (put a 1++[32,63,32]++put b 0++[32,58,32]++put c 0).length≤_
      simp only [List.length_append,List.length_cons,List.length_nil,qh,qp]
      omega
     ·obtain ⟨a,rfl⟩:=List.length_eq_one_iff.1 h2
      have ha:=hA a (by simp) 12
      show ([45]++put a 12).length≤_
      simp only [List.length_append,List.length_cons,List.length_nil,qh,qp]
      omega
     ·obtain ⟨a,rfl⟩:=List.length_eq_one_iff.1 h2
      have ha:=hA a (by simp) 12
      show ([33]++put a 12).length≤_
      simp only [List.length_append,List.length_cons,List.length_nil,qh,qp]
      omega
     ·obtain ⟨a,rfl⟩:=List.length_eq_one_iff.1 h2
      have ha:=hA a (by simp) 13
      have hn:qf s=true:=by simp [qo] at hal;exact hal.2.2
      have:=Yf hn
      show (put a 13++([46]++s)).length≤_
      simp only [List.length_append,List.length_cons,List.length_nil,qh,qp]
      omega
     ·obtain ⟨a,b,rfl⟩:=FN h2
      have ha:=hA a (by simp) 13
      have hb:=hA b (by simp) 0
      show (put a 13++[91]++put b 0++[93]).length≤_
      simp only [List.length_append,List.length_cons,List.length_nil,qh,qp]
      omega
     ·obtain ⟨a,rfl⟩:=List.length_eq_one_iff.1 h2
      have ha:=hA a (by simp) 0
      have hn:(1≤n∧n≤8)∧s=[]:=by simp [qo] at hal;exact hal.2
      obtain ⟨_,_,hcn,_⟩:=WL hn.1.1 hn.1.2
      have:=Yf hcn
      show ((calls.getD (n.toNat - 1) []++[40])++put a 0++[41]).length≤_
      simp only [List.length_append,List.length_cons,List.length_nil,qh,qp]
      omega
     ·have:=Ml 20 n.toNat
      show (qM 20 n.toNat).length≤_
      omega
     ·have hn:Ju s=true:=by simp [qo] at hal;exact hal.2.2
      have:=Dm hn
      show (quoted s).length≤_
      omega
     ·have hn:qf s=true:=by simp [qo] at hal;exact hal.2.1.2
      have:=Yf hn
      show s.length≤_
      omega
     ·show (4:Nat)≤_;omega
     ·show (5:Nat)≤_;omega
     ·show (4:Nat)≤_;omega
   rw [jp]
   simp only [put]
   split
   ·simp only [List.length_append,List.length_cons,List.length_nil];omega
   ·omega
end Go.Abs.X
namespace Go.Abs
open Go Go.Proofs Go.IntWalk Go.Abs.X
theorem dcd {a b:Prop} [Decidable a] [Decidable b] (h:a↔b):decide a=decide b:=by rw [decide_eq_decide];exact h
def Xw (s:B) (j:Nat):Bool:=match s[j]? with | some d=>tl d | none=>false
theorem BW (st:St) (s:B) (j:Nat) (hl:s.length<1000000000000):cw 114 [.str s,.int .i64 (j:Int)] st=some (.ret (.bool (Xw s j)),st):=by
 refine zbO s _ st ?_
 unfold Xw
 by_cases h:j<s.length
 ·have hs:s[j]?=some s[j]:=List.getElem?_eq_getElem h
  rw [decide_eq_true (by omega),cond_true,HM (by omega)]
  simp only [Int.toNat_natCast,bind_some,hs,map_some,zk]
  generalize s[j]=d
  unfold tl
  by_cases h1:128≤d.toNat
  ·rw [decide_eq_true (show ((d.toNat:Int))≥128 by omega),cond_true,zx,decide_eq_true h1,Bool.true_and]
   rw [dcd (show ((d.toNat:Int))<192↔d.toNat<192 by omega)]
  ·rw [decide_eq_false (show ¬((d.toNat:Int))≥128 by omega),cond_false,zx,decide_eq_false h1,Bool.false_and]
 ·have hs:s[j]?=none:=List.getElem?_eq_none (by omega)
  rw [decide_eq_false (by omega),cond_false,hs,zx]
theorem EW {s:B} {i:Nat} {r:B} (h:s.drop i=r) (j:Nat):Xw s (i+j)=Xw r j:=by
 unfold Xw;rw [←h,List.getElem?_drop]
theorem LS {s:B} {i:Nat} {r:B} (h:s.drop i=r) (j:Nat):s[i+j]?=r[j]?:=by rw [←h,List.getElem?_drop]
set_option maxHeartbeats 4000000 in
theorem NP (st:St) (s:B) (hl:s.length<1000000000000) {i:Nat} {c:UInt8} {r:B} (hd:s.drop i=c::r):cw 98 [.str s,.int .i64 (i:Int)] st=some (.ret (.int .i64 (zI (c::r):Int)),st):=by
 have hi:i<s.length:=by
  have:=congrArg List.length hd
  simp only [List.length_drop,List.length_cons] at this;omega
 have key:=fun R=>@F98 s (i:Int) st R
 have e1:IntKind.i64.wrap ((i:Int)+1)=((i+1:Nat):Int):=e1i (by omega)
 have e2:IntKind.i64.wrap ((i:Int)+2)=((i+2:Nat):Int):=by rw [i64_in _ (by omega)];rfl
 have e3:IntKind.i64.wrap ((i:Int)+3)=((i+3:Nat):Int):=by rw [i64_in _ (by omega)];rfl
 have g0:s[i]?=some c:=by have:=LS hd 0;simpa using this
 simp only [e1,e2,e3,BW _ _ _ hl,zi,zp,bind_some,zO,g0,map_some,zk,EW hd,LS hd,zx] at key
 refine key _ ?_
 clear key e1 e2 e3 g0 hd
 have q0:decide ((c.toNat:Int)<128)=decide (c.toNat<128):=dcd (by omega)
 have q1:decide ((c.toNat:Int)≥194)=decide (194≤c.toNat):=dcd (by omega)
 have q2:decide ((c.toNat:Int)<224)=decide (c.toNat<224):=dcd (by omega)
 have q3:decide ((c.toNat:Int)≥224)=decide (224≤c.toNat):=dcd (by omega)
 have q4:decide ((c.toNat:Int)<240)=decide (c.toNat<240):=dcd (by omega)
 have q5:((c.toNat:Int)==224)=(c.toNat==224):=by rw [Bool.eq_iff_iff];simp;omega
 have q6:((c.toNat:Int)==237)=(c.toNat==237):=by rw [Bool.eq_iff_iff];simp;omega
 have q7:decide ((c.toNat:Int)≥240)=decide (240≤c.toNat):=dcd (by omega)
 have q8:decide ((c.toNat:Int)<245)=decide (c.toNat<245):=dcd (by omega)
 have q9:((c.toNat:Int)==240)=(c.toNat==240):=by rw [Bool.eq_iff_iff];simp;omega
 have q10:((c.toNat:Int)==244)=(c.toNat==244):=by rw [Bool.eq_iff_iff];simp;omega
 match r with
 |[] =>
  have t1:Xw [c] 1=false:=rfl
  have hu:zI [c]=bif decide (c.toNat<128) then 1 else 0:=by
   simp only [zI];by_cases h:c.toNat<128<;>simp [h]
  rw [hu]
  simp only [t1,cond_false,q0,q1,q2,q3,q4,q7,q8]
  generalize decide (c.toNat<128)=b0,decide (194≤c.toNat)=b1,decide (c.toNat<224)=b2,decide (224≤c.toNat)=b3,decide (c.toNat<240)=b4,decide (240≤c.toNat)=b7,decide (c.toNat<245)=b8
  all_goals (cases b0<;>try rfl)
  all_goals (cases b1<;>try rfl)
  all_goals (cases b2<;>try rfl)
  all_goals (cases b3<;>try rfl)
  all_goals (cases b4<;>try rfl)
  all_goals (cases b7<;>try rfl)
  all_goals (cases b8<;>try rfl)
 |[d] =>
  have t1:Xw [c,d] 1=tl d:=rfl
  have t2:Xw [c,d] 2=false:=rfl
  have hu:zI [c,d]=bif decide (c.toNat<128) then 1 else bif decide (194≤c.toNat)&&decide (c.toNat<224)&&tl d then 2 else 0:=by
   simp only [zI];by_cases h:c.toNat<128
   ·simp [h]
   ·rw [if_neg h,decide_eq_false h,cond_false];cases (decide (194≤c.toNat)&&decide (c.toNat<224)&&tl d)<;>rfl
  rw [hu]
  simp only [t1,t2,cond_false,q0,q1,q2,q3,q4,q7,q8]
  generalize decide (c.toNat<128)=b0,decide (194≤c.toNat)=b1,decide (c.toNat<224)=b2,decide (224≤c.toNat)=b3,decide (c.toNat<240)=b4,decide (240≤c.toNat)=b7,decide (c.toNat<245)=b8,tl d=t1
  all_goals (cases b0<;>try rfl)
  all_goals (cases b1<;>try rfl)
  all_goals (cases b2<;>try rfl)
  all_goals (cases t1<;>try rfl)
  all_goals (cases b3<;>try rfl)
  all_goals (cases b4<;>try rfl)
  all_goals (cases b7<;>try rfl)
  all_goals (cases b8<;>try rfl)
 |[d,e] =>
  have t1:Xw [c,d,e] 1=tl d:=rfl
  have t2:Xw [c,d,e] 2=tl e:=rfl
  have t3:Xw [c,d,e] 3=false:=rfl
  have m1:decide ((d.toNat:Int)<160)=decide (d.toNat<160):=dcd (by omega)
  have m2:decide ((d.toNat:Int)≥160)=decide (160≤d.toNat):=dcd (by omega)
  have hu:zI [c,d,e]=bif decide (c.toNat<128) then 1 else bif decide (194≤c.toNat)&&decide (c.toNat<224)&&tl d then 2 else bif decide (224≤c.toNat)&&decide (c.toNat<240)&&tl d&&tl e then (bif c.toNat==224&&decide (d.toNat<160)||c.toNat==237&&decide (160≤d.toNat) then 0 else 3) else 0:=by
   simp only [zI];by_cases h:c.toNat<128
   ·simp [h]
   ·rw [if_neg h,decide_eq_false h,cond_false]
    cases (decide (194≤c.toNat)&&decide (c.toNat<224)&&tl d)<;>cases (decide (224≤c.toNat)&&decide (c.toNat<240)&&tl d&&tl e)<;>cases (c.toNat==224&&decide (d.toNat<160)||c.toNat==237&&decide (160≤d.toNat))<;>rfl
  rw [hu]
  simp only [t1,t2,t3,cond_false,q0,q1,q2,q3,q4,q5,q6,q7,q8,List.getElem?_cons_zero,List.getElem?_cons_succ,map_some,bind_some,zk,m1,m2]
  generalize decide (c.toNat<128)=b0,decide (194≤c.toNat)=b1,decide (c.toNat<224)=b2,decide (224≤c.toNat)=b3,decide (c.toNat<240)=b4,decide (240≤c.toNat)=b7,decide (c.toNat<245)=b8,tl d=t1,tl e=t2,(c.toNat==224)=b5,(c.toNat==237)=b6,decide (d.toNat<160)=m1,decide (160≤d.toNat)=m2
  all_goals (cases b0<;>try rfl)
  all_goals (cases b1<;>try rfl)
  all_goals (cases b2<;>try rfl)
  all_goals (cases t1<;>try rfl)
  all_goals (cases b3<;>try rfl)
  all_goals (cases b4<;>try rfl)
  all_goals (cases t2<;>try rfl)
  all_goals (cases b5<;>try rfl)
  all_goals (cases m1<;>try rfl)
  all_goals (cases b6<;>try rfl)
  all_goals (cases m2<;>try rfl)
  all_goals (cases b7<;>try rfl)
  all_goals (cases b8<;>try rfl)
 |d::e::f::r =>
  have t1:Xw (c::d::e::f::r) 1=tl d:=rfl
  have t2:Xw (c::d::e::f::r) 2=tl e:=rfl
  have t3:Xw (c::d::e::f::r) 3=tl f:=rfl
  have m1:decide ((d.toNat:Int)<160)=decide (d.toNat<160):=dcd (by omega)
  have m2:decide ((d.toNat:Int)≥160)=decide (160≤d.toNat):=dcd (by omega)
  have m3:decide ((d.toNat:Int)<144)=decide (d.toNat<144):=dcd (by omega)
  have m4:decide ((d.toNat:Int)≥144)=decide (144≤d.toNat):=dcd (by omega)
  have hu:zI (c::d::e::f::r)=bif decide (c.toNat<128) then 1 else bif decide (194≤c.toNat)&&decide (c.toNat<224)&&tl d then 2 else bif decide (224≤c.toNat)&&decide (c.toNat<240)&&tl d&&tl e then (bif c.toNat==224&&decide (d.toNat<160)||c.toNat==237&&decide (160≤d.toNat) then 0 else 3) else
    bif decide (240≤c.toNat)&&decide (c.toNat<245)&&tl d&&tl e&&tl f then (bif c.toNat==240&&decide (d.toNat<144)||c.toNat==244&&decide (144≤d.toNat) then 0 else 4) else 0:=by
   simp only [zI];by_cases h:c.toNat<128
   ·simp [h]
   ·rw [if_neg h,decide_eq_false h,cond_false]
    cases (decide (194≤c.toNat)&&decide (c.toNat<224)&&tl d)<;>cases (decide (224≤c.toNat)&&decide (c.toNat<240)&&tl d&&tl e)<;>cases (c.toNat==224&&decide (d.toNat<160)||c.toNat==237&&decide (160≤d.toNat))<;>cases (decide (240≤c.toNat)&&decide (c.toNat<245)&&tl d&&tl e&&tl f)<;>cases (c.toNat==240&&decide (d.toNat<144)||c.toNat==244&&decide (144≤d.toNat))<;>rfl
  rw [hu]
  simp only [t1,t2,t3,q0,q1,q2,q3,q4,q5,q6,q7,q8,q9,q10,List.getElem?_cons_zero,List.getElem?_cons_succ,map_some,bind_some,zk,m1,m2,m3,m4]
  generalize decide (c.toNat<128)=b0,decide (194≤c.toNat)=b1,decide (c.toNat<224)=b2,decide (224≤c.toNat)=b3,decide (c.toNat<240)=b4,decide (240≤c.toNat)=b7,decide (c.toNat<245)=b8,tl d=t1,tl e=t2,tl f=t3,(c.toNat==224)=b5,(c.toNat==237)=b6,decide (d.toNat<160)=m1,decide (160≤d.toNat)=m2,(c.toNat==240)=b9,(c.toNat==244)=b10,decide (d.toNat<144)=m3,decide (144≤d.toNat)=m4
  all_goals (cases b0<;>try rfl)
  all_goals (cases b1<;>try rfl)
  all_goals (cases b2<;>try rfl)
  all_goals (cases t1<;>try rfl)
  all_goals (cases b3<;>try rfl)
  all_goals (cases b4<;>try rfl)
  all_goals (cases t2<;>try rfl)
  all_goals (cases b5<;>try rfl)
  all_goals (cases m1<;>try rfl)
  all_goals (cases b6<;>try rfl)
  all_goals (cases m2<;>try rfl)
  all_goals (cases b7<;>try rfl)
  all_goals (cases b8<;>try rfl)
  all_goals (cases t3<;>try rfl)
  all_goals (cases b9<;>try rfl)
  all_goals (cases m3<;>try rfl)
  all_goals (cases b10<;>try rfl)
  all_goals (cases m4<;>try rfl)
end Go.Abs
namespace Go.Abs
open Go Go.Proofs Go.IntWalk Go.Abs.X
theorem Db (st:St) (s:B) (hl:s.length<1000000000000):∀(r:B) (i:Nat),s.drop i=r→i≤s.length →
  aw 120 st.length Jb ⟨[(0,.str s),(1,.int .u8 95),(5,.int .i64 (i:Int))],[]⟩ st=some (.ret (.bool (r.all nam)),st):=by
 intro r
 induction r with
 |nil =>
  intro i hd hi
  have:=jw hd
  refine Cg _ _ _ _ _ ?_
  rw [decide_eq_false (by omega),cond_false,zx];rfl
 |cons c r ih =>
  intro i hd hi
  obtain ⟨g,hd2,hlt⟩:=qa hd
  refine Cg _ _ _ _ _ ?_
  have hrec:=ih (i+1) hd2 (by omega)
  rw [decide_eq_true (by omega),cond_true]
  simp only [zO,bind_some,jH g,e1i (show i<1000000000000 by omega),hrec,zx,Bool.cond_eq_ite,decide_eq_true_eq,bne_iff_ne,List.all_cons]
  have e95:((c.toNat:Int)=95)↔c.toNat=95:=by omega
  repeat' split
  all_goals first
   |(exfalso;omega)
   |rw [show nam c=true from by simp only [nam,dig,sml,Bool.or_eq_true,Bool.and_eq_true,decide_eq_true_eq,beq_iff_eq];omega,Bool.true_and]
   |rw [show nam c=false from by rw [Bool.eq_false_iff];simp only [nam,dig,sml,ne_eq,Bool.or_eq_true,Bool.and_eq_true,decide_eq_true_eq,beq_iff_eq];omega,Bool.false_and]
theorem LN (st:St) (s:B) (hl:s.length<1000000000000):cw 109 [.str s] st=some (.ret (.bool (qf s)),st):=by
 have h1:cw 120 [.str s,.int .u8 95] st=some (.ret (.bool (qf s)),st):=by
  refine zbM _ _ _ ?_
  cases s with
  |nil=>rw [decide_eq_true (by decide),cond_true,zx];rfl
  |cons c r =>
   have hloop:=Db st (c::r) hl r 1 rfl (by simp)
   rw [show ((1:Nat):Int)=1 from rfl] at hloop
   rw [decide_eq_false (show ¬(((c::r).length:Nat):Int)<1 by simp only [List.length_cons];omega),cond_false]
   simp only [List.getElem?_cons_zero,map_some,bind_some,zk,zx,hloop,Bool.cond_eq_ite,decide_eq_true_eq,qf,sml]
   repeat' split
   all_goals first
    |rw [decide_eq_false (show ¬(c::r).length≤32 by omega),Bool.and_false]
    |rw [decide_eq_false (show ¬97≤c.toNat by omega),Bool.false_and,Bool.false_and,Bool.false_and]
    |rw [decide_eq_false (show ¬c.toNat≤122 by omega),Bool.and_false,Bool.false_and,Bool.false_and]
    |rw [decide_eq_true (show (c::r).length≤32 by omega),decide_eq_true (show 97≤c.toNat by omega),decide_eq_true (show c.toNat≤122 by omega),Bool.and_true,Bool.and_true,Bool.true_and]
 refine zbR _ _ ?_
 simp only [h1,zi,zp,bind_some,zx]
theorem MA (st:St) (s:B) (hl:s.length<1000000000):∀(n i:Nat),s.length≤i+n→i≤s.length →
  ∃a:Int,aw 119 st.length Lp ⟨[(0,.str s),(4,.int .i64 (i:Int))],[]⟩ st=some (.ret (.tup [.int .i64 a,.int .i64 (if qI n (s.drop i) then 0 else 300)]),st):=by
 intro n
 induction n with
 |zero =>
  intro i h1 h2
  refine ⟨0,KK _ _ _ _ ?_⟩
  have:s.drop i=[]:=List.drop_of_length_le (by omega)
  rw [decide_eq_false (by omega),cond_false,zx,this];rfl
 |succ n ih =>
  intro i h1 h2
  by_cases hp:i<s.length
  ·have hd:s.drop i=s[i]::s.drop (i+1):=List.drop_eq_getElem_cons hp
   have hne:s.drop i≠[]:=by rw [hd];exact List.cons_ne_nil _ _
   have hv:=qZ n (s.drop i) hne
   have hlen:=NP st s (by omega) hd
   rw [←hd] at hlen
   have hle:=Qm (s.drop i)
   rw [List.length_drop] at hle
   by_cases h0:zI (s.drop i)=0
   ·refine ⟨i,KK _ _ _ _ ?_⟩
    rw [decide_eq_true (by omega),cond_true,hlen,zi,zk,bind_some,h0]
    rw [show (((0:Nat):Int)==0)=true from rfl,cond_true,zx,hv,h0];rfl
   ·obtain ⟨a,ha⟩:=ih (i+zI (s.drop i)) (by omega) (by omega)
    refine ⟨a,KK _ _ _ _ ?_⟩
    rw [decide_eq_true (by omega),cond_true,hlen,zi,zk,bind_some]
    rw [show ((zI (s.drop i):Int)==0)=false from by rw [beq_eq_false_iff_ne];omega,cond_false]
    rw [show IntKind.i64.wrap ((i:Int)+(zI (s.drop i):Int))=((i+zI (s.drop i):Nat):Int) from by rw [i64_in _ (by omega)];omega,ha,hv,if_neg h0,List.drop_drop]
  ·refine ⟨0,KK _ _ _ _ ?_⟩
   have:s.drop i=[]:=List.drop_of_length_le (by omega)
   rw [decide_eq_false (by omega),cond_false,zx,this];rfl
theorem Cb (st:St) (s:B) (hl:s.length<1000000000):cw 106 [.str s] st=some (.ret (.bool (XG s)),st):=by
 refine zbH _ _ ?_
 obtain ⟨a,ha⟩:=MA st s hl s.length 0 (by omega) (by omega)
 have hv:cw 119 [.str s] st=some (.ret (.tup [.int .i64 a,.int .i64 (if qI s.length s then 0 else 300)]),st):=zbA _ _ ha
 unfold XG
 by_cases h:(s.length:Int)>4096
 ·rw [decide_eq_true h,cond_true,zx,decide_eq_false (show ¬s.length≤4096 by omega),Bool.and_false]
 ·rw [decide_eq_false h,cond_false,hv,zi]
  simp only [zT,List.getElem?_cons_zero,List.getElem?_cons_succ,bind_some,zk,zx]
  rw [decide_eq_true (show s.length≤4096 by omega),Bool.and_true]
  cases qI s.length s<;>rfl
theorem KD (st:St) (s:B) (hl:s.length<1000000000000):∀(r:B) (i:Nat),s.drop i=r→i≤s.length →
  aw 107 st.length Uj ⟨[(0,.str s),(3,.int .i64 (i:Int))],[]⟩ st=some (.ret (.bool (r.all fun c=>decide (32≤c.toNat)||c.toNat==10)),st):=by
 intro r
 induction r with
 |nil =>
  intro i hd hi
  have:=jw hd
  refine BU _ _ _ _ ?_
  rw [decide_eq_false (by omega),cond_false,zx];rfl
 |cons c r ih =>
  intro i hd hi
  obtain ⟨g,hd2,hlt⟩:=qa hd
  refine BU _ _ _ _ ?_
  have hrec:=ih (i+1) hd2 (by omega)
  rw [decide_eq_true (by omega),cond_true]
  simp only [zO,bind_some,jH g,e1i (show i<1000000000000 by omega),hrec,zx,Bool.cond_eq_ite,decide_eq_true_eq,bne_iff_ne,List.all_cons]
  repeat' split
  all_goals first
   |rw [show (decide (32≤c.toNat)||c.toNat==10)=true from by simp only [Bool.or_eq_true,decide_eq_true_eq,beq_iff_eq];omega,Bool.true_and]
   |rw [show (decide (32≤c.toNat)||c.toNat==10)=false from by rw [Bool.eq_false_iff];simp only [ne_eq,Bool.or_eq_true,decide_eq_true_eq,beq_iff_eq];omega,Bool.false_and]
theorem NU (st:St) (s:B) (hl:s.length<1000000000000):cw 107 [.str s] st=some (.ret (.bool (s.all fun c=>decide (32≤c.toNat)||c.toNat==10)),st) :=
 zbF _ _ (KD st s hl s 0 rfl (by omega))
theorem LU (st:St) (s:B) (hl:s.length<1000000000000):cw 108 [.str s] st=some (.ret (.bool (qf s&&qy s==0)),st):=by
 refine zbG _ _ ?_
 rw [LN st s hl,zi,zp,bind_some]
 cases qf s with
 |false=>rw [cond_false,zx];rfl
 |true =>
  rw [cond_true]
  simp only [zQ,bind_some,zp,zx,Bool.cond_eq_ite,Bool.true_and]
  unfold qy
  by_cases h1:s=[110,117,108,108]
  ·subst h1;rfl
  ·by_cases h2:s=[102,97,108,115,101]
   ·subst h2;rfl
   ·by_cases h3:s=[116,114,117,101]
    ·subst h3;rfl
    ·simp [h1,h2,h3]
theorem CW (st:St) (op:Int) (h:1≤op∧op≤31):cw 105 [.int .i64 op] st=some (.ret (.int .i64 (zZ op)),st):=by
 refine zbQ _ _ ?_
 simp only [zx,Bool.cond_eq_ite,decide_eq_true_eq,beq_iff_eq]
 unfold zZ
 repeat' split
 all_goals first | rfl | omega
end Go.Abs
namespace Go.Abs
open Go Go.Proofs Go.IntWalk Go.Abs.X
def Xf:List (List Int):=[[30],[29],[27,28],[23,24,25,26],[22],[21],[20],[18,19],[17],[15,16],[12,13,14]]
def opR (l:List Int):AV:=.sl 1 (l.map fun x=>[.int .i64 x]) 0 l.length .no
def Dw:AV:=.sl 1 (Xf.map fun l=>[opR l]) 0 11 .exact
theorem ND (l:List Int):Sl 1 (opR l) (l.map fun x=>[.int .i64 x]):=by
 have:=@Sl.mk 1 (l.map fun x=>[AV.int .i64 x]) .no
 rw [List.length_map] at this;exact this
theorem VD:Sl 1 Dw (Xf.map fun l=>[opR l]):=Sl.mk
def FX (op:Int):Int:=if op=31 then 0 else if op=10 then 12 else if op=11 then 12 else if op=7 then 13 else if op=8 then 13 else if (1≤op∧op≤6)∨op=9 then 14 else -1
def EP (op:Int):List (List Int)→Nat→Int
 |[],_=>FX op
 |l::r,i=>if op ∈ l then ((i+1:Nat):Int) else EP op r (i+1)
def ZL (op:Int):Int:=EP op Xf 0
theorem Is (st:St) (op:Int) (i:Nat) (l:List Int) (hi:Xf[i]?=some l) (hib:i<100) (hll:l.length<100) {X:zd×St} (hX:aw 61 st.length Mz ⟨[(0,.int .i64 op),(3,Dw),(4,.int .i64 ((i+1:Nat):Int))],[]⟩ st=some X) :
  ∀(r:List Int) (k:Nat),l.drop k=r→k≤l.length→aw 61 st.length DO ⟨[(0,.int .i64 op),(3,Dw),(4,.int .i64 (i:Int)),(5,.int .i64 (k:Int))],[]⟩ st
   = some (if op ∈ r then (.ret (.int .i64 ((i+1:Nat):Int)),st) else X):=by
 have hrow:(Xf.map fun l=>[opR l])[i]?=some [opR l]:=by rw [List.getElem?_map,hi];rfl
 intro r
 induction r with
 |nil =>
  intro k hd hk
  have hkl:l.length≤k:=by have:=congrArg List.length hd;simp at this;omega
  refine IU _ _ _ _ _ _ ?_
  simp only [bind_some,VD.rd.cell hrow rfl,(ND l).len,zk,List.length_map,e1i (show i<1000000000000 by omega)]
  rw [decide_eq_false (by omega),cond_false,if_neg (by simp),hX]
 |cons a r ih =>
  intro k hd hk
  have hkl:k<l.length:=by have:=congrArg List.length hd;simp at this;omega
  have ha:(l.map fun x=>[AV.int .i64 x])[k]?=some [.int .i64 a]:=by
   have:l[k]?=some a:=by have:=congrArg (·[0]?) hd;simpa using this
   rw [List.getElem?_map,this];rfl
  have hd2:l.drop (k+1)=r:=by rw [←List.drop_drop,hd];rfl
  refine IU _ _ _ _ _ _ ?_
  simp only [bind_some,VD.rd.cell hrow rfl,(ND l).len,(ND l).rd.cell ha rfl,zk,List.length_map,e1i (show i<1000000000000 by omega),e1i (show k<1000000000000 by omega),ih (k+1) hd2 (by omega),zx]
  rw [decide_eq_true (by omega),cond_true]
  by_cases h:a=op
  ·rw [beq_iff_eq.2 h,cond_true,if_pos (by rw [h];exact List.mem_cons_self)]
  ·rw [beq_eq_false_iff_ne.2 h,cond_false]
   by_cases hr:op ∈ r
   ·rw [if_pos hr,if_pos (List.mem_cons_of_mem _ hr)]
   ·rw [if_neg hr,if_neg (by rw [List.mem_cons];exact fun h1=>h1.elim (fun h1=>h h1.symm) hr)]
theorem BG:∀l ∈ Xf,l.length<100:=by decide
theorem BM (st:St) (op:Int):∀(r:List (List Int)) (i:Nat),Xf.drop i=r→i≤11 →
  aw 61 st.length Mz ⟨[(0,.int .i64 op),(3,Dw),(4,.int .i64 (i:Int))],[]⟩ st=some (.ret (.int .i64 (EP op r i)),st):=by
 intro r
 induction r with
 |nil =>
  intro i hd hi
  have hil:11≤i:=by have:=congrArg List.length hd;simp only [List.length_drop,List.length_nil,show Xf.length=11 from rfl] at this;omega
  refine IR _ _ _ _ _ ?_
  simp only [VD.len,bind_some,zk,zx,List.length_map,show Xf.length=11 from rfl]
  rw [decide_eq_false (by omega),cond_false]
  simp only [Bool.cond_eq_ite,decide_eq_true_eq,beq_iff_eq,EP,FX]
  repeat' split
  all_goals first | rfl | omega
 |cons l r ih =>
  intro i hd hi
  have hil:i<11:=by have:=congrArg List.length hd;simp only [List.length_drop,List.length_cons,show Xf.length=11 from rfl] at this;omega
  have hl:Xf[i]?=some l:=by have:=congrArg (·[0]?) hd;simpa using this
  have hd2:Xf.drop (i+1)=r:=by rw [←List.drop_drop,hd];rfl
  refine IR _ _ _ _ _ ?_
  have hin:=Is st op i l hl (by omega) (BG l (List.mem_of_getElem? hl)) (ih (i+1) hd2 (by omega)) l 0 rfl (Nat.zero_le _)
  rw [show ((0:Nat):Int)=0 from rfl] at hin
  simp only [VD.len,bind_some,zk,List.length_map,show Xf.length=11 from rfl]
  rw [decide_eq_true (by omega),cond_true,hin,EP]
  by_cases h:op ∈ l
  ·rw [if_pos h,if_pos h]
  ·rw [if_neg h,if_neg h]
theorem WM (st:St) (op:Int):cw 61 [.int .i64 op] st=some (.ret (.int .i64 (ZL op)),st):=by
 have h1:cw 62 [] st=some (.ret Dw,st):=F62 _ (zx _ _)
 refine F61 _ _ ?_
 rw [h1,zi]
 exact BM st op Xf 0 rfl (by omega)
theorem Bl:∀k:Fin 32,1≤k.val→(match qR (k.val:Int) with | some x=>decide (ZL (k.val:Int)=(x.2:Int)∧1≤x.2∧x.2≤11) | none=>decide (ZL (k.val:Int)=FX (k.val:Int)∧(ZL (k.val:Int)=0∨12≤ZL (k.val:Int))))=true:=by decide +kernel
theorem Mw {op:Int} (h:¬(1≤op∧op≤31)):ZL op = -1:=by
 unfold ZL
 simp only [Xf,EP,List.mem_cons,List.not_mem_nil,or_false,FX]
 repeat (rw [if_neg (by omega)])
theorem KL {op:Int} (h:1≤op∧op≤31):(match qR op with | some x=>ZL op=(x.2:Int)∧1≤x.2∧x.2≤11 | none=>ZL op=FX op∧(ZL op=0∨12≤ZL op)):=by
 have:=Bl ⟨op.toNat,by omega⟩ (by show 1≤op.toNat;omega)
 have e:((op.toNat:Nat):Int)=op:=by omega
 simp only [e] at this
 split at this<;>exact of_decide_eq_true this
theorem Ca {op:Int}:0≤ZL op↔(1≤op∧op≤31):=by
 by_cases h:1≤op∧op≤31
 ·have:=KL h
  refine ⟨fun _=>h,fun _=>?_⟩
  split at this<;>omega
 ·rw [Mw h];exact ⟨fun h=>by omega,fun h1=>absurd h1 h⟩
end Go.Abs
namespace Go.Abs
open Go Go.Proofs Go.IntWalk Go.Abs.X
abbrev S1e (cs:List AV) (st:St):St:=.free 0::XB cs::st
theorem S1e.get (cs:List AV) (st:St):(S1e cs st).get st.length=some (XB cs):=Zv rfl
theorem S1e.cl {cs:List AV} {st:St} (hst:Cl st) {e:Ex} (he:ExR e cs):Cl (S1e cs st):=(hst.cons (x:=XB cs) (by simp [zh.closed,he.closeds])).cons rfl
theorem S1e.out {cs:List AV} {st:St} (hst:Cl st) {v:AV} (h1:AV.stripR st.length v=v) (h2:AV.closed st.length v=true):ze false st.length (.ret v) (S1e cs st)=some (.ret v,st):=by
 rw [QO h1 h2 (by rw [St.trunc_cons2];exact hst) (by simp only [List.length_cons];omega),St.trunc_cons2]
theorem YI (S:St) (p:AV):ldA Tryz.prog S 22 p=zf S p 1 false:=by
 have h1:Ji Tryz.prog 22=some false:=by kernel_rfl
 have h2:qv Tryz.prog 22=some 1:=by kernel_rfl
 unfold ldA zf
 rw [h1,h2];rfl
theorem c4 (op n:Int) (s:B) (ka:AV):zq 4 (.agg [.int .i64 op,.int .i64 n,.str s,ka])=some (cs4 op n s ka):=rfl
theorem JJ (op n:Int) (s:B) (ka:AV):zj (cs4 op n s ka) 0 1 false=some (.int .i64 op):=rfl
theorem KA (op n:Int) (s:B) (ka:AV):zj (cs4 op n s ka) 1 1 false=some (.int .i64 n):=rfl
theorem Gt (op n:Int) (s:B) (ka:AV):zj (cs4 op n s ka) 2 1 false=some (.str s):=rfl
theorem QY (op n:Int) (s:B) (ka:AV):zj (cs4 op n s ka) 3 1 false=some ka:=rfl
theorem BN (op n:Int) (s:B) (ka:AV):zj (cs4 op n s ka) 0 4 true=some (.agg (cs4 op n s ka)):=rfl
theorem BI {op n:Int} {s:B} {kids:List Ex} {cs:List AV} (he:ExR (.mk op n s kids) cs) (hsm:jN s kids=true) {st:St} (hst:Cl st) :
  cw 89 [.agg cs] st=some (.ret (.bool (qo op n s kids.length)),st):=by
 have hcl:=S1e.cl hst he
 obtain ⟨ka,rows,rfl,hsl,hfl,hks⟩:=he
 have hsm':s.length<1000000000∧kids.length<1000000000:=by simpa [jN] using hsm
 have hs9:=hsm'.1
 have hs12:s.length<1000000000000:=by omega
 have key:=fun R=>@F89 op n s ka st R
 have hg:=S1e.get (cs4 op n s ka) st
 have ho:∀b,ze false st.length (.ret (.bool b)) (S1e (cs4 op n s ka) st)=some (.ret (.bool b),st):=fun b=>S1e.out hst rfl rfl
 have hr:rows.length=kids.length:=hks.len
 simp only [c4,bind_some] at key
 simp only [show (zh.free 0::zh.box 24 (cs4 op n s ka)::st:St)=S1e (cs4 op n s ka) st from rfl] at key
 generalize hS:S1e (cs4 op n s ka) st=S at key hg ho hcl
 simp only [zn hg,JJ,KA,Gt,QY,bind_some,zk,WM,zi] at key
 by_cases hop:1≤op∧op≤31
 ·rw [decide_eq_false (by have:=Ca.2 hop;omega),cond_false] at key
  simp only [hsl.len,CW _ _ hop,zi,bind_some,zk,ho,hr] at key
  refine key _ ?_
  refine Eq.trans (if_pos ?_) ?_
  ·simp [rkA,List.range.loop,YI,zn hg,QY,AV.beq_refl,Xs hfl]
  ·simp only [zn hg,JJ,KA,Gt,QY,zk,Cb _ _ hs9,NU _ _ hs12,LU _ _ hs12,LN _ _ hs12,zi,zp,zr,bind_some,ho,qr]
   unfold qo
   have hem:s.isEmpty=(s==[]):=by cases s<;>rfl
   rw [hem]
   by_cases hk:zZ op=(kids.length:Int)
   ·rw [show ((kids.length:Int) != zZ op)=false by simp [hk],cond_false,show (zZ op==(kids.length:Int))=true by simp [hk],Bool.true_and]
    simp only [Ju]
    by_cases o4:op=4
    ·by_cases h0:0≤n<;>simp [o4,h0,show (n≥0)=(0≤n) from rfl]
    ·by_cases o5:op=5
     ·cases hn:(n==0)<;>cases hgd:XG s<;>simp [o5,hn,hgd]
     ·by_cases o6:op=6
      ·cases hn:(n==0)<;>cases hgd:qf s<;>simp [o6,hn,hgd]
      ·by_cases o7:op=7
       ·cases hn:(n==0)<;>simp [o7,hn]
       ·by_cases o9:op=9
        ·by_cases h1:1≤n<;>by_cases h8:n≤8<;>simp [o9,h1,h8,show (n≥1)=(1≤n) from rfl]
        ·have b4:=beq_eq_false_iff_ne.2 o4
         have b5:=beq_eq_false_iff_ne.2 o5
         have b6:=beq_eq_false_iff_ne.2 o6
         have b7:=beq_eq_false_iff_ne.2 o7
         have b9:=beq_eq_false_iff_ne.2 o9
         cases hn:(n==0)<;>simp [b4,b5,b6,b7,b9,o4,o5,o6,o7,o9,hn]
   ·rw [show ((kids.length:Int) != zZ op)=true by simp;exact fun h=>hk h.symm,cond_true,show (zZ op==(kids.length:Int))=false by simp [hk],Bool.false_and]
 ·rw [Mw hop,decide_eq_true (by omega),cond_true,ho] at key
  have:qo op n s kids.length=false:=by
   have hk:zZ op = -1:=by unfold zZ;repeat (rw [if_neg (by omega)])
   unfold qo
   rw [hk,show ((-1:Int)==(kids.length:Int))=false by rw [beq_eq_false_iff_ne];omega,Bool.false_and]
  rw [this]
  exact key _ rfl
mutual
def cnt:Ex→Nat→Nat×Bool
 | .mk op n s ks,k=>if 512≤k then (k,false) else if qo op n s ks.length then cnts ks true (k+1) else (k,false)
termination_by structural x=>x
def cnts:List Ex→Bool→Nat→Nat×Bool
 |[],f,k=>(k,f)
 |e::r,f,k=>if f then cnts r (cnt e k).2 (cnt e k).1 else (k,f)
termination_by structural x=>x
end
theorem Xg (es:List Ex) (k:Nat):cnts es false k=(k,false):=by cases es<;>rfl
mutual
theorem NZ (e:Ex) (c:Nat) (hc:c≤512):((cnt e c).2=true↔Ex.all e=true∧c+e.size≤512)∧((cnt e c).2=true→(cnt e c).1=c+e.size)∧(cnt e c).1≤512:=by
 match e with
 | .mk op n s ks =>
  simp only [cnt,Ex.all,Ex.size]
  by_cases h:512≤c
  ·rw [if_pos h]
   exact ⟨⟨(fun h=>by cases h),fun ⟨h1,h2⟩=>by omega⟩,(fun h=>by cases h),hc⟩
  ·rw [if_neg h]
   cases ha:qo op n s ks.length with
   |false =>
    rw [if_neg (by decide)]
    exact ⟨⟨(fun h=>by cases h),fun ⟨h1,h2⟩=>by rw [Bool.false_and] at h1;cases h1⟩,(fun h=>by cases h),hc⟩
   |true =>
    rw [if_pos rfl]
    obtain ⟨h1,h2,h3⟩:=cnts_is ks true (c+1) (by omega)
    rw [Bool.true_and]
    refine ⟨?_,fun h=>by rw [h2 h];omega,h3⟩
    rw [h1]
    exact ⟨fun ⟨_,g2,g3⟩=>⟨g2,by omega⟩,fun ⟨g2,g3⟩=>⟨rfl,g2,by omega⟩⟩
termination_by structural e
theorem cnts_is (es:List Ex) (f:Bool) (c:Nat) (hc:c≤512):((cnts es f c).2=true↔f=true∧Ex.alls es=true∧c+Ex.sizes es≤512)∧((cnts es f c).2=true→(cnts es f c).1=c+Ex.sizes es)∧(cnts es f c).1≤512:=by
 match es with
 |[] =>
  simp only [cnts,Ex.alls,Ex.sizes]
  exact ⟨⟨fun h=>⟨h,trivial,by omega⟩,fun h=>h.1⟩,fun _=>by omega,hc⟩
 |e::r =>
  cases f with
  |false=>rw [Xg];exact ⟨⟨(fun h=>by cases h),(fun h=>by cases h.1)⟩,(fun h=>by cases h),hc⟩
  |true =>
   obtain ⟨h1,h2,h3⟩:=NZ e c hc
   simp only [cnts,if_true,Ex.alls,Ex.sizes]
   cases hb:(cnt e c).2 with
   |false =>
    rw [Xg]
    refine ⟨⟨(fun h=>by cases h),fun ⟨_,g1,g2⟩=>?_⟩,(fun h=>by cases h),h3⟩
    rw [Bool.and_eq_true] at g1
    have:=h1.2 ⟨g1.1,by omega⟩
    rw [hb] at this;cases this
   |true =>
    obtain ⟨k1,k2,k3⟩:=cnts_is r true (cnt e c).1 h3
    have h5:=h2 hb
    have h6:=h1.1 hb
    refine ⟨?_,fun h=>by rw [k2 h,h5];omega,k3⟩
    rw [k1,h5,Bool.and_eq_true]
    constructor
    ·rintro ⟨_,g1,g2⟩;exact ⟨trivial,⟨h6.1,g1⟩,by omega⟩
    ·rintro ⟨_,⟨g0,g1⟩,g2⟩;exact ⟨rfl,g1,by omega⟩
termination_by structural es
end
theorem Iq (e:Ex):(cnt e 0).2=may e:=by
 have:=(NZ e 0 (by omega)).1
 unfold may
 rw [Nat.zero_add] at this
 rw [Bool.eq_iff_iff,this,Bool.and_eq_true,decide_eq_true_eq]
def Dh (e:Ex):Prop:=∀(st:St) (k:Nat) (cs:List AV),Cl st→k≤512→ExR e cs →
 cw 60 [.agg cs,.int .i64 (k:Int)] st=some (.ret (.tup [.int .i64 ((cnt e k).1:Int),.bool (cnt e k).2]),st)
theorem EU {op n:Int} {s:B} {kids:List Ex} {ka:AV} {rows:List (List AV)} (hsl:Sl 4 ka rows) (hks:ExRs kids rows) (hlen:kids.length<1000000000) {st S:St} (hst:Cl st) (hS:Cl S) (hg:S.get st.length=some (XB (cs4 op n s ka)))
  (ho:∀(k:Int) b,ze false st.length (.ret (.tup [.int .i64 k,.bool b])) S=some (.ret (.tup [.int .i64 k,.bool b]),st)):∀(rest:List Ex) (j:Nat) (fine:Bool) (k:Nat),kids.drop j=rest→j≤kids.length→(∀e ∈ rest,Dh e)→k≤512 →
  aw 60 st.length DM ⟨[(1,.int .i64 (k:Int)),(2,.bp st.length 0),(6,.bool fine),(7,.int .i64 (j:Int))],[]⟩ S=some (.ret (.tup [.int .i64 ((cnts rest fine k).1:Int),.bool (cnts rest fine k).2]),st):=by
 have hadd:zc 3 (.bp st.length 0)=some (.bp st.length 3):=rfl
 have hr:rows.length=kids.length:=hks.len
 intro rest
 induction rest with
 |nil =>
  intro j fine k hd hj hok hk
  have:=List.drop_eq_nil_iff.1 hd
  refine za6 _ _ _ _ _ _ ?_
  simp only [hadd,bind_some,zn hg,QY,hsl.len,zk,hr]
  rw [decide_eq_false (by omega),cond_false,ho]
  rfl
 |cons e rest ih =>
  intro j fine k hd hj hok hk
  have hk2:j<kids.length:=by have:=congrArg List.length hd;simp at this;omega
  have hx:kids[j]?=some e:=by
   have:(kids.drop j)[0]?=some e:=by rw [hd];rfl
   rw [List.getElem?_drop] at this;simpa using this
  have hrest:kids.drop (j+1)=rest:=by rw [←List.drop_drop,hd];rfl
  refine za6 _ _ _ _ _ _ ?_
  simp only [hadd,bind_some,zn hg,QY,hsl.len,zk,hr]
  rw [decide_eq_true (by omega),cond_true]
  cases fine with
  |false=>rw [cond_false,ho,Xg]
  |true =>
   obtain ⟨row,hrow,he⟩:=hks.at j e hx
   have hcall:=hok e List.mem_cons_self S k row hS hk he
   have hrec:=ih (j+1) (cnt e k).2 (cnt e k).1 hrest (by omega) (fun x hx=>hok x (List.mem_cons_of_mem _ hx)) (NZ e k hk).2.2
   rw [cond_true]
   rw [hsl.rd.agg hrow he.len]
   rw [hcall,zi]
   simp only [zT,List.getElem?_cons_zero,List.getElem?_cons_succ,bind_some,zk,zp,e1i (show j<1000000000000 by omega),hrec,cnts,if_true]
mutual
theorem LL (e:Ex) (hs:Zr e=true):Dh e:=by
 match e with
 | .mk op n s kids =>
  simp only [Zr,Bool.and_eq_true] at hs
  have hall:=manys_all kids hs.2
  intro st k cs hst hk he
  have hcl:=S1e.cl hst he
  have hal:=fun (S:St) (hS:Cl S)=>BI he hs.1 hS
  obtain ⟨ka,rows,rfl,hsl,hfl,hks⟩:=he
  have hl:kids.length<1000000000:=by
   have:=hs.1
   simp [jN] at this;exact this.2
  have hg:=S1e.get (cs4 op n s ka) st
  have ho:∀(k:Int) b,ze false st.length (.ret (.tup [.int .i64 k,.bool b])) (S1e (cs4 op n s ka) st)=some (.ret (.tup [.int .i64 k,.bool b]),st):=fun k b=>S1e.out hst rfl rfl
  have key:=fun R=>@F60 op n s ka (k:Int) st R
  simp only [c4,bind_some] at key
  simp only [show (zh.free 0::zh.box 24 (cs4 op n s ka)::st:St)=S1e (cs4 op n s ka) st from rfl] at key
  generalize hS:S1e (cs4 op n s ka) st=S at key hg ho hcl
  simp only [zn hg,BN,bind_some,hal S hcl,zi,zp,e1i (show k<1000000000000 by omega),ho] at key
  refine key _ ?_
  simp only [cnt]
  by_cases h:512≤k
  ·rw [decide_eq_true (show (k:Int)≥512 by omega),cond_true,if_pos h]
  ·rw [decide_eq_false (show ¬(k:Int)≥512 by omega),cond_false,if_neg h]
   cases qo op n s kids.length with
   |false=>rfl
   |true =>
    have:=EU hsl hks hl hst hcl hg ho kids 0 true (k+1) rfl (Nat.zero_le _) hall (by omega)
    rw [show ((0:Nat):Int)=0 from rfl] at this
    rw [Bool.not_true,cond_false,if_pos rfl]
    exact this
termination_by structural e
theorem manys_all (es:List Ex) (hs:sanes es=true):∀e ∈ es,Dh e:=by
 match es with
 |[]=>intro e he;simp at he
 |x::rest =>
  simp only [sanes,Bool.and_eq_true] at hs
  have g1:=LL x hs.1
  have g2:=manys_all rest hs.2
  intro e he
  rcases List.mem_cons.1 he with rfl | he
  ·exact g1
  ·exact g2 e he
termination_by structural es
end
theorem zas {e:Ex} (hs:Zr e=true) {cs:List AV} (he:ExR e cs) {st:St} (hst:Cl st):cw 30 [.agg cs] st=some (.ret (.bool (may e)),st):=by
 have hcl:=S1e.cl hst he
 have hrun:=LL e hs (S1e cs st) 0 cs hcl (by omega) he
 have hrow:=he.row
 have hg:=S1e.get cs st
 have ho:∀b,ze false st.length (.ret (.bool b)) (S1e cs st)=some (.ret (.bool b),st):=fun b=>S1e.out hst rfl rfl
 obtain ⟨op,n,s,kids⟩:=e
 obtain ⟨ka,rows,rfl,hsl,hfl,hks⟩:=he
 have key:=fun R=>@F30 op n s ka st R
 simp only [c4,bind_some] at key
 simp only [show (zh.free 0::zh.box 24 (cs4 op n s ka)::st:St)=S1e (cs4 op n s ka) st from rfl] at key
 simp only [zn hg,hrow,bind_some] at key
 rw [show ((0:Nat):Int)=0 from rfl] at hrun
 simp only [hrun,zi,zT,List.getElem?_cons_zero,List.getElem?_cons_succ,bind_some,zk,zp,ho,Iq] at key
 exact key _ rfl
end Go.Abs
namespace Go.Abs
open Go Go.Proofs Go.IntWalk Go.Abs.X
theorem Cs {S:St} {v:AV} {l:B} (h:Sl 0 v (qb l)):Jg S v=some (.str l):=by
 have hr:=h.rows (st:=S)
 rcases h with ⟨rfl,hc⟩ | ⟨R,off,tok,rfl,h1,h2⟩
 ·cases l with
  |nil=>rfl
  |cons c l=>simp [qb] at hc
 ·unfold Jg
  simp only [hr,bind_some,Uk,map_some]
def Hm (S:St) (t:Nat):Prop:=∃e,S.get t=some (.free e)∨∃m,S.get t=some (.spare e m)
theorem Em {S:St} {t:Nat} (hh:Hm S t) {x:AV} {new:B} (d:UInt8) (hx:Sl 0 x (qb new)) (hl:new.length<1000000000) :
  ∃v' y,zR S (some (t,false)) 1 0 (.sl 0 [[.int .u8 (d.toNat:Int)]] 0 1 .exact) x=some (v',S.put t y)∧Sl 0 v' (qb (d::new))∧Hm (S.put t y) t:=by
 obtain ⟨e,he⟩:=hh
 have hr:=hx.rows (st:=S)
 have ht:t<S.length:=by rcases he with he | ⟨m,he⟩<;>exact St.get_lt he
 unfold zR
 rw [hr]
 simp only [bind_some,List.length_cons,List.length_nil]
 rw [if_pos (by refine ⟨trivial,trivial,?_,?_⟩<;>simp [qb,qe]<;>omega)]
 by_cases hn:(qb new).length=0
 ·have:new=[]:=by cases new with
   |nil=>rfl
   |cons a r=>simp [qb] at hn
  subst this
  rcases he with he | ⟨m,he⟩
  ·exact ⟨.sl 0 [byt d] 0 1 .exact,.free e,by simp [byt,qb,St.put_same he],.mk (c:=[byt d]),⟨e,.inl (by rw [St.put_same he];exact he)⟩⟩
  ·exact ⟨.sl 0 [byt d] 0 1 .exact,.spare e m,by simp [byt,qb,St.put_same he],.mk (c:=[byt d]),⟨e,.inr ⟨m,by rw [St.put_same he];exact he⟩⟩⟩
 ·refine ⟨.sl 0 (qb (d::new)) 0 (qb (d::new)).length (.spare t (e+1)),.spare (e+1) (qb (d::new)).length,?_,.mk,⟨e+1,.inr ⟨_,St.get_put_same ht⟩⟩⟩
  simp only [if_neg hn]
  rcases he with he | ⟨m,he⟩<;>simp [jm,he,qb,byt]
theorem Di {n:Int} (h:0≤n∧n<18446744073709551616):IntKind.u64.wrap n=n:=by simp [IntKind.wrap,IntKind.bits,IntKind.signed];omega
theorem Mj (x:Nat):IntKind.u8.wrap (IntKind.u64.wrap (48+(x:Int).tmod 10))=(((48+x%10).toUInt8).toNat:Int):=by
 have h1:(x:Int).tmod 10=((x%10:Nat):Int):=by rw [Int.tmod_eq_emod_of_nonneg (by omega)];omega
 have h2:((48+x%10).toUInt8).toNat=48+x%10:=by
  show (ofNat (48+x%10)).toNat=_
  simp [UInt8.toNat_ofNat'];omega
 rw [h1,h2,Di (by omega),IntKind.wrap_u8];omega
theorem Mb {x:Nat} (h:x<9223372036854775808):IntKind.u64.wrap ((x:Int).tdiv 10)=((x / 10:Nat):Int):=by
 have h1:(x:Int).tdiv 10=((x / 10:Nat):Int):=by rw [Int.tdiv_eq_ediv_of_nonneg (by omega)];omega
 rw [h1,Di (by omega)]
theorem GK {st S:St} (hst:Cl st) (hu:Up st S) {a0:Int} (h0:0≤a0) {out:AV} {acc:B} (ho:Sl 0 out (qb acc)) (hne:acc≠[]) :
  aw 65 st.length GW ⟨[(0,.int .i64 a0),(3,.int .u64 0),(4,out)],[]⟩ S=some (.ret (.str acc),st):=by
 refine BO _ _ _ _ _ ?_
 rw [decide_eq_false (by omega),cond_false,ho.len]
 have:((qb acc).length:Int)≠0:=by
  cases acc with
  |nil=>exact absurd rfl hne
  |cons a r=>simp [qb];omega
 simp only [bind_some,zk,beq_eq_false_iff_ne.2 this,cond_false,decide_eq_false (show ¬a0<0 by omega),Cs ho,zr]
 exact zU hu hst rfl rfl
theorem NA {st:St} (hst:Cl st) {a0:Int} (h0:0≤a0):∀(f x:Nat) (acc:B) (out:AV) (S:St),x<10^f→0<f→0<x→x<9223372036854775808→acc.length+f<1000→Up st S→Hm S st.length→Sl 0 out (qb acc) →
  aw 65 st.length GW ⟨[(0,.int .i64 a0),(3,.int .u64 (x:Int)),(4,out)],[]⟩ S=some (.ret (.str (qM f x++acc)),st):=by
 intro f
 induction f with
 |zero=>intro x acc out S _ h;omega
 |succ f ih =>
  intro x acc out S hx _ hx0 hx9 hal hu hh ho
  obtain ⟨v',y,q1,q2,q3⟩:=Em hh (48+x%10).toUInt8 ho (by omega)
  refine BO _ _ _ _ _ ?_
  rw [decide_eq_true (by omega),cond_true,Mj,Nat.add_zero,q1,qc,Mb hx9]
  by_cases h:x<10
  ·rw [show x / 10=0 by omega,show ((0:Nat):Int)=0 from rfl,GK hst (hu.put (Nat.le_refl _) y) h0 q2 (List.cons_ne_nil _ _)]
   unfold qM
   rw [if_pos h,show x%10=x by omega];rfl
  ·have hf:0<f:=by
    rcases Nat.eq_zero_or_pos f with rfl | hf
    ·simp at hx;omega
    ·exact hf
   rw [ih (x / 10) _ v' _ (by rw [Nat.pow_succ] at hx;omega) hf (by omega) (by omega) (by simp only [List.length_cons];omega) (hu.put (Nat.le_refl _) y) q3 q2]
   conv=>rhs;unfold qM
   rw [if_neg h,List.append_assoc];rfl
theorem Bv (st:St) (hst:Cl st) {n:Int} (h0:0≤n) (h1:n≤9223372036854775807):cw 65 [.int .i64 n] st=some (.ret (.str (digits n.toNat)),st):=by
 have hz:∀S,cw 90 [.int .i64 n] S=some (.ret (.int .u64 n),S):=fun S=>by
  refine F90 _ _ ?_
  rw [decide_eq_false (show ¬n<0 by omega),cond_false,Di (by omega),zx]
 refine F65 _ _ ?_
 simp only [hz,zi,zk,bind_some]
 have hu:Up st (.free 0::st):=Up.cons _ _
 have hh:Hm (.free 0::st) st.length:=⟨0,.inl (St.get_top _ _)⟩
 by_cases hn:n=0
 ·subst hn
  obtain ⟨v',y,q1,q2,q3⟩:=Em hh (new:=[]) (x:=.nils) (48+0%10).toUInt8 Sl.nil (by decide)
  have hb:=Mj 0
  rw [show ((0:Nat):Int)=0 from rfl] at hb
  have hd:=Mb (x:=0) (by omega)
  have hd:IntKind.u64.wrap (Int.tdiv 0 10)=0:=hd
  refine BO _ _ _ _ _ ?_
  rw [decide_eq_false (by omega),cond_false,show zL .nils=some (.int .i64 0) from rfl,bind_some,zk,bind_some,show ((0:Int)==0)=true from rfl,cond_true,hb,Nat.add_zero,q1,qc,hd]
  rw [GK hst (hu.put (Nat.le_refl _) y) (by omega) q2 (List.cons_ne_nil _ _)]
  rfl
 ·have:=NA hst h0 20 n.toNat [] .nils (.free 0::st) (by omega) (by omega) (by omega) (by omega) (by simp) hu hh .nil
  rw [List.append_nil,show ((n.toNat:Nat):Int)=n by omega] at this
  exact this
theorem Nf {st:St} (hst:Cl st) (s:B) (hl:s.length<100000000):∀(r:B) (i:Nat) (acc:B) (out:AV) (S:St),s.drop i=r→i≤s.length→acc.length≤2*i+1→Up st S→Acc 0 st.length S out (qb acc) →
  aw 66 st.length Xy ⟨[(0,.str s),(3,out),(4,.int .i64 (i:Int))],[]⟩ S=some (.ret (.str (acc++(r.flatMap (fun c=>if c.toNat=39∨c.toNat=92∨c.toNat=125 then [92,c] else if c.toNat=10 then [92,110] else [c])++[39]))),st):=by
 have happ:∀(acc bs:B) (out:AV) (S:St),acc.length≤200000001→bs.length≤2→Up st S→Acc 0 st.length S out (qb acc)→∃v' y,zR S (some (st.length+0,false)) 1 0 out (.sl 0 (qb bs) 0 bs.length .exact)=some (v',S.put st.length y)∧Acc 0 st.length (S.put st.length y) v' (qb (acc++bs)):=by
  intro acc bs out S h1 h2 hu ha
  have hx:rowsOf S 0 (.sl 0 (qb bs) 0 bs.length .exact)=some (qb bs):=by
   simp only [rowsOf,if_true,List.drop_zero]
   rw [List.take_of_length_le (by simp [qb])]
  have:=ha.app (bytes:=1) hx (by simp [qb,qe];omega) (by simp [qb,qe];omega)
  rw [Xu];exact this
 intro r
 induction r with
 |nil =>
  intro i acc out S hd hi hal hu ha
  have:=jw hd
  obtain ⟨v',y,q1,q2⟩:=happ acc [39] out S (by omega) (by simp) hu ha
  refine za4 _ _ _ _ _ ?_
  rw [decide_eq_false (by omega),cond_false,show (AV.sl 0 [[AV.int .u8 39]] 0 1 .exact) = .sl 0 (qb [39]) 0 ([39]:B).length .exact from rfl,q1,qc,Cs q2.sl,bind_some,zr,bind_some]
  exact zU (hu.put (Nat.le_refl _) y) hst rfl rfl
 |cons c r ih =>
  intro i acc out S hd hi hal hu ha
  obtain ⟨g,hd2,hlt⟩:=qa hd
  have hgo:∀bs:B,bs.length≤2→∃v' y,zR S (some (st.length+0,false)) 1 0 out (.sl 0 (qb bs) 0 bs.length .exact)=some (v',S.put st.length y) ∧
    aw 66 st.length Xy ⟨[(0,.str s),(3,v'),(4,.int .i64 ((i+1:Nat):Int))],[]⟩ (S.put st.length y)=some (.ret (.str (acc++bs++(r.flatMap (fun c=>if c.toNat=39∨c.toNat=92∨c.toNat=125 then [92,c] else if c.toNat=10 then [92,110] else [c])++[39]))),st):=by
   intro bs hb
   obtain ⟨v',y,q1,q2⟩:=happ acc bs out S (by omega) hb hu ha
   exact ⟨v',y,q1,ih (i+1) _ v' _ hd2 (by omega) (by simp only [List.length_append];omega) (hu.put (Nat.le_refl _) y) q2⟩
  refine za4 _ _ _ _ _ ?_
  rw [decide_eq_true (by omega),cond_true]
  simp only [zO,bind_some,jH g,e1i (show i<1000000000000 by omega),List.flatMap_cons]
  have h2:∀d:UInt8,(AV.sl 0 [[AV.int .u8 92],[AV.int .u8 (d.toNat:Int)]] 0 2 .exact) = .sl 0 (qb [92,d]) 0 ([92,d]:B).length .exact:=fun d=>rfl
  have h3:(AV.sl 0 [[AV.int .u8 92],[AV.int .u8 110]] 0 2 .exact) = .sl 0 (qb [92,110]) 0 ([92,110]:B).length .exact:=rfl
  have h4:∀d:UInt8,(AV.sl 0 [[AV.int .u8 (d.toNat:Int)]] 0 1 .exact) = .sl 0 (qb [d]) 0 ([d]:B).length .exact:=fun d=>rfl
  rw [h2,h3,h4]
  by_cases c1:c.toNat=39∨c.toNat=92∨c.toNat=125
  ·obtain ⟨v',y,q1,q2⟩:=hgo [92,c] (by simp)
   simp only [q1,qc,q2]
   rw [if_pos c1,List.append_assoc,List.append_assoc]
   rcases c1 with c1 | c1 | c1<;>simp [c1]
  ·have b1:((c.toNat:Int)==39)=false:=by rw [beq_eq_false_iff_ne];omega
   have b2:((c.toNat:Int)==92)=false:=by rw [beq_eq_false_iff_ne];omega
   have b3:((c.toNat:Int)==125)=false:=by rw [beq_eq_false_iff_ne];omega
   rw [b1,b2,b3,if_neg c1]
   simp only [cond_false]
   by_cases c2:c.toNat=10
   ·obtain ⟨v',y,q1,q2⟩:=hgo [92,110] (by simp)
    rw [show ((c.toNat:Int)==10)=true by rw [beq_iff_eq];omega,cond_true,q1,qc,q2,if_pos c2,List.append_assoc,List.append_assoc]
   ·obtain ⟨v',y,q1,q2⟩:=hgo [c] (by simp)
    rw [show ((c.toNat:Int)==10)=false by rw [beq_eq_false_iff_ne];omega,cond_false,q1,qc,q2,if_neg c2,List.append_assoc,List.append_assoc]
theorem Bj (st:St) (hst:Cl st) (s:B) (hl:s.length<100000000):cw 66 [.str s] st=some (.ret (.str (X.quoted s)),st):=by
 refine F66 _ _ ?_
 have:=Nf hst s hl s 0 [39] (.sl 0 (qb [39]) 0 1 .exact) (.free 0::st) rfl (Nat.zero_le _) (by simp) (Up.cons _ _) (.inr (.inr ⟨rfl,0,St.get_top _ _⟩))
 rw [show ((0:Nat):Int)=0 from rfl,←List.append_assoc] at this
 exact this
end Go.Abs
namespace Go.Abs
open Go Go.Proofs Go.IntWalk Go.Abs.X
theorem KM (S:St) (p:AV):ldA Tryz.prog S 9 p=zf S p 1 false:=by
 have h1:Ji Tryz.prog 9=some false:=by kernel_rfl
 have h2:qv Tryz.prog 9=some 1:=by kernel_rfl
 unfold ldA zf
 rw [h1,h2];rfl
theorem XW (S:St) (p:AV):ldA Tryz.prog S 3 p=zf S p 1 false:=by
 have h1:Ji Tryz.prog 3=some false:=by kernel_rfl
 have h2:qv Tryz.prog 3=some 1:=by kernel_rfl
 unfold ldA zf
 rw [h1,h2];rfl
theorem QE {a:AV} (h:jh 4 a):Ze a=true:=by rcases h with rfl | ⟨R,off,len,tok,rfl,_⟩<;>rfl
def mkR (l:List (B×Int)):AV:=.sl 1 (l.map fun p=>[.str p.1]) 0 l.length .no
def NX (l:List (B×Int)):AV:=.sl 1 (l.map fun p=>[.int .i64 p.2]) 0 l.length .no
def CE:AV:=.sl 1 (X.levels.map fun l=>[mkR l]) 0 11 .exact
theorem zaA (l:List (B×Int)):Sl 1 (mkR l) (l.map fun p=>[.str p.1]):=by
 have:=@Sl.mk 1 (l.map fun p=>[AV.str p.1]) .no
 rw [List.length_map] at this;exact this
theorem KY (l:List (B×Int)):Sl 1 (NX l) (l.map fun p=>[.int .i64 p.2]):=by
 have:=@Sl.mk 1 (l.map fun p=>[AV.int .i64 p.2]) .no
 rw [List.length_map] at this;exact this
theorem Be:Sl 1 CE (X.levels.map fun l=>[mkR l]):=Sl.mk
theorem UF:Sl 1 Dw (X.levels.map fun l=>[NX l]):=Sl.mk (c:=X.levels.map fun l=>[NX l]) (tok:=.exact)
theorem KH (st:St):cw 62 [] st=some (.ret Dw,st):=F62 _ (zx _ _)
theorem FJ (st:St):cw 63 [] st=some (.ret CE,st):=F63 _ (zx _ _)
theorem jV {a b:B} (h:a.length+b.length≤4611686018427387904):zQ BinOp.add a b=some (.str (a++b)):=by unfold zQ;rw [if_pos h]
def Lk (op:Int) (row:List (B×Int)) (m:B):B:=row.foldl (fun m p=>if p.2=op then p.1 else m) m
section
variable {base:Nat} {S:St} {op n:Int} {s:B} {ka:AV} (hg:S.get base=some (XB (cs4 op n s ka)))
include hg
theorem ET {l:Nat} {row:List (B×Int)} (hrow:X.levels[l]?=some row) (hll:l<100) (hrl:row.length<100) {R:zd×St} {mk:B}
  (hend:aw 31 base GZ ⟨[(1,.bp base 0),(3,.int .i64 ((l+1:Nat):Int)),(4,.str mk),(5,.int .i64 (row.length:Int))],[]⟩ S=some R) :
  ∀(rest:List (B×Int)) (j:Nat) (mark:B),row.drop j=rest→j≤row.length→Lk op rest mark=mk →
  aw 31 base GZ ⟨[(1,.bp base 0),(3,.int .i64 ((l+1:Nat):Int)),(4,.str mark),(5,.int .i64 (j:Int))],[]⟩ S=some R:=by
 have hro:(X.levels.map fun l=>[NX l])[l]?=some [NX row]:=by rw [List.getElem?_map,hrow];rfl
 have hrm:(X.levels.map fun l=>[mkR l])[l]?=some [mkR row]:=by rw [List.getElem?_map,hrow];rfl
 have hw:IntKind.i64.wrap (((l+1:Nat):Int) - 1)=(l:Int):=by rw [i64_in _ (by omega)];omega
 intro rest
 induction rest with
 |nil =>
  intro j mark hd hj hm
  have:j=row.length:=by have:=congrArg List.length hd;simp at this;omega
  subst this
  have hm:mark=mk:=hm
  rw [hm];exact hend
 |cons p rest ih =>
  intro j mark hd hj hm
  have hm:Lk op rest (if p.2=op then p.1 else mark)=mk:=hm
  have hj2:j<row.length:=by have:=congrArg List.length hd;simp at this;omega
  have hp:row[j]?=some p:=by have:=congrArg (·[0]?) hd;simpa using this
  have hd2:row.drop (j+1)=rest:=by rw [←List.drop_drop,hd];rfl
  have h1:(row.map fun p=>[AV.int .i64 p.2])[j]?=some [.int .i64 p.2]:=by rw [List.getElem?_map,hp];rfl
  have h2:(row.map fun p=>[AV.str p.1])[j]?=some [.str p.1]:=by rw [List.getElem?_map,hp];rfl
  refine za1 _ _ _ _ _ _ ?_
  rw [KH,zi,hw,UF.rd.cell hro rfl,(Sl.rd (st:=S) (KY row)).lenI,List.length_map,decide_eq_true (by omega),cond_true]
  rw [KH,zi,UF.rd.cell hro rfl,(KY row).rd.cell h1 rfl,zk,bind_some]
  rw [show zc 0 (.bp base 0)=some (.bp base 0) from rfl,bind_some,zn hg,JJ,bind_some,zk,bind_some]
  refine Eq.trans (if_pos ?_) ?_
  ·simp [rkA,List.range.loop,XW,zn hg,JJ,AV.beq_refl]
  ·rw [e1i (by omega)]
   by_cases h:p.2=op
   ·rw [beq_iff_eq.2 h,cond_true,FJ,zi,Be.rd.cell hrm rfl,(zaA row).rd.cell h2 rfl,zr,bind_some]
    rw [if_pos h] at hm
    exact ih (j+1) p.1 hd2 (by omega) hm
   ·rw [beq_eq_false_iff_ne.2 h,cond_false]
    rw [if_neg h] at hm
    exact ih (j+1) mark hd2 (by omega) hm
end
theorem EO:∀k:Fin 32,(match qR (k.val:Int) with | some x=>(match X.levels[x.2 - 1]? with | some row=>decide (Lk (k.val:Int) row []=x.1∧row.length<100) | none=>false) | none=>true)=true:=by decide +kernel
theorem MC (op n:Int) (s:B) (kids:List Ex):put (.mk op n s kids) 0=body op n s (puts kids):=by
 show (if level op<0 then [40]++body op n s (puts kids)++[41] else body op n s (puts kids))=_
 rw [if_neg (by omega)]
theorem FF (op n:Int) (s:B) (kids:List Ex) (least:Nat):put (.mk op n s kids) least=if level op<least then [40]++put (.mk op n s kids) 0++[41] else put (.mk op n s kids) 0:=by
 rw [MC];rfl
theorem DV {op:Int} (h:1≤op∧op≤31) {least:Nat} (hl:least≤13):ZL op<(least:Int)↔level op<least:=by
 have:=KL h
 unfold level
 split at this
 ·rename_i x hx;rw [hx];show ZL op<_↔x.2<least;omega
 ·rename_i hx
  rw [hx]
  show ZL op<_↔(if op=31 then 0 else if op=10∨op=11 then 12 else 13)<least
  have h2:=this.1
  simp only [FX] at h2
  by_cases h31:op=31
  ·rw [if_pos h31] at h2;rw [h2];simp only [if_pos h31];omega
  ·rw [if_neg h31] at h2
   simp only [if_neg h31]
   by_cases h10:op=10
   ·rw [if_pos h10] at h2;rw [h2,if_pos (.inl h10)];omega
   ·rw [if_neg h10] at h2
    by_cases h11:op=11
    ·rw [if_pos h11] at h2;rw [h2,if_pos (.inr h11)];omega
    ·rw [if_neg h11] at h2
     rw [if_neg (by omega)]
     have h3:=this.2
     omega
theorem Ue {op n:Int} {s:B} {k:Nat} (h:qo op n s k=true):(1≤op∧op≤31)∧zZ op=(k:Int):=by
 simp only [qo,Bool.and_eq_true,beq_iff_eq] at h
 refine ⟨Classical.byContradiction fun hop=>?_,h.1⟩
 have hk:zZ op = -1:=by unfold zZ;repeat (rw [if_neg (by omega)])
 omega
def zau (e:Ex):Prop:=∀(st:St) (cs:List AV),Cl st→ExR e cs→cw 31 [.agg cs] st=some (.ret (.str (put e 0)),st)
def zbl (e:Ex):Prop:=∀(st:St) (cs:List AV) (least:Nat),least≤13→Cl st→ExR e cs→cw 64 [.agg cs,.int .i64 (least:Int)] st=some (.ret (.str (put e least)),st)
theorem BJ {e:Ex} (h:zau e) (ha:Ex.all e=true) (hlen:(put e 0).length≤5000000):zbl e:=by
 intro st cs least hl hst he
 have hcl:=S1e.cl hst he
 have hrow:=he.row
 have hpr:=h (S1e cs st) cs hcl he
 have ho:∀b,ze false st.length (.ret (.str b)) (S1e cs st)=some (.ret (.str b),st):=fun b=>S1e.out hst rfl rfl
 have hg:=S1e.get cs st
 obtain ⟨op,n,s,kids⟩:=e
 simp only [Ex.all,Bool.and_eq_true] at ha
 have hop:=(Ue ha.1).1
 obtain ⟨ka,rows,rfl,hsl,hfl,hks⟩:=he
 refine F64 _ _ _ _ _ _ ?_
 simp only [c4,bind_some]
 simp only [show (zh.free 0::zh.box 24 (cs4 op n s ka)::st:St)=S1e (cs4 op n s ka) st from rfl]
 simp (disch:=(simp only [List.length_append,List.length_cons,List.length_nil];omega)) only [zn hg,JJ,hrow,bind_some,zk,WM,zi,hpr,zr,jV,ho]
 rw [FF op n s kids least]
 by_cases hlt:level op<least
 ·rw [decide_eq_true ((DV hop hl).2 hlt),cond_true,if_pos hlt];rfl
 ·rw [decide_eq_false (fun h=>hlt ((DV hop hl).1 h)),cond_false,if_neg hlt]
def BY:AV:=.sl 1 (qw X.calls) 0 8 .exact
theorem Kf:Sl 1 BY (qw X.calls):=Sl.mk (c:=qw X.calls) (tok:=.exact)
theorem jF {e:Ex} {row:List AV} (he:ExR e row) (S:St):zf S (.ip row 0) 4 true=some (.agg row):=he.row
mutual
theorem WY (e:Ex) (h:Ex.fine e=true):Ex.all e=true:=by
 match e with
 | .mk op n s k =>
  simp only [Ex.fine,Bool.and_eq_true] at h
  simp only [Ex.all,Bool.and_eq_true]
  exact ⟨h.1.1,fines_to_all k h.2⟩
termination_by structural e
theorem fines_to_all (es:List Ex) (h:Ex.fines es=true):Ex.alls es=true:=by
 match es with
 |[]=>rfl
 |x::r =>
  simp only [Ex.fines,Bool.and_eq_true] at h
  simp only [Ex.alls,Bool.and_eq_true]
  exact ⟨WY x h.1,fines_to_all r h.2⟩
termination_by structural es
end
set_option maxHeartbeats 8000000 in
theorem Fb:∀(m:Nat) (e:Ex),e.size≤m→e.size≤512→Ex.fine e=true→zau e:=by
 intro m
 induction m with
 |zero=>intro e he;have:=XZ e;omega
 |succ m ih =>
  intro e hem he512 hfine
  match e with
  | .mk op n s ks =>
   rw [Zd,Bool.and_eq_true,Bool.and_eq_true] at hfine
   obtain ⟨⟨hal,hmax⟩,hfk⟩:=hfine
   have hop:=(Ue hal).1
   have hk:=(Ue hal).2
   rw [jp] at hem he512
   have hsz:∀(l:List Ex),Ex.sizes l≤m→Ex.sizes l≤511→Ex.fines l=true→∀x ∈ l,x.size≤m∧x.size≤511∧Ex.fine x=true:=by
    intro l
    induction l with
    |nil=>intro _ _ _ x hx;cases hx
    |cons y r ih =>
     intro h h' hf x hx
     rw [qh] at h h'
     rw [qT,Bool.and_eq_true] at hf
     rcases List.mem_cons.1 hx with rfl | hx
     ·exact ⟨by omega,by omega,hf.1⟩
     ·exact ih (by omega) (by omega) hf.2 x hx
   have hA:∀x ∈ ks,zau x∧zbl x∧∀L,(put x L).length≤4300800:=fun x hx=>by
    obtain ⟨h1,h2,h3⟩:=hsz ks (by omega) (by omega) hfk x hx
    have h4:=ih x h1 (by omega) h3
    have h5:∀L,(put x L).length≤4300800:=fun L=>by have:=HU x.size x (Nat.le_refl _) h3 L;omega
    exact ⟨h4,BJ h4 (WY x h3) (by have:=h5 0;omega),h5⟩
   intro st cs hst he
   have hcl:=S1e.cl hst he
   obtain ⟨ka,rows,rfl,hsl,hfl,hrs⟩:=he
   have hg:=S1e.get (cs4 op n s ka) st
   have ho:∀b,ze false st.length (.ret (.str b)) (S1e (cs4 op n s ka) st)=some (.ret (.str b),st):=fun b=>S1e.out hst rfl rfl
   rw [MC]
   refine F31 op n s ka st ?_
   rw [c4,bind_some,show (zh.free 0::zh.box 24 (cs4 op n s ka)::st:St)=S1e (cs4 op n s ka) st from rfl]
   generalize S1e (cs4 op n s ka) st=S at hg ho hcl ⊢
   rw [zn hg,JJ,bind_some,zk,bind_some,WM,zi,zk,bind_some]
   rcases Xh hk with ⟨⟨mm,l⟩,hb,h2⟩ | ⟨hb,h⟩
   ·have lv:=KL hop
    have hmf:=EO ⟨op.toNat,by omega⟩
    rw [show (((⟨op.toNat,by omega⟩:Fin 32).val:Nat):Int)=op by show ((op.toNat:Nat):Int)=op;omega] at hmf
    rw [hb] at lv hmf
    obtain ⟨lv1,lv2,lv3⟩:=lv
    dsimp only at lv1 lv2 lv3 hmf
    obtain ⟨l0,rfl⟩:∃l0,l=l0+1:=⟨l - 1,by omega⟩
    rw [Nat.add_sub_cancel] at hmf
    obtain ⟨row,hrow,hmk,hrl⟩:∃row,X.levels[l0]?=some row∧Lk op row []=mm∧row.length<100:=by
     revert hmf
     cases X.levels[l0]? with
     |none=>intro h;cases h
     |some row=>intro h;exact ⟨row,rfl,of_decide_eq_true h⟩
    rw [lv1,decide_eq_true (by omega),cond_true,decide_eq_true (by omega),cond_true]
    obtain ⟨a,b,rfl⟩:=FN h2
    obtain ⟨_,ua,la⟩:=hA a (by simp)
    obtain ⟨_,ub,lb⟩:=hA b (by simp)
    obtain ⟨r0,hr0,he0⟩:=hrs.at 0 a rfl
    obtain ⟨r1,hr1,he1⟩:=hrs.at 1 b rfl
    have la:=la (l0+1)
    have lb:=lb (l0+1+1)
    have lm:mm.length≤2:=Kb _ (Wq _ (YG hb))
    have e1:body op n s (puts [a,b])=put a (l0+1)++([32]++mm++[32])++put b (l0+1+1):=by unfold body;rw [hb];rfl
    rw [e1]
    refine ET hg hrow (by omega) hrl ?_ row 0 [] rfl (Nat.zero_le _) hmk
    have hro:(X.levels.map fun l=>[NX l])[l0]?=some [NX row]:=by rw [List.getElem?_map,hrow];rfl
    have hw:IntKind.i64.wrap (((l0+1:Nat):Int) - 1)=(l0:Int):=by rw [i64_in _ (by omega)];omega
    refine za1 _ _ _ _ _ _ ?_
    rw [KH,zi,hw,UF.rd.cell hro rfl,(Sl.rd (st:=S) (KY row)).lenI,List.length_map,decide_eq_false (by omega),cond_false]
    simp (disch:=(simp only [List.length_append,List.length_cons,List.length_nil];omega)) only [show zc 3 (.bp st.length 0)=some (.bp st.length 3) from rfl,bind_some,zn hg,QY,hsl.at hr0,hsl.at hr1,jF he0,jF he1,ua S r0 (l0+1) (by omega) hcl he0,e1i (show l0+1<1000000000000 by omega),ub S r1 (l0+1+1) (by omega) hcl he1,zi,zr,jV,ho]
    refine Eq.trans (if_pos ?_) ?_
    ·simp [rkA,List.range.loop,YI,zn hg,QY,AV.beq_refl,QE hfl,YP]
    ·simp only [List.append_assoc];rfl
   ·rcases h with ⟨rfl,h2⟩ | ⟨rfl,h2⟩ | ⟨rfl,h2⟩ | ⟨rfl,h2⟩ | ⟨rfl,h2⟩ | ⟨rfl,h2⟩ | ⟨rfl,h2⟩ | ⟨rfl,h2⟩ | ⟨rfl,h2⟩ | ⟨rfl,h2⟩ | ⟨rfl,h2⟩ | ⟨rfl,h2⟩
    ·obtain ⟨a,b,c,rfl⟩:=zaB h2
     obtain ⟨pa,ua,la⟩:=hA a (by simp)
     obtain ⟨r0,hr0,he0⟩:=hrs.at 0 a rfl
     obtain ⟨pb,ub,lb⟩:=hA b (by simp)
     obtain ⟨r1,hr1,he1⟩:=hrs.at 1 b rfl
     obtain ⟨pc,uc,lc⟩:=hA c (by simp)
     obtain ⟨r2,hr2,he2⟩:=hrs.at 2 c rfl
     have ka1:=ua S r0 1 (by omega) hcl he0
     have kb1:=pb S r1 hcl he1
     have kc1:=pc S r2 hcl he2
     have la:=la 1
     have lb:=lb 0
     have lc:=lc 0
     rw [show ((1:Nat):Int)=1 from rfl] at ka1
     show (_:Option (zd×St))=some (zd.ret (AV.str (put a 1++[32,63,32]++put b 0++[32,58,32]++put c 0)),st)
     rw [show ZL 31=0 from by decide,decide_eq_false (by omega),cond_false]
     rw [zn hg,JJ,bind_some,zk,bind_some]
     rw [show ((31:Int)==31)=true from rfl,cond_true]
     have s1:zQ .add (put a 1) [ofNat 32,ofNat 63,ofNat 32]=some (.str (put a 1++[32,63,32])):=jV (by simp only [List.length_append,List.length_cons,List.length_nil];omega)
     have s2:zQ .add (put a 1++[32,63,32]) (put b 0)=some (.str (put a 1++[32,63,32]++put b 0)):=jV (by simp only [List.length_append,List.length_cons,List.length_nil];omega)
     have s3:zQ .add (put a 1++[32,63,32]++put b 0) [ofNat 32,ofNat 58,ofNat 32]=some (.str (put a 1++[32,63,32]++put b 0++[32,58,32])):=jV (by simp only [List.length_append,List.length_cons,List.length_nil];omega)
     have s4:zQ .add (put a 1++[32,63,32]++put b 0++[32,58,32]) (put c 0)=some (.str (put a 1++[32,63,32]++put b 0++[32,58,32]++put c 0)):=jV (by simp only [List.length_append,List.length_cons,List.length_nil];omega)
     rw [zn hg,QY,bind_some,hsl.at hr0,bind_some,jF he0,bind_some,ka1,zi,zr,bind_some,s1,bind_some,zr,bind_some]
     rw [zn hg,QY,bind_some,hsl.at hr1,bind_some,jF he1,bind_some,kb1,zi,zr,bind_some,s2,bind_some,zr,bind_some,s3,bind_some,zr,bind_some]
     rw [zn hg,QY,bind_some,hsl.at hr2,bind_some,jF he2,bind_some,kc1,zi,zr,bind_some,s4,bind_some,zr,bind_some,ho]
     refine Eq.trans (if_pos ?_) ?_
     ·simp (maxSteps:=5000000) [rkA,List.range.loop,YI,KM,XW,Jz,zn hg,KA,Gt,QY,AV.beq_refl,QE hfl,YP,jF he0,jF he1,jF he2,hsl.at hr1,hsl.at hr2,hsl.at hr0]
     ·(simp only [List.append_assoc];try rfl)
    ·obtain ⟨a,rfl⟩:=List.length_eq_one_iff.1 h2
     obtain ⟨pa,ua,la⟩:=hA a (by simp)
     obtain ⟨r0,hr0,he0⟩:=hrs.at 0 a rfl
     have ka1:=ua S r0 12 (by omega) hcl he0
     have la:=la 12
     rw [show ((12:Nat):Int)=12 from rfl] at ka1
     show (_:Option (zd×St))=some (zd.ret (AV.str ([45]++put a 12)),st)
     rw [show ZL 10=12 from by decide,decide_eq_true (by omega),cond_true,decide_eq_false (by omega),cond_false]
     rw [zn hg,JJ,bind_some,zk,bind_some]
     rw [show ((10:Int)==31)=false from rfl,cond_false,show ((10:Int)==10)=true from rfl,cond_true]
     simp (disch:=(simp only [List.length_append,List.length_cons,List.length_nil];omega)) only [bind_some,zn hg,QY,hsl.at hr0,jF he0,ka1,zi,zr,jV,ho]
     rfl
    ·obtain ⟨a,rfl⟩:=List.length_eq_one_iff.1 h2
     obtain ⟨pa,ua,la⟩:=hA a (by simp)
     obtain ⟨r0,hr0,he0⟩:=hrs.at 0 a rfl
     have ka1:=ua S r0 12 (by omega) hcl he0
     have la:=la 12
     rw [show ((12:Nat):Int)=12 from rfl] at ka1
     show (_:Option (zd×St))=some (zd.ret (AV.str ([33]++put a 12)),st)
     rw [show ZL 11=12 from by decide,decide_eq_true (by omega),cond_true,decide_eq_false (by omega),cond_false]
     rw [zn hg,JJ,bind_some,zk,bind_some]
     rw [show ((11:Int)==31)=false from rfl,cond_false,show ((11:Int)==10)=false from rfl,cond_false,show ((11:Int)==11)=true from rfl,cond_true]
     simp (disch:=(simp only [List.length_append,List.length_cons,List.length_nil];omega)) only [bind_some,zn hg,QY,hsl.at hr0,jF he0,ka1,zi,zr,jV,ho]
     rfl
    ·obtain ⟨a,rfl⟩:=List.length_eq_one_iff.1 h2
     obtain ⟨pa,ua,la⟩:=hA a (by simp)
     obtain ⟨r0,hr0,he0⟩:=hrs.at 0 a rfl
     have ka1:=ua S r0 13 (by omega) hcl he0
     have la:=la 13
     rw [show ((13:Nat):Int)=13 from rfl] at ka1
     have hn:qf s=true:=by simp [qo] at hal;exact hal.2.2
     have lm:=Yf hn
     show (_:Option (zd×St))=some (zd.ret (AV.str (put a 13++([46]++s))),st)
     rw [show ZL 7=13 from by decide,decide_eq_true (by omega),cond_true,decide_eq_false (by omega),cond_false]
     rw [zn hg,JJ,bind_some,zk,bind_some]
     rw [show ((7:Int)==31)=false from rfl,cond_false,show ((7:Int)==10)=false from rfl,cond_false,show ((7:Int)==11)=false from rfl,cond_false,show ((7:Int)==7)=true from rfl,cond_true]
     simp (disch:=(simp only [List.length_append,List.length_cons,List.length_nil];omega)) only [bind_some,zn hg,Gt,QY,hsl.at hr0,jF he0,ka1,zi,zr,jV,ho]
     refine Eq.trans (if_pos ?_) ?_
     ·simp (maxSteps:=5000000) [rkA,List.range.loop,YI,KM,XW,Jz,zn hg,KA,Gt,QY,AV.beq_refl,QE hfl,YP,jF he0,hsl.at hr0]
     ·(simp only [List.append_assoc];try rfl)
    ·obtain ⟨a,b,rfl⟩:=FN h2
     obtain ⟨pa,ua,la⟩:=hA a (by simp)
     obtain ⟨r0,hr0,he0⟩:=hrs.at 0 a rfl
     obtain ⟨pb,ub,lb⟩:=hA b (by simp)
     obtain ⟨r1,hr1,he1⟩:=hrs.at 1 b rfl
     have ka1:=ua S r0 13 (by omega) hcl he0
     have kb1:=pb S r1 hcl he1
     have la:=la 13
     have lb:=lb 0
     rw [show ((13:Nat):Int)=13 from rfl] at ka1
     show (_:Option (zd×St))=some (zd.ret (AV.str (put a 13++[91]++put b 0++[93])),st)
     rw [show ZL 8=13 from by decide,decide_eq_true (by omega),cond_true,decide_eq_false (by omega),cond_false]
     rw [zn hg,JJ,bind_some,zk,bind_some]
     rw [show ((8:Int)==31)=false from rfl,cond_false,show ((8:Int)==10)=false from rfl,cond_false,show ((8:Int)==11)=false from rfl,cond_false,show ((8:Int)==7)=false from rfl,cond_false,show ((8:Int)==8)=true from rfl,cond_true]
     simp (disch:=(simp only [List.length_append,List.length_cons,List.length_nil];omega)) only [bind_some,zn hg,QY,hsl.at hr0,hsl.at hr1,jF he0,jF he1,ka1,kb1,zi,zr,jV,ho]
     refine Eq.trans (if_pos ?_) ?_
     ·simp (maxSteps:=5000000) [rkA,List.range.loop,YI,KM,XW,Jz,zn hg,KA,Gt,QY,AV.beq_refl,QE hfl,YP,jF he0,jF he1,hsl.at hr1,hsl.at hr0]
     ·(simp only [List.append_assoc];try rfl)
    ·obtain ⟨a,rfl⟩:=List.length_eq_one_iff.1 h2
     obtain ⟨pa,ua,la⟩:=hA a (by simp)
     obtain ⟨r0,hr0,he0⟩:=hrs.at 0 a rfl
     have ka1:=pa S r0 hcl he0
     have la:=la 0
     have hn:(1≤n∧n≤8)∧s=[]:=by simp [qo] at hal;exact hal.2
     obtain ⟨_,_,hcn,_⟩:=WL hn.1.1 hn.1.2
     have lm:=Yf hcn
     have hj:(qw X.calls)[n.toNat - 1]?=some [.str (calls.getD (n.toNat - 1) [])]:=by
      have:n=1∨n=2∨n=3∨n=4∨n=5∨n=6∨n=7∨n=8:=by omega
      rcases this with rfl | rfl | rfl | rfl | rfl | rfl | rfl | rfl<;>rfl
     have hw:IntKind.i64.wrap (n - 1)=((n.toNat - 1:Nat):Int):=by rw [i64_in _ (by omega)];omega
     show (_:Option (zd×St))=some (zd.ret (AV.str ((calls.getD (n.toNat - 1) []++[40])++put a 0++[41])),st)
     generalize calls.getD (n.toNat - 1) []=cn at hj lm ⊢
     rw [show ZL 9=14 from by decide,decide_eq_true (by omega),cond_true,decide_eq_false (by omega),cond_false]
     rw [zn hg,JJ,bind_some,zk,bind_some]
     rw [show ((9:Int)==31)=false from rfl,cond_false,show ((9:Int)==10)=false from rfl,cond_false,show ((9:Int)==11)=false from rfl,cond_false,show ((9:Int)==7)=false from rfl,cond_false,show ((9:Int)==8)=false from rfl,cond_false,show ((9:Int)==9)=true from rfl,cond_true]
     rw [zn hg,KA,bind_some,zk,bind_some,hw]
     rw [zO,bind_some,show (AV.sl 1 [[AV.str [ofNat 108,ofNat 101,ofNat 110]],[AV.str [ofNat 115,ofNat 116,ofNat 114]],[AV.str [ofNat 105,ofNat 56]],[AV.str [ofNat 117,ofNat 56]],[AV.str [ofNat 105,ofNat 49,ofNat 54]],[AV.str [ofNat 117,ofNat 49,ofNat 54]],[AV.str [ofNat 105,ofNat 51,ofNat 50]],[AV.str [ofNat 117,ofNat 51,ofNat 50]]] 0 8 Tok.exact)=BY from rfl,Kf.at hj,bind_some,show zf S (.ip [.str cn] 0) 1 false=some (.str cn) from rfl,bind_some]
     simp (disch:=(simp only [List.length_append,List.length_cons,List.length_nil];omega)) only [bind_some,zn hg,QY,hsl.at hr0,jF he0,ka1,zi,zr,jV,ho]
     refine Eq.trans (if_pos ?_) ?_
     ·simp (maxSteps:=5000000) [rkA,List.range.loop,YI,KM,XW,Jz,zn hg,KA,Gt,QY,AV.beq_refl,QE hfl,YP,jF he0,hsl.at hr0,(Kf.at hj)]
     ·(simp only [List.append_assoc];try rfl)
    ·have hn:0≤n:=by simp [qo] at hal;exact hal.2.1
     have hm:n≤9223372036854775807:=of_decide_eq_true hmax
     show (_:Option (zd×St))=some (zd.ret (AV.str (digits n.toNat)),st)
     rw [show ZL 4=14 from by decide,decide_eq_true (by omega),cond_true,decide_eq_false (by omega),cond_false]
     rw [zn hg,JJ,bind_some,zk,bind_some]
     rw [show ((4:Int)==31)=false from rfl,cond_false,show ((4:Int)==10)=false from rfl,cond_false,show ((4:Int)==11)=false from rfl,cond_false,show ((4:Int)==7)=false from rfl,cond_false,show ((4:Int)==8)=false from rfl,cond_false,show ((4:Int)==9)=false from rfl,cond_false,show ((4:Int)==1)=false from rfl,cond_false,show ((4:Int)==2)=false from rfl,cond_false,show ((4:Int)==3)=false from rfl,cond_false,show ((4:Int)==4)=true from rfl,cond_true]
     simp only [zn hg,KA,bind_some,zk,Bv S hcl hn hm,zi,zr,ho]
    ·have hn:Ju s=true:=by simp [qo] at hal;exact hal.2.2
     have h4:s.length≤4096:=by simp only [Ju,XG,Bool.and_eq_true,decide_eq_true_eq] at hn;exact hn.1.2
     show (_:Option (zd×St))=some (zd.ret (AV.str (X.quoted s)),st)
     rw [show ZL 5=14 from by decide,decide_eq_true (by omega),cond_true,decide_eq_false (by omega),cond_false]
     rw [zn hg,JJ,bind_some,zk,bind_some]
     rw [show ((5:Int)==31)=false from rfl,cond_false,show ((5:Int)==10)=false from rfl,cond_false,show ((5:Int)==11)=false from rfl,cond_false,show ((5:Int)==7)=false from rfl,cond_false,show ((5:Int)==8)=false from rfl,cond_false,show ((5:Int)==9)=false from rfl,cond_false,show ((5:Int)==1)=false from rfl,cond_false,show ((5:Int)==2)=false from rfl,cond_false,show ((5:Int)==3)=false from rfl,cond_false,show ((5:Int)==4)=false from rfl,cond_false,show ((5:Int)==5)=true from rfl,cond_true]
     simp only [zn hg,Gt,bind_some,zr,Bj S hcl s (by omega),zi,ho]
    ·show (_:Option (zd×St))=some (zd.ret (AV.str s),st)
     rw [show ZL 6=14 from by decide,decide_eq_true (by omega),cond_true,decide_eq_false (by omega),cond_false]
     rw [zn hg,JJ,bind_some,zk,bind_some]
     rw [show ((6:Int)==31)=false from rfl,cond_false,show ((6:Int)==10)=false from rfl,cond_false,show ((6:Int)==11)=false from rfl,cond_false,show ((6:Int)==7)=false from rfl,cond_false,show ((6:Int)==8)=false from rfl,cond_false,show ((6:Int)==9)=false from rfl,cond_false,show ((6:Int)==1)=false from rfl,cond_false,show ((6:Int)==2)=false from rfl,cond_false,show ((6:Int)==3)=false from rfl,cond_false,show ((6:Int)==4)=false from rfl,cond_false,show ((6:Int)==5)=false from rfl,cond_false]
     simp only [zn hg,Gt,bind_some,zr,ho]
    ·show (_:Option (zd×St))=some (zd.ret (AV.str [110,117,108,108]),st)
     rw [show ZL 1=14 from by decide,decide_eq_true (by omega),cond_true,decide_eq_false (by omega),cond_false]
     rw [zn hg,JJ,bind_some,zk,bind_some]
     rw [show ((1:Int)==31)=false from rfl,cond_false,show ((1:Int)==10)=false from rfl,cond_false,show ((1:Int)==11)=false from rfl,cond_false,show ((1:Int)==7)=false from rfl,cond_false,show ((1:Int)==8)=false from rfl,cond_false,show ((1:Int)==9)=false from rfl,cond_false,show ((1:Int)==1)=true from rfl,cond_true]
     exact ho _
    ·show (_:Option (zd×St))=some (zd.ret (AV.str [102,97,108,115,101]),st)
     rw [show ZL 2=14 from by decide,decide_eq_true (by omega),cond_true,decide_eq_false (by omega),cond_false]
     rw [zn hg,JJ,bind_some,zk,bind_some]
     rw [show ((2:Int)==31)=false from rfl,cond_false,show ((2:Int)==10)=false from rfl,cond_false,show ((2:Int)==11)=false from rfl,cond_false,show ((2:Int)==7)=false from rfl,cond_false,show ((2:Int)==8)=false from rfl,cond_false,show ((2:Int)==9)=false from rfl,cond_false,show ((2:Int)==1)=false from rfl,cond_false,show ((2:Int)==2)=true from rfl,cond_true]
     exact ho _
    ·show (_:Option (zd×St))=some (zd.ret (AV.str [116,114,117,101]),st)
     rw [show ZL 3=14 from by decide,decide_eq_true (by omega),cond_true,decide_eq_false (by omega),cond_false]
     rw [zn hg,JJ,bind_some,zk,bind_some]
     rw [show ((3:Int)==31)=false from rfl,cond_false,show ((3:Int)==10)=false from rfl,cond_false,show ((3:Int)==11)=false from rfl,cond_false,show ((3:Int)==7)=false from rfl,cond_false,show ((3:Int)==8)=false from rfl,cond_false,show ((3:Int)==9)=false from rfl,cond_false,show ((3:Int)==1)=false from rfl,cond_false,show ((3:Int)==2)=false from rfl,cond_false,show ((3:Int)==3)=true from rfl,cond_true]
     exact ho _
end Go.Abs
namespace Go.Abs
open Go Go.Proofs Go.IntWalk Go.Abs.X
def mk7:List AV:=[.int .i64 (-7),.int .i64 0,.str [],.nils]
theorem IV:ExR (.mk (-7) 0 [] []) mk7:=ExR.leaf _ _ _
mutual
def LR:Ex→List AV→Prop
 | .mk op n s kids,cs=>∃ka rows,cs=[.int .i64 op,.int .i64 n,.str s,ka]∧Yj 4 ka rows [mk7,mk7]∧LRs kids rows
termination_by structural x=>x
def LRs:List Ex→List (List AV)→Prop
 |[],rows=>rows=[]
 |e::es,rows=>∃r rs,rows=r::rs∧LR e r∧LRs es rs
termination_by structural x=>x
end
theorem XU {m:Nat} (a b:List (List AV)) (h1:AV.closedss m a=true) (h2:AV.closedss m b=true):AV.closedss m (a++b)=true:=by
 induction a with
 |nil=>exact h2
 |cons x r ih =>
  simp only [AV.closedss,Bool.and_eq_true,List.cons_append] at h1 ⊢
  exact ⟨h1.1,ih h1.2⟩
theorem Yj.flat {v:AV} {c:List (List AV)} (h:Yj 4 v c [mk7,mk7]) (hc:AV.closedss 0 c=true):jh 4 v:=by
 obtain ⟨tok,ht,rfl⟩:=h
 exact .inr ⟨_,_,_,tok,rfl,ht,XU _ _ hc rfl⟩
mutual
theorem LR.ex (e:Ex) {cs:List AV} (h:LR e cs):ExR e cs:=by
 match e with
 | .mk op n s kids =>
  obtain ⟨ka,rows,rfl,h1,h2⟩:=h
  have h3:=LRs.ex kids h2
  exact ⟨ka,rows,rfl,h1.sl,h1.flat h3.closed,h3⟩
termination_by structural e
theorem LRs.ex (es:List Ex) {rows:List (List AV)} (h:LRs es rows):ExRs es rows:=by
 match es with
 |[]=>exact h
 |e::es =>
  obtain ⟨r,rs,rfl,h1,h2⟩:=h
  exact ⟨r,rs,rfl,LR.ex e h1,LRs.ex es h2⟩
termination_by structural es
end
theorem LR.strip {e:Ex} {cs:List AV} (h:LR e cs):LR e (cs.map AV.strip):=by
 cases e;obtain ⟨ka,rows,rfl,h1,h2⟩:=h
 exact ⟨ka.strip,rows,rfl,h1.strip1,h2⟩
theorem LRs.snoc:∀{es:List Ex} {rows:List (List AV)} {e:Ex} {r:List AV},LRs es rows→LR e r→LRs (es++[e]) (rows++[r])
 |[],_,e,r,h,h2=>by subst h;exact ⟨r,[],rfl,h2,rfl⟩
 |x::es,_,e,r,⟨r1,rs,h1,h3,h4⟩,h2=>by subst h1;exact ⟨r1,rs++[r],rfl,h3,LRs.snoc h4 h2⟩
theorem LRs.at {es:List Ex} {rows:List (List AV)} (h:LRs es rows):∀(i:Nat) (e:Ex),es[i]?=some e→∃r,rows[i]?=some r∧LR e r:=by
 intro i
 induction es generalizing rows i with
 |nil=>intro e he;simp at he
 |cons x es ih =>
  obtain ⟨r,rs,rfl,h1,h2⟩:=h
  intro e he
  cases i with
  |zero=>simp at he;subst he;exact ⟨r,rfl,h1⟩
  |succ i=>simpa using ih h2 i e (by simpa using he)
theorem HA {kd bytes:Nat} {S st:St} {v a:AV} {c c0 extra:List (List AV)} (hs:Cl st) (hu:Up st S) (h:Acc kd st.length S v c) (ha:Sl kd a c0) (hlen:c0.length=c.length) (he:0<extra.length)
  (h1:(c.length+extra.length)*bytes≤qe) (h2:c.length+extra.length≤qe) (hc:AV.closedss 0 (c++extra)=true) :
  ∃v',(zX (zR S (some (st.length+0,false)) bytes kd v (AV.sl kd extra 0 extra.length .exact)) fun v st_2 =>
   (zL a).bind fun v_1=>(zm .i64 v_1).bind fun n=>(je st_2 kd v none (some (.int .i64 n)) none).bind fun v=>zX (qN st_2 v) fun v st_3=>ze false st.length (.ret v) st_3)=some (.ret v',st)∧Yj kd v' c extra:=by
 have hx:rowsOf S kd (.sl kd extra 0 extra.length .exact)=some extra:=by simp [rowsOf]
 have htl:st.length<S.length:=by rcases h with ⟨_,_,e,he⟩ | ⟨ep,_,he⟩ | ⟨_,e,he⟩<;>exact St.get_lt he
 obtain ⟨v1,y1,h5,h7⟩:=h.app (bytes:=bytes) hx h1 h2
 have key:∃tok tok',v1 = .sl kd (c++extra) 0 (c.length+extra.length) tok∧AV.stripR st.length (.sl kd (c++extra) 0 c.length tok) = .sl kd (c++extra) 0 c.length tok'∧(tok' = .no∨tok' = .exact):=by
  rcases h7 with ⟨_,h6,_⟩ | ⟨ep,rfl,_⟩ | ⟨rfl,e,he⟩
  ·simp at h6;rw [h6.2] at he;simp at he
  ·exact ⟨_,.no,by rw [List.length_append],by simp only [AV.stripR,AV.stripN];rw [if_neg (by omega)],.inl rfl⟩
  ·exact ⟨_,.exact,by rw [List.length_append],rfl,.inr rfl⟩
 obtain ⟨tok,tok',rfl,k2,k3⟩:=key
 have hcl:AV.closed st.length (.sl kd (c++extra) 0 c.length tok')=true:=by
  have:=AV.closedss_mono (Nat.zero_le st.length) _ hc
  rcases k3 with rfl | rfl<;>simpa [AV.closed] using this
 refine ⟨.sl kd (c++extra) 0 c.length tok',?_,⟨tok',k3,rfl⟩⟩
 rw [Nat.add_zero,h5]
 have hcut:∀s,je s kd (.sl kd (c++extra) 0 (c.length+extra.length) tok) none (some (.int .i64 c.length)) none=some (.sl kd (c++extra) 0 c.length tok):=fun s=>by
  simp [je,jd]
 simp only [qc,ha.len,bind_some,zk,hlen,hcut,qN]
 have hne:((S.put st.length y1).length==st.length)=false:=by rw [St.length_put,beq_eq_false_iff_ne];omega
 have htr:(S.put st.length y1).trunc st.length=st:=by rw [St.trunc_put (Nat.le_refl _)];exact hu.low
 unfold ze
 simp only [hne,Bool.or_self,Bool.false_eq_true,if_false,k2,htr,hcl,Bool.true_and]
 rw [if_pos (show St.closed st.length st=true from hs)]
theorem Acc.obj {kd t:Nat} {S:St} {v:AV} {c:List (List AV)} {y:zh} (h:Acc kd t (S.put t y) v c) (ht:t<S.length) (m:Nat):zh.closed m y=true:=by
 have hy:=St.get_put_same (x:=y) ht
 rcases h with ⟨_,_,e,he⟩ | ⟨ep,_,he⟩ | ⟨_,e,he⟩<;>(rw [hy] at he;simp only [Option.some.injEq] at he;subst he;rfl)
def zai (e:Ex):Prop:=∀(st:St) (cs:List AV),Cl st→ExR e cs→∃cs',LR e cs'∧cw 12 [.agg cs] st=some (.ret (.agg cs'),st)
theorem FC {kids:List Ex} {ka:AV} {rows:List (List AV)} (hsl:Sl 4 ka rows) (hks:ExRs kids rows) (hlen:kids.length<1000000000) {st:St} (hst:Cl st):∀(rest:List Ex) (j:Nat) (S:St) (out:AV) (c:List (List AV)),kids.drop j=rest→j≤kids.length→(∀e ∈ rest,zai e)→Up st S→Cl S→Acc 4 st.length S out c→LRs (kids.take j) c →
  ∃v' rows',aw 26 st.length Er ⟨[(0,ka),(3,out),(4,.int .i64 (j:Int))],[]⟩ S=some (.ret v',st)∧Yj 4 v' rows' [mk7,mk7]∧LRs kids rows':=by
 have hr:rows.length=kids.length:=hks.len
 intro rest
 induction rest with
 |nil =>
  intro j S out c hd hj hok hu hS ha hc
  have:=List.drop_eq_nil_iff.1 hd
  have hk:LRs kids c:=by rw [List.take_of_length_le (by omega)] at hc;exact hc
  have hcl:=(LRs.ex _ hk).len
  obtain ⟨v',q1,q2⟩:=HA (bytes:=56) (extra:=[mk7,mk7]) hst hu ha hsl (by omega) (by simp) (by simp [qe];omega) (by simp [qe];omega) (XU _ _ (LRs.ex _ hk).closed rfl)
  refine ⟨v',c,za3 _ _ _ _ _ ?_,q2,hk⟩
  rw [hsl.len,bind_some,zk,bind_some,decide_eq_false (by omega),cond_false]
  rw [←hsl.len]
  exact q1
 |cons e rest ih =>
  intro j S out c hd hj hok hu hS ha hc
  have hk2:j<kids.length:=by have:=congrArg List.length hd;simp at this;omega
  have hx:kids[j]?=some e:=by
   have:(kids.drop j)[0]?=some e:=by rw [hd];rfl
   rw [List.getElem?_drop] at this;simpa using this
  have hrest:kids.drop (j+1)=rest:=by rw [←List.drop_drop,hd];rfl
  obtain ⟨row,hrow,he⟩:=hks.at j e hx
  obtain ⟨cs',l1,l2⟩:=hok e List.mem_cons_self S row hS he
  have hcl:=(LRs.ex _ hc).len
  have htl:st.length<S.length:=by rcases ha with ⟨_,_,e,he⟩ | ⟨ep,_,he⟩ | ⟨_,e,he⟩<;>exact St.get_lt he
  have hclen:c.length=j:=by rw [hcl,List.length_take];omega
  obtain ⟨v1,y1,h5,h7⟩:=ha.app (bytes:=56) (x:=.sl 4 [cs'.map AV.strip] 0 1 .exact) (new:=[cs'.map AV.strip]) (by simp [rowsOf]) (by simp [qe];omega) (by simp [qe];omega)
  have htake:kids.take (j+1)=kids.take j++[e]:=by rw [List.take_add_one,hx];rfl
  obtain ⟨v',rows',q1,q2,q3⟩:=ih (j+1) (S.put st.length y1) v1 (c++[cs'.map AV.strip]) hrest (by omega) (fun x hx=>hok x (List.mem_cons_of_mem _ hx)) (hu.put (Nat.le_refl _) y1) (qL hS (h7.obj htl _)) h7 (by rw [htake];exact LRs.snoc hc l1.strip)
  refine ⟨v',rows',za3 _ _ _ _ _ ?_,q2,q3⟩
  rw [hsl.rd (st:=S) |>.lenI,decide_eq_true (by omega),cond_true,hsl.rd.agg hrow he.len,l2,zi,(LR.ex _ l1).cells,bind_some,Nat.add_zero,h5,qc,e1i (by omega)]
  exact q1
mutual
theorem Nd (e:Ex) (hs:Zr e=true):zai e:=by
 match e with
 | .mk op n s kids =>
  simp only [Zr,Bool.and_eq_true] at hs
  have hall:=lends_all kids hs.2
  intro st cs hst he
  have hclo:=he.closeds
  obtain ⟨ka,rows,rfl,hsl,hfl,hks⟩:=he
  have hl:kids.length<1000000000:=by
   have:=hs.1
   simp [jN] at this;exact this.2
  have key:=fun R=>@F12 op n s ka st R
  simp only [c4,bind_some] at key
  generalize hS:(zh.free 0::zh.box 24 [AV.int .i64 0,.int .i64 0,.str [],.nils]::zh.free 0::zh.box 24 (cs4 op n s ka)::st:St)=S at key
  have g1:St.get S st.length=some (XB (cs4 op n s ka)):=by rw [←hS];exact zG (zG (Zv rfl))
  have g2:St.get S (zh.free 0::zh.box 24 (cs4 op n s ka)::st:St).length=some (XB ex0):=by rw [←hS];exact Zv rfl
  have hc:Cl S:=by rw [←hS];exact (((hst.cons (x:=XB (cs4 op n s ka)) (by simp [zh.closed,hclo])).cons (x:=.free 0) rfl).cons (x:=XB ex0) rfl).cons rfl
  have hu:Up st S:=by rw [←hS];exact ((((Up.refl st).push _).push _).push _).push _
  have hlS:S.length=st.length+4:=by rw [←hS];simp
  have h2l:(zh.free 0::zh.box 24 (cs4 op n s ka)::st:St).length=st.length+2:=by simp
  rw [h2l] at key g2
  obtain ⟨v,rows',q1,q2,q3⟩:=FC hsl hks hl hc kids 0 (.free 0::S) .nils [] rfl (Nat.zero_le _) hall (Up.cons _ _) (hc.cons rfl) (.inl ⟨rfl,rfl,0,St.get_top _ _⟩) rfl
  have hcall:cw 26 [ka] S=some (.ret v,S):=F26 _ _ q1
  have hLR:LR (.mk op n s kids) (cs4 op n s v):=⟨v,rows',rfl,q2,q3⟩
  have hEx:=LR.ex _ hLR
  have hEV:EV (.agg (cs4 op n s v)) (.mk op n s kids):=⟨_,rfl,hEx⟩
  refine ⟨cs4 op n s v,hLR,key _ ?_⟩
  have w1:zl S (.bp st.length 3) [v]=some (St.put S st.length (XB (cs4 op n s v))):=zM g1 rfl
  have g3:St.get (St.put S st.length (XB (cs4 op n s v))) st.length=some (XB (cs4 op n s v)):=St.get_put_same (by omega)
  have g4:St.get (St.put S st.length (XB (cs4 op n s v))) (st.length+2)=some (XB ex0):=by rw [St.get_put_other (by omega)];exact g2
  have w2:zl (St.put S st.length (XB (cs4 op n s v))) (.bp (st.length+2) 0) (cs4 op n s v)=some ((St.put S st.length (XB (cs4 op n s v))).put (st.length+2) (XB (cs4 op n s v))):=zM g4 rfl
  have g5:St.get (St.put (St.put S st.length (XB (cs4 op n s v))) (st.length+2) (XB (cs4 op n s v))) (st.length+2)=some (XB (cs4 op n s v)):=St.get_put_same (by rw [St.length_put];omega)
  simp only [zn g1,QY,bind_some,hcall,zi,q2.sl.cell1,w1,zn g3,BN,c4,w2,Jz,zn g5]
  exact zU ((hu.put (Nat.le_refl _) _).put (by omega) _) hst (hEV.stripR _) (hEV.closed _)
termination_by structural e
theorem lends_all (es:List Ex) (hs:sanes es=true):∀e ∈ es,zai e:=by
 match es with
 |[]=>intro e he;simp at he
 |x::rest =>
  simp only [sanes,Bool.and_eq_true] at hs
  have g1:=Nd x hs.1
  have g2:=lends_all rest hs.2
  intro e he
  rcases List.mem_cons.1 he with rfl | he
  ·exact g1
  ·exact g2 e he
termination_by structural es
end
end Go.Abs
namespace Go.Abs
open Go Go.Proofs Go.IntWalk Go.Abs.X
def HZ (e:Ex):Prop:=∀(st:St) (cl cs:List AV),Cl st→LR e cl→ExR e cs→cw 15 [.agg cl,.agg cs] st=some (.ret (.bool true),st)
theorem FK {kids:List Ex} {la ka:AV} {lr rows:List (List AV)} (hsl1:Sl 4 la lr) (hk1:LRs kids lr) (hsl:Sl 4 ka rows) (hks:ExRs kids rows) (hlen:kids.length<1000000000) {st:St} (hst:Cl st) (hall:∀e ∈ kids,HZ e):∀(rest:List Ex) (j:Nat),kids.drop j=rest→j≤kids.length →
  aw 32 st.length Eg ⟨[(0,la),(1,ka),(6,.int .i64 (j:Int))],[]⟩ st=some (.ret (.bool true),st):=by
 have hr:rows.length=kids.length:=hks.len
 intro rest
 induction rest with
 |nil =>
  intro j hd hj
  have:=List.drop_eq_nil_iff.1 hd
  refine IL _ _ _ _ _ ?_
  rw [hsl.rd (st:=st) |>.lenI,decide_eq_false (by omega),cond_false,zx]
 |cons e rest ih =>
  intro j hd hj
  have hk2:j<kids.length:=by have:=congrArg List.length hd;simp at this;omega
  have hx:kids[j]?=some e:=by
   have:(kids.drop j)[0]?=some e:=by rw [hd];rfl
   rw [List.getElem?_drop] at this;simpa using this
  have hrest:kids.drop (j+1)=rest:=by rw [←List.drop_drop,hd];rfl
  obtain ⟨r1,hr1,h1⟩:=hk1.at j e hx
  obtain ⟨r2,hr2,h2⟩:=hks.at j e hx
  refine IL _ _ _ _ _ ?_
  rw [hsl.rd (st:=st) |>.lenI,decide_eq_true (by omega),cond_true,(hsl1.rd (st:=st)).agg hr1 (LR.ex _ h1).len,(hsl.rd (st:=st)).agg hr2 h2.len,hall e (List.mem_of_getElem? hx) st r1 r2 hst h1 h2,zi,zp,bind_some,Bool.not_true,cond_false,e1i (by omega)]
  exact ih (j+1) hrest (by omega)
theorem BE {kids:List Ex} {la ka:AV} {lr rows:List (List AV)} (hl:Yj 4 la lr [mk7,mk7]) (hk1:LRs kids lr) (hsl:Sl 4 ka rows) (hks:ExRs kids rows) (hlen:kids.length<1000000000) {st:St} (hst:Cl st) (hall:∀e ∈ kids,HZ e) :
  cw 32 [la,ka] st=some (.ret (.bool true),st):=by
 have hr:rows.length=kids.length:=hks.len
 have hr1:lr.length=kids.length:=(LRs.ex _ hk1).len
 obtain ⟨v',b1,b2⟩:=hl.behind (n:=2) rfl st
 have hw:IntKind.i64.wrap ((lr.length:Int)+2)=((lr.length+2:Nat):Int):=by rw [i64_in _ (by omega)];rfl
 have hm1:(lr++[mk7,mk7])[kids.length]?=some mk7:=by rw [←hr1,List.getElem?_append_right (Nat.le_refl _),Nat.sub_self];rfl
 have hm2:(lr++[mk7,mk7])[kids.length+1]?=some mk7:=by rw [←hr1,List.getElem?_append_right (by omega),show lr.length+1 - lr.length=1 by omega];rfl
 have hsame:cw 8 [.agg mk7,.agg [.int .i64 (-7),.int .i64 0,.str [],.nils]] st=some (.ret (.bool true),st):=by
  have h:=DT (.mk (-7) 0 [] []) rfl (.mk (-7) 0 [] []) mk7 mk7 IV IV rfl st hst
  rw [(Ex.beq_iff _ _).2 rfl] at h
  exact h
 refine F32 _ _ _ ?_
 rw [(hl.sl.rd (st:=st)).lenI,hw,b1,bind_some,(hl.sl.rd (st:=st)).lenI,(hsl.rd (st:=st)).lenI,hr1,hr,bne_self_eq_false,cond_false,(hsl.rd (st:=st)).lenI,hr,(b2.rd (st:=st)).agg hm1 (n:=4) rfl,hsame,zi,zp,bind_some,Bool.not_true,cond_false,(hsl.rd (st:=st)).lenI,hr,e1i (by omega),(b2.rd (st:=st)).agg hm2 (n:=4) rfl,hsame,zi,zp,bind_some,Bool.not_true,cond_false]
 exact FK hl.sl hk1 hsl hks hlen hst hall kids 0 rfl (Nat.zero_le _)
mutual
theorem Ne (e:Ex) (hs:Zr e=true):HZ e:=by
 match e with
 | .mk op n s kids =>
  simp only [Zr,Bool.and_eq_true] at hs
  have hall:=kepts_all kids hs.2
  intro st cl cs hst hL he
  have hc1:=(LR.ex _ hL).closeds
  have hc2:=he.closeds
  obtain ⟨la,lr,rfl,hl,hk1⟩:=hL
  obtain ⟨ka,rows,rfl,hsl,hfl,hks⟩:=he
  have hlk:kids.length<1000000000:=by
   have:=hs.1
   simp [jN] at this;exact this.2
  have key:=fun R=>@F15 op n s la op n s ka st R
  simp only [c4,bind_some] at key
  have h2l:(zh.free 0::zh.box 24 (cs4 op n s la)::st:St).length=st.length+2:=by simp
  rw [h2l] at key
  have g1:St.get (zh.free 0::zh.box 24 (cs4 op n s ka)::zh.free 0::zh.box 24 (cs4 op n s la)::st:St) st.length=some (XB (cs4 op n s la)):=zG (zG (Zv rfl))
  have g2:St.get (zh.free 0::zh.box 24 (cs4 op n s ka)::zh.free 0::zh.box 24 (cs4 op n s la)::st:St) (st.length+2)=some (XB (cs4 op n s ka)):=Zv h2l.symm
  have hc:Cl (zh.free 0::zh.box 24 (cs4 op n s ka)::zh.free 0::zh.box 24 (cs4 op n s la)::st:St):=(((hst.cons (x:=XB (cs4 op n s la)) (by simp [zh.closed,hc1])).cons (x:=.free 0) rfl).cons (x:=XB (cs4 op n s ka)) (by simp [zh.closed,hc2])).cons rfl
  have hu:Up st (zh.free 0::zh.box 24 (cs4 op n s ka)::zh.free 0::zh.box 24 (cs4 op n s la)::st:St):=((((Up.refl st).push _).push _).push _).push _
  generalize (zh.free 0::zh.box 24 (cs4 op n s ka)::zh.free 0::zh.box 24 (cs4 op n s la)::st:St)=S at key g1 g2 hc hu
  refine key _ ?_
  simp only [zn g1,zn g2,JJ,KA,Gt,QY,bind_some,zk,zr,beq_self_eq_true,cond_true,qr,zp,BE hl hk1 hsl hks hlk hc hall,zi]
  exact zU hu hst rfl rfl
termination_by structural e
theorem kepts_all (es:List Ex) (hs:sanes es=true):∀e ∈ es,HZ e:=by
 match es with
 |[]=>intro e he;simp at he
 |x::rest =>
  simp only [sanes,Bool.and_eq_true] at hs
  have g1:=Ne x hs.1
  have g2:=kepts_all rest hs.2
  intro e he
  rcases List.mem_cons.1 he with rfl | he
  ·exact g1
  ·exact g2 e he
termination_by structural es
end
mutual
theorem MB (e:Ex) (h1:Ex.all e=true) (h2:inR e=true):Ex.fine e=true:=by
 match e with
 | .mk op n s k =>
  have h1:(qo op n s k.length&&Ex.alls k)=true:=h1
  have h2:(decide (n≤9223372036854775807)&&inRs k)=true:=h2
  rw [Bool.and_eq_true] at h1 h2
  rw [Zd,Bool.and_eq_true,Bool.and_eq_true]
  exact ⟨⟨h1.1,h2.1⟩,fines_of' k h1.2 h2.2⟩
termination_by structural e
theorem fines_of' (es:List Ex) (h1:Ex.alls es=true) (h2:inRs es=true):Ex.fines es=true:=by
 match es with
 |[]=>rfl
 |x::r =>
  have h1:(Ex.all x&&Ex.alls r)=true:=h1
  have h2:(inR x&&inRs r)=true:=h2
  rw [Bool.and_eq_true] at h1 h2
  rw [qT,Bool.and_eq_true]
  exact ⟨MB x h1.1 h2.1,fines_of' r h1.2 h2.2⟩
termination_by structural es
end
theorem Fq {e:Ex} (hs:Zr e=true) (hn:inR e=true) {cs:List AV} (he:ExR e cs) {st:St} (hst:Cl st) :
  cw 14 [.agg cs] st=some (.ret (.tup [.str ((JT e).getD []),.int .i64 (if may e then 0 else 1003)]),st):=by
 have hcl:=S1e.cl hst he
 have hmay:=zas hs he hcl
 have hpr:may e=true→cw 31 [.agg cs] (S1e cs st)=some (.ret (.str (put e 0)),S1e cs st):=fun hm=>by
  have hm':=hm
  unfold may at hm'
  rw [Bool.and_eq_true,decide_eq_true_eq] at hm'
  exact Fb e.size e (Nat.le_refl _) hm'.2 (MB e hm'.1 hn) _ cs hcl he
 have hrow:=he.row
 have hg:=S1e.get cs st
 have ho:∀b c,ze false st.length (.ret (.tup [.str b,.int .i64 c])) (S1e cs st)=some (.ret (.tup [.str b,.int .i64 c]),st):=fun b c=>S1e.out hst rfl rfl
 have hp:JT e=if may e then some (put e 0) else none:=rfl
 obtain ⟨op,n,s,kids⟩:=e
 obtain ⟨ka,rows,rfl,hsl,hfl,hks⟩:=he
 refine F14 op n s ka st ?_
 simp only [c4,bind_some]
 simp only [show (zh.free 0::zh.box 24 (cs4 op n s ka)::st:St)=S1e (cs4 op n s ka) st from rfl]
 simp only [zn hg,hrow,bind_some,hmay,zi,zp,hp]
 cases hm:may (.mk op n s kids) with
 |false =>
  simp only [Bool.not_false,cond_true,ho,Bool.false_eq_true,if_false,Option.getD_none]
 |true =>
  simp only [Bool.not_true,cond_false,hpr hm,zi,zr,bind_some,ho,if_true,Option.getD_some]
theorem ED {e:Ex} {cs:List AV} (he:ExR e cs) (hs:Zr e=true) (hn:inR e=true) {st:St} (hst:Cl st):cw 4 [.agg cs] st=some (.ret (.bool true),st):=by
 have he':=he
 obtain ⟨op,n,s,kids⟩:=e
 obtain ⟨ka,rows,rfl,hsl,hfl,hks⟩:=he
 refine F4 op n s ka st ?_
 rw [c4,bind_some]
 change ExR _ (cs4 op n s ka) at he'
 generalize hcs:(cs4 op n s ka:List AV)=cs at he' ⊢
 have c1:Cl (zh.free 0::XB cs::st):=(hst.cons (x:=XB cs) (by simp [zh.closed,he'.closeds])).cons rfl
 have u1:Up st (zh.free 0::XB cs::st):=((Up.refl st).push _).push _
 have g1:St.get (zh.free 0::XB cs::st) st.length=some (XB cs):=zG (qz rfl)
 have hle1:st.length<(zh.free 0::XB cs::st:St).length:=by simp only [List.length_cons];omega
 generalize (zh.free 0::XB cs::st:St)=S1 at c1 u1 g1 hle1 ⊢
 generalize he0:Ex.mk op n s kids=e at he' hs hn
 simp only [zn g1,he'.row,bind_some,NC hs he' c1,zi,zp]
 cases hsh:CZ e 4096 with
 |false=>simp only [Bool.not_false,cond_true];exact zU u1 hst rfl rfl
 |true =>
  obtain ⟨cl,hL,hlend⟩:=Nd e hs S1 cs c1 he'
  have hLx:=LR.ex e hL
  simp only [Bool.not_true,cond_false,hlend,zi,hLx.cells,bind_some]
  have hw:zl (zh.free 0::zh.box 24 [.int .i64 0,.int .i64 0,.str [],.nils]::S1) (.bp S1.length 0) cl=_:=MP hLx
  rw [hw]
  have c2:Cl (zh.free 0::XB cl::S1):=(c1.cons (x:=XB cl) (by simp [zh.closed,hLx.closeds])).cons rfl
  have u2:Up st (zh.free 0::XB cl::S1):=(u1.push _).push _
  have g2:St.get (zh.free 0::XB cl::S1) st.length=some (XB cs):=zG (zG g1)
  have g3:St.get (zh.free 0::XB cl::S1) S1.length=some (XB cl):=zG (qz rfl)
  simp only [bind_some]
  generalize (zh.free 0::XB cl::S1:St)=S2 at c2 u2 g2 g3 ⊢
  simp only [zn g3,hLx.row,bind_some,MI c2 hLx hs hn,zi,zT,List.getElem?_cons_zero,List.getElem?_cons_succ,zr,zk,zn g2,he'.row,Fq hs hn he' c2,qr,zp,beq_self_eq_true,cond_true,Hh,Ne e hs S2 cl cs c2 hL he',HC c2]
  exact zU u2 hst rfl rfl
end Go.Abs
