/- ExprBack returns true for every expression of bulk at most 1048576 and leaves it as it was: where the package-level variables that the row lists stand as it lists them. -/
import Derived.Test.YtldmjmhmckogkaaDoorZE
set_option linter.unusedVariables false
set_option linter.unusedSimpArgs false
set_option linter.unusedSectionVars false
namespace Go.Abs.X
inductive Lx:B→List Tk→Prop
 |fin:Lx [] []
 |blank (c:UInt8) (r:B) (ks:List Tk):blk c=true→Lx r ks→Lx (c::r) ks
 |tok (c:UInt8) (r q:B) (k:Tk) (ks:List Tk):blk c=false→(∀e p,k≠.bad e p)→(∀i,∃j,lex1 (c::r) i=(k,q,j))→q.length≤r.length→Lx q ks→Lx (c::r) (k::ks)
theorem toks_blank {c:UInt8} (hc:blk c=true) (n:Nat) (r:B) (i m:Nat):toks (n+1) (c::r) i m=toks (n+1) r (i+1) m:=by
 unfold toks
 simp only [List.takeWhile_cons,List.dropWhile_cons,hc,if_true,List.length_cons]
 rw [show i+((r.takeWhile blk).length+1)=i+1+(r.takeWhile blk).length by omega]
theorem toks_tok {c:UInt8} {r q:B} {k:Tk} (hc:blk c=false) (hk:∀e p,k≠.bad e p) (n i j m:Nat) (h:lex1 (c::r) i=(k,q,j)):toks (n+1) (c::r) i m=if m≥512 then [⟨.bad 1002 i,i⟩] else ⟨k,i⟩::toks n q j (m+1):=by
 conv=>lhs;unfold toks
 simp only [List.takeWhile_cons,List.dropWhile_cons,hc,Bool.false_eq_true,if_false,List.length_nil,Nat.add_zero,h]
theorem Lx.toks {r:B} {ks:List Tk} (h:Lx r ks):∀n i c,r.length<n→(512≤c∧∃p a,X.toks n r i c=[⟨.bad 1002 p,a⟩])∨Ag (X.toks n r i c) ks:=by
 induction h with
 |fin =>
  intro n i c hn
  match n,hn with
  |n+1,_=>exact .inr rfl
 |blank c r ks hc _ ih =>
  intro n i m hn
  match n,hn with
  |n+1,hn =>
   rw [toks_blank hc]
   simp only [List.length_cons] at hn
   exact ih (n+1) (i+1) m (by omega)
 |tok c r q k ks hc hk hl hq _ ih =>
  intro n i m hn
  match n,hn with
  |n+1,hn =>
   obtain ⟨j,hj⟩:=hl i
   rw [toks_tok hc hk n i j m hj]
   by_cases h:m≥512
   ·rw [if_pos h];exact .inl ⟨h,_,_,rfl⟩
   ·rw [if_neg h]
    simp only [List.length_cons] at hn
    refine .inr (Ag.cons.2 ⟨rfl,hk,?_⟩)
    rcases ih n j (m+1) (by omega) with ⟨_,p,a,h⟩ | h
    ·exact .inl ⟨p,a,h⟩
    ·exact .inr h
def nh (r:B):Prop:=match r with
 |[]=>True
 |c::_=>nam c=false
def nhd (p:UInt8→Bool) (r:B):Prop:=match r with
 |[]=>True
 |c::_=>p c=false
theorem tw_app {p:UInt8→Bool} (a b:B) (ha:a.all p=true) (hb:nhd p b):(a++b).takeWhile p=a∧(a++b).dropWhile p=b:=by
 induction a with
 |nil =>
  cases b with
  |nil=>exact ⟨rfl,rfl⟩
  |cons c b=>have hb:p c=false:=hb;simp [List.takeWhile_cons,List.dropWhile_cons,hb]
 |cons x a ih =>
  rw [List.all_cons,Bool.and_eq_true] at ha
  obtain ⟨h1,h2⟩:=ih ha.2
  simp [List.takeWhile_cons,List.dropWhile_cons,ha.1,h1,h2]
theorem sml_facts {c:UInt8} (h:sml c=true):c.toNat≠39∧dig c=false∧blk c=false∧nam c=true∧c≠61:=by
 simp only [sml,Bool.and_eq_true,decide_eq_true_eq] at h
 refine ⟨by omega,?_,?_,?_,?_⟩
 ·simp [dig];omega
 ·simp [blk];omega
 ·simp [nam,sml,h]
 ·intro h';subst h';revert h;decide
theorem dig_facts {c:UInt8} (h:dig c=true):c.toNat≠39∧sml c=false∧blk c=false∧nam c=true∧c≠61:=by
 have h':=h
 simp only [dig,Bool.and_eq_true,decide_eq_true_eq] at h
 refine ⟨by omega,?_,?_,?_,?_⟩
 ·simp [sml];omega
 ·simp [blk];omega
 ·simp [nam,h']
 ·intro h';subst h';revert h;decide
def okH (b:B):Prop:=∃c r,b=c::r∧c≠61
theorem okH.app {a:B} (h:okH a) (b:B):okH (a++b):=by
 obtain ⟨c,r,rfl,hc⟩:=h;exact ⟨c,r++b,rfl,hc⟩
theorem Lx.name {s rest:B} {ks:List Tk} (hs:isName s=true) (hr:nh rest) (h:Lx rest ks):Lx (s++rest) (.name s::ks)∧okH s:=by
 match s,hs with
 |c::r,hs =>
  simp only [isName,Bool.and_eq_true,decide_eq_true_eq] at hs
  obtain ⟨⟨h1,h2⟩,h3⟩:=hs
  obtain ⟨f1,f2,f3,f4,f5⟩:=sml_facts h1
  have hr':nhd nam rest:=by cases rest<;>exact hr
  obtain ⟨t1,t2⟩:=tw_app r rest h2 hr'
  refine ⟨.tok c (r++rest) rest _ ks f3 (by simp) (fun i=>⟨i+(c::r).length,?_⟩) (by simp) h,c,r,rfl,f5⟩
  unfold lex1
  simp only [f1,if_false,f2,Bool.false_eq_true,h1,if_true,t1,t2]
  rw [if_neg (by omega)]
theorem foldl_dec (l:B) (a:Nat) (c:UInt8):(l++[c]).foldl (fun a c=>a*10+(c.toNat - 48)) a=(l.foldl (fun a c=>a*10+(c.toNat - 48)) a)*10+(c.toNat - 48):=by
 rw [List.foldl_append];rfl
theorem dig_one {d:Nat} (h:d<10):((48+d).toUInt8).toNat=48+d:=by
 show (48+d)%256=_;omega
theorem digitsF_ok:∀(f n:Nat),n<10^f→dec (digitsF f n)=n∧(digitsF f n).all dig=true∧(0<f→∃c r,digitsF f n=c::r∧dig c=true∧(0<n→c.toNat≠48)):=by
 intro f
 induction f with
 |zero=>intro n h;obtain rfl:n=0:=(by simpa using h);exact ⟨rfl,rfl,fun h=>absurd h (by omega)⟩
 |succ f ih =>
  intro n h
  simp only [digitsF]
  by_cases h9:n<10
  ·rw [if_pos h9]
   have hd:dig (48+n).toUInt8=true:=by simp only [dig,dig_one h9];simp;omega
   refine ⟨?_,by rw [List.all_cons,hd];rfl,fun _=>⟨_,[],rfl,hd,fun _=>by rw [dig_one h9];omega⟩⟩
   show 0*10+((48+n).toUInt8.toNat - 48)=n
   rw [dig_one h9];omega
  ·rw [if_neg h9]
   have hq:n / 10<10^f:=by rw [Nat.pow_succ] at h;omega
   obtain ⟨i1,i2,i3⟩:=ih (n / 10) hq
   have hd:dig (48+n%10).toUInt8=true:=by simp only [dig,dig_one (show n%10<10 by omega)];simp;omega
   have hf:0<f:=by
    cases f with
    |zero=>simp at hq;omega
    |succ=>omega
   obtain ⟨c,r,e,g1,g2⟩:=i3 hf
   refine ⟨?_,by rw [List.all_append,i2,List.all_cons,hd];rfl,fun _=>⟨c,r++[(48+n%10).toUInt8],by rw [e];rfl,g1,fun _=>g2 (by omega)⟩⟩
   unfold dec at i1 ⊢
   rw [foldl_dec,i1,dig_one (show n%10<10 by omega)];omega
theorem Lx.num {n:Nat} {rest:B} {ks:List Tk} (hn:n≤9223372036854775807) (hr:nh rest) (h:Lx rest ks):Lx (digits n++rest) (.num n::ks)∧okH (digits n):=by
 obtain ⟨h1,h2,h3⟩:=digitsF_ok 20 n (by omega)
 obtain ⟨c,r,e,g1,g2⟩:=h3 (by omega)
 obtain ⟨f1,f2,f3,f4,f5⟩:=dig_facts g1
 have e':digits n=c::r:=e
 rw [e']
 rw [e,List.all_cons,Bool.and_eq_true] at h2
 have hr':nhd dig rest:=by
  cases rest with
  |nil=>trivial
  |cons d q =>
   have:nam d=false:=hr
   show dig d=false
   cases hd:dig d with
   |false=>rfl
   |true=>rw [(dig_facts hd).2.2.2.1] at this;cases this
 obtain ⟨t1,t2⟩:=tw_app r rest h2.2 hr'
 refine ⟨.tok c (r++rest) rest _ ks f3 (by simp) (fun i=>?_) (by simp) h,c,r,rfl,f5⟩
 unfold lex1
 simp only [f1,if_false,g1,if_true]
 by_cases h0:n=0
 ·subst h0
  have:digitsF 20 0=[48]:=rfl
  rw [this] at e
  cases e
  exact ⟨_,rfl⟩
 ·rw [if_neg (g2 (by omega)),t1,t2,←e,h1,if_pos hn]
  exact ⟨_,rfl⟩
def esc (s:B):B:=s.flatMap (fun c=>if c.toNat=39∨c.toNat=92∨c.toNat=125 then [92,c] else if c.toNat=10 then [92,110] else [c])
theorem esc_cons (c:UInt8) (s:B):esc (c::s)=(if c.toNat=39∨c.toNat=92∨c.toNat=125 then [92,c] else if c.toNat=10 then [92,110] else [c])++esc s:=by simp [esc,List.flatMap_cons]
theorem esc_high (a s:B) (h:∀c ∈ a,128≤c.toNat):esc (a++s)=a++esc s:=by
 induction a with
 |nil=>rfl
 |cons c a ih =>
  have hc:=h c List.mem_cons_self
  rw [List.cons_append,esc_cons,if_neg (by omega),if_neg (by omega),ih fun c hc=>h c (List.mem_cons_of_mem _ hc)]
  rfl
theorem esc_len (s:B):s.length≤(esc s).length:=by
 induction s with
 |nil=>exact Nat.zero_le _
 |cons c s ih =>
  rw [esc_cons,List.length_append,List.length_cons]
  have:1≤(if c.toNat=39∨c.toNat=92∨c.toNat=125 then [92,c] else if c.toNat=10 then [92,110] else [c]:B).length:=by
   split
   ·simp
   ·split<;>simp
  omega
theorem ulen_one {c:UInt8} {r:B} (h:c.toNat<128):ulen (c::r)=1:=by
 show (if c.toNat<128 then 1 else _)=1
 rw [if_pos h]
theorem ulen_two {c:UInt8} {r:B} (h:¬c.toNat<128) (h0:ulen (c::r)≠0):2≤ulen (c::r):=by
 revert h0
 simp only [ulen,if_neg h]
 repeat' split
 all_goals intro h0
 all_goals first | omega | exact absurd rfl h0
theorem lexText_bs {d:UInt8} (h:d.toNat=39∨d.toNat=92∨d.toNat=125) (f:Nat) (r:B) (i:Nat) (out:B):lexText (f+1) (92::d::r) i out=lexText f r (i+2) (out++[d]):=by
 simp only [lexText]
 rw [if_neg (by decide),if_neg (by decide),if_pos (by decide),if_pos h]
theorem lexText_plain {c:UInt8} {r:B} {k:Nat} (h1:32≤c.toNat) (h2:c.toNat≠39) (h3:c.toNat≠92) (hk:ulen (c::r)=k+1) (f:Nat) (i:Nat) (out:B):lexText (f+1) (c::r) i out=lexText f ((c::r).drop (k+1)) (i+(k+1)) (out++(c::r).take (k+1)):=by
 simp only [lexText]
 rw [if_neg (by omega),if_neg h2,if_neg h3,hk];rfl
theorem lexText_esc (rest:B):∀(m:Nat) (s:B) (f i:Nat) (out:B),s.length≤m→valid s.length s=true→s.all okc=true→s.length<f→∃j,lexText f (esc s++39::rest) i out = .ok (out++s,rest,j):=by
 intro m
 induction m with
 |zero =>
  intro s f i out hm _ _ hf
  obtain rfl:s=[]:=List.length_eq_zero_iff.1 (by omega)
  match f,hf with
  |f+1,_=>exact ⟨_,by rw [List.append_nil];rfl⟩
 |succ m ih =>
  intro s f i out hm hv ha hf
  match s with
  |[] =>
   match f,hf with
   |f+1,_=>exact ⟨_,by rw [List.append_nil];rfl⟩
  |c::s =>
   match f,hf with
   |f+1,hf =>
    simp only [List.length_cons] at hm hf
    rw [show (c::s).length=s.length+1 from rfl,valid_step _ _ (by simp)] at hv
    split at hv
    ·cases hv
    ·rename_i hu
     rw [List.all_cons,Bool.and_eq_true] at ha
     obtain ⟨ha1,ha2⟩:=ha
     by_cases h128:c.toNat<128
     ·rw [ulen_one h128] at hv
      have hv:=valid_full _ _ (show valid s.length s=true from hv)
      rw [esc_cons]
      split
      ·rename_i hc
       have h92:lexText (f+1) ([92,c]++esc s++39::rest) i out=lexText f (esc s++39::rest) (i+2) (out++[c]):=lexText_bs hc f _ i out
       rw [h92]
       obtain ⟨j,hj⟩:=ih s f (i+2) (out++[c]) (by omega) hv ha2 (by omega)
       exact ⟨j,by rw [hj];simp⟩
      ·rename_i hc
       split
       ·rename_i h10
        have h92:lexText (f+1) ([92,110]++esc s++39::rest) i out=lexText f (esc s++39::rest) (i+2) (out++[10]):=rfl
        rw [h92]
        obtain ⟨j,hj⟩:=ih s f (i+2) (out++[10]) (by omega) hv ha2 (by omega)
        have:c=10:=UInt8.toNat_inj.1 h10
        exact ⟨j,by rw [hj,this];simp⟩
       ·rename_i h10
        have h32:32≤c.toNat:=by
         simp only [okc,Bool.or_eq_true,decide_eq_true_eq,beq_iff_eq] at ha1;omega
        have hl:lexText (f+1) ([c]++esc s++39::rest) i out=lexText f (esc s++39::rest) (i+1) (out++[c]):=lexText_plain (k:=0) h32 (by omega) (by omega) (ulen_one h128) f i out
        rw [hl]
        obtain ⟨j,hj⟩:=ih s f (i+1) (out++[c]) (by omega) hv ha2 (by omega)
        exact ⟨j,by rw [hj];simp⟩
     ·have h2:=ulen_two h128 hu
      have hlen:=ulen_le (c::s)
      have hhigh:=chunk_high (c::s) h2
      have hs:c::s=(c::s).take (ulen (c::s))++(c::s).drop (ulen (c::s)):=(List.take_append_drop _ _).symm
      have hv:=valid_full _ _ hv
      have hal:((c::s).drop (ulen (c::s))).all okc=true:=by
       have:(c::s).all okc=true:=by rw [List.all_cons,ha1,ha2];rfl
       rw [hs,List.all_append,Bool.and_eq_true] at this
       exact this.2
      have hdl:((c::s).drop (ulen (c::s))).length≤m∧((c::s).drop (ulen (c::s))).length<f:=by
       simp only [List.length_drop,List.length_cons] at hlen ⊢
       omega
      have hesc:esc (c::s)=(c::s).take (ulen (c::s))++esc ((c::s).drop (ulen (c::s))):=by
       conv=>lhs;rw [hs]
       exact esc_high _ _ hhigh
      have htl:((c::s).take (ulen (c::s))).length=ulen (c::s):=by simp only [List.length_take];omega
      have hul:∀x,ulen ((c::s).take (ulen (c::s))++x)=ulen (c::s):=fun x=>by
       rw [ulen_app _ _ (by rw [ulen_take _ hu];exact hu),ulen_take _ hu]
      rw [hesc]
      generalize hk:ulen (c::s)=k at *
      generalize hd:(c::s).drop k=d at *
      generalize ht:(c::s).take k=t at *
      have htc:∃t',t=c::t':=by
       subst ht
       match k,h2 with
       |k+1,_=>exact ⟨s.take k,rfl⟩
      obtain ⟨t',rfl⟩:=htc
      have hl:lexText (f+1) ((c::t')++esc d++39::rest) i out=lexText f (esc d++39::rest) (i+k) (out++(c::t')):=by
       match k,h2 with
       |k+1,_ =>
        have h5:=hul (esc d++39::rest)
        have h6:=lexText_plain (c:=c) (r:=t'++(esc d++39::rest)) (k:=k) (by omega) (by omega) (by omega) h5 f i out
        rw [show (c::t')++esc d++39::rest=c::(t'++(esc d++39::rest)) by simp,h6]
        show lexText f (((c::t')++(esc d++39::rest)).drop (k+1)) (i+(k+1)) (out++((c::t')++(esc d++39::rest)).take (k+1))=_
        rw [←htl,List.drop_left,List.take_left]
      rw [hl]
      obtain ⟨j,hj⟩:=ih d f (i+k) (out++(c::t')) hdl.1 hv hal hdl.2
      exact ⟨j,by rw [hj,List.append_assoc,←hs]⟩
theorem Lx.text {s rest:B} {ks:List Tk} (hs:said s=true) (h:Lx rest ks):Lx (quoted s++rest) (.text s::ks)∧okH (quoted s):=by
 have hs':=hs
 simp only [said,good,Bool.and_eq_true,decide_eq_true_eq] at hs'
 obtain ⟨⟨hv,hl⟩,ha⟩:=hs'
 refine ⟨?_,39,esc s++[39],rfl,by decide⟩
 have hq:quoted s++rest=39::(esc s++39::rest):=by simp [quoted,esc]
 rw [hq]
 have hel:=esc_len s
 refine .tok 39 _ rest _ ks (by decide) (by simp) (fun i=>?_) (by simp;omega) h
 obtain ⟨j,hj⟩:=lexText_esc rest s.length s ((esc s++39::rest).length+1) (i+1) [] (Nat.le_refl _) hv ha (by simp;omega)
 refine ⟨j,?_⟩
 unfold lex1
 simp only [show (39:UInt8).toNat=39 from rfl,if_true,hj,List.nil_append]
 rw [if_neg (by omega)]
theorem lex1_sign {c:UInt8} {r m:B} (h:(c.toNat==39||dig c||sml c)=false) (hf:signs.find? (fun s=>s.isPrefixOf (c::r))=some m) (i:Nat):lex1 (c::r) i=(.sign m,(c::r).drop m.length,i+m.length):=by
 simp only [Bool.or_eq_false_iff,beq_eq_false_iff_ne] at h
 unfold lex1
 simp only [h.1.1,if_false,h.1.2,Bool.false_eq_true,h.2,hf]
theorem sign_blank:∀m ∈ signs,∀rest:B,∃c r,m=c::r∧blk c=false∧(c.toNat==39||dig c||sml c)=false∧signs.find? (fun s=>s.isPrefixOf (m++32::rest))=some m:=by
 intro m hm
 simp only [signs,List.mem_cons,List.not_mem_nil,or_false] at hm
 rcases hm with rfl | rfl | rfl | rfl | rfl | rfl | rfl | rfl | rfl | rfl | rfl | rfl | rfl | rfl | rfl | rfl | rfl | rfl | rfl | rfl | rfl | rfl | rfl | rfl | rfl | rfl | rfl<;>exact fun rest=>⟨_,_,rfl,rfl,rfl,rfl⟩
theorem Lx.signB {m rest:B} {ks:List Tk} (hm:m ∈ signs) (h:Lx rest ks):Lx (m++32::rest) (.sign m::ks):=by
 obtain ⟨c,r,rfl,h1,h2,h3⟩:=sign_blank m hm rest
 refine .tok c (r++32::rest) (32::rest) _ ks h1 (by simp) (fun i=>⟨i+(c::r).length,?_⟩) (by simp) (.blank _ _ _ rfl h)
 have:=lex1_sign (c:=c) (r:=r++32::rest) h2 h3 i
 rw [this]
 simp
theorem Lx.sign1 {c:UInt8} {rest:B} {ks:List Tk} (hc:blk c=false∧(c.toNat==39||dig c||sml c)=false) (hf:signs.find? (fun s=>s.isPrefixOf (c::rest))=some [c]) (h:Lx rest ks):Lx (c::rest) (.sign [c]::ks) :=
 .tok c rest rest _ ks hc.1 (by simp) (fun i=>⟨_,by rw [lex1_sign hc.2 hf i];rfl⟩) (Nat.le_refl _) h
theorem Lx.not {rest:B} {ks:List Tk} (hr:okH rest) (h:Lx rest ks):Lx (33::rest) (.sign [33]::ks):=by
 refine Lx.sign1 ⟨rfl,rfl⟩ ?_ h
 obtain ⟨c,r,rfl,hc⟩:=hr
 have:((61:UInt8)==c)=false:=by simp;exact fun h=>hc h.symm
 simp [signs,List.find?,List.isPrefixOf,this]
theorem tab_signs:∀y ∈ tab,y.2.1 ∈ signs:=fun y hy=>by
 have:tab.all (fun y=>signs.contains y.2.1)=true:=by decide
 simpa using List.all_eq_true.1 this y hy
def Bd (b:B) (w:List Tk):Prop:=(∀rest ks,nh rest→Lx rest ks→Lx (b++rest) (w++ks))∧okH b
theorem Bd.paren {b:B} {w:List Tk} (h:Bd b w):Bd ([40]++b++[41]) (.sign [40]::w++[.sign [41]]):=by
 refine ⟨fun rest ks hr hl=>?_,40,b++[41],rfl,by decide⟩
 have h1:=h.1 (41::rest) (.sign [41]::ks) rfl (Lx.sign1 ⟨rfl,rfl⟩ rfl hl)
 have h2:=Lx.sign1 (c:=40) ⟨rfl,rfl⟩ rfl h1
 simpa using h2
theorem put_of {op n:Int} {s:B} {ks:List Ex} (h:Bd (body op n s (puts ks)) (bodyT op n s (putTs ks))) (L:Nat):Bd (put (.mk op n s ks) L) (putT (.mk op n s ks) L):=by
 by_cases hl:level op<L
 ·rw [putT_par hl,show put (.mk op n s ks) L=[40]++body op n s (puts ks)++[41] by simp only [put,if_pos hl]]
  exact h.paren
 ·rw [putT_own (by omega),show put (.mk op n s ks) L=body op n s (puts ks) by simp only [put,if_neg hl]]
  exact h
theorem put_all:∀(m:Nat) (e:Ex),e.size≤m→Ex.fine e=true→∀L,Bd (put e L) (putT e L):=by
 intro m
 induction m with
 |zero=>intro e he;have:=size_pos e;omega
 |succ m ih =>
  intro e he hall
  match e with
  | .mk op n s ks =>
   rw [all_mk,Bool.and_eq_true,Bool.and_eq_true] at hall
   obtain ⟨⟨hal,hmax⟩,hks⟩:=hall
   have hk:kidsOf op=(ks.length:Int):=by simp only [alone,Bool.and_eq_true,beq_iff_eq] at hal;exact hal.1
   rw [size_mk] at he
   have hsz:∀(l:List Ex),Ex.sizes l≤m→Ex.fines l=true→∀x ∈ l,x.size≤m∧Ex.fine x=true:=by
    intro l
    induction l with
    |nil=>intro _ _ x hx;cases hx
    |cons y r ih =>
     intro h hf x hx
     rw [sizes_cons] at h
     rw [alls_cons,Bool.and_eq_true] at hf
     rcases List.mem_cons.1 hx with rfl | hx
     ·exact ⟨by omega,hf.1⟩
     ·exact ih (by omega) hf.2 x hx
   have hA:∀x ∈ ks,∀L,Bd (put x L) (putT x L):=fun x hx=>ih x (hsz ks (by omega) hks x hx).1 (hsz ks (by omega) hks x hx).2
   refine put_of ?_
   rcases kids_cases hk with ⟨⟨mm,l⟩,hb,h2⟩ | ⟨hb,h⟩
   ·obtain ⟨a,b,rfl⟩:=len2 h2
    have ha:=hA a (by simp) l
    have hb':=hA b (by simp) (l+1)
    have e1:body op n s (puts [a,b])=put a l++([32]++mm++[32])++put b (l+1):=by unfold body;rw [hb];rfl
    have e2:bodyT op n s (putTs [a,b])=putT a l++.sign mm::putT b (l+1):=by unfold bodyT;rw [hb];rfl
    rw [e1,e2]
    refine ⟨fun rest ks hr hl=>?_,(ha.2.app _).app _⟩
    have h1:=hb'.1 rest ks hr hl
    have h2:=Lx.signB (tab_signs _ (binop_tab hb)) h1
    have h3:=ha.1 _ _ (show nh (32::_) from rfl) (.blank 32 _ _ rfl h2)
    simpa using h3
   ·rcases h with ⟨rfl,h2⟩ | ⟨rfl,h2⟩ | ⟨rfl,h2⟩ | ⟨rfl,h2⟩ | ⟨rfl,h2⟩ | ⟨rfl,h2⟩ | ⟨rfl,h2⟩ | ⟨rfl,h2⟩ | ⟨rfl,h2⟩ | ⟨rfl,h2⟩ | ⟨rfl,h2⟩ | ⟨rfl,h2⟩
    ·obtain ⟨a,b,c,rfl⟩:=len3 h2
     have ha:=hA a (by simp) 1
     have hb:=hA b (by simp) 0
     have hc:=hA c (by simp) 0
     show Bd (put a 1++[32,63,32]++put b 0++[32,58,32]++put c 0) (putT a 1++.sign [63]::putT b 0++.sign [58]::putT c 0)
     refine ⟨fun rest ks hr hl=>?_,(((ha.2.app _).app _).app _).app _⟩
     have h1:=Lx.signB (m:=[58]) (by decide) (hc.1 rest ks hr hl)
     have h2:=Lx.signB (m:=[63]) (by decide) (hb.1 _ _ (show nh (32::_) from rfl) (.blank 32 _ _ rfl h1))
     have h3:=ha.1 _ _ (show nh (32::_) from rfl) (.blank 32 _ _ rfl h2)
     simpa using h3
    ·obtain ⟨a,rfl⟩:=List.length_eq_one_iff.1 h2
     have ha:=hA a (by simp) 12
     show Bd ([45]++put a 12) (.sign [45]::putT a 12)
     exact ⟨fun rest ks hr hl=>Lx.sign1 (c:=45) ⟨rfl,rfl⟩ rfl (ha.1 rest ks hr hl),45,_,rfl,by decide⟩
    ·obtain ⟨a,rfl⟩:=List.length_eq_one_iff.1 h2
     have ha:=hA a (by simp) 12
     show Bd ([33]++put a 12) (.sign [33]::putT a 12)
     exact ⟨fun rest ks hr hl=>Lx.not (ha.2.app _) (ha.1 rest ks hr hl),33,_,rfl,by decide⟩
    ·obtain ⟨a,rfl⟩:=List.length_eq_one_iff.1 h2
     have ha:=hA a (by simp) 13
     have hn:isName s=true:=by simp [alone] at hal;exact hal.2.2
     show Bd (put a 13++([46]++s)) (putT a 13++[.sign [46],.name s])
     refine ⟨fun rest ks hr hl=>?_,ha.2.app _⟩
     have h1:=ha.1 _ _ (show nh (46::_) from rfl) (Lx.sign1 (c:=46) ⟨rfl,rfl⟩ rfl (Lx.name hn hr hl).1)
     simpa using h1
    ·obtain ⟨a,b,rfl⟩:=len2 h2
     have ha:=hA a (by simp) 13
     have hb:=hA b (by simp) 0
     show Bd (put a 13++[91]++put b 0++[93]) (putT a 13++.sign [91]::putT b 0++[.sign [93]])
     refine ⟨fun rest ks hr hl=>?_,((ha.2.app _).app _).app _⟩
     have h1:=hb.1 _ _ (show nh (93::_) from rfl) (Lx.sign1 (c:=93) ⟨rfl,rfl⟩ rfl hl)
     have h2:=ha.1 _ _ (show nh (91::_) from rfl) (Lx.sign1 (c:=91) ⟨rfl,rfl⟩ rfl h1)
     simpa using h2
    ·obtain ⟨a,rfl⟩:=List.length_eq_one_iff.1 h2
     have ha:=hA a (by simp) 0
     have hn:(1≤n∧n≤8)∧s=[]:=by simp [alone] at hal;exact hal.2
     obtain ⟨_,_,hcn,_⟩:=call_back hn.1.1 hn.1.2
     show Bd ((calls.getD (n.toNat - 1) []++[40])++put a 0++[41]) (.name (calls.getD (n.toNat - 1) [])::.sign [40]::putT a 0++[.sign [41]])
     refine ⟨fun rest ks hr hl=>?_,(((Lx.name hcn (rest:=[]) (ks:=[]) trivial .fin).2.app _).app _).app _⟩
     have h1:=ha.1 _ _ (show nh (41::_) from rfl) (Lx.sign1 (c:=41) ⟨rfl,rfl⟩ rfl hl)
     have h2:=(Lx.name hcn (show nh (40::_) from rfl) (Lx.sign1 (c:=40) ⟨rfl,rfl⟩ rfl h1)).1
     simpa using h2
    ·have hn:0≤n:=by simp [alone] at hal;exact hal.2.1
     have hm:n.toNat≤9223372036854775807:=by have:=of_decide_eq_true hmax;omega
     exact ⟨fun rest ks hr hl=>(Lx.num hm hr hl).1,(Lx.num hm (rest:=[]) (ks:=[]) trivial .fin).2⟩
    ·have hn:said s=true:=by simp [alone] at hal;exact hal.2.2
     exact ⟨fun rest ks hr hl=>(Lx.text hn hl).1,(Lx.text hn (rest:=[]) (ks:=[]) .fin).2⟩
    ·have hn:isName s=true:=by simp [alone] at hal;exact hal.2.1.2
     exact ⟨fun rest ks hr hl=>(Lx.name hn hr hl).1,(Lx.name hn (rest:=[]) (ks:=[]) trivial .fin).2⟩
    ·exact ⟨fun rest ks hr hl=>(Lx.name (s:=[110,117,108,108]) (by decide) hr hl).1,(Lx.name (s:=[110,117,108,108]) (by decide) (rest:=[]) (ks:=[]) trivial .fin).2⟩
    ·exact ⟨fun rest ks hr hl=>(Lx.name (s:=[102,97,108,115,101]) (by decide) hr hl).1,(Lx.name (s:=[102,97,108,115,101]) (by decide) (rest:=[]) (ks:=[]) trivial .fin).2⟩
    ·exact ⟨fun rest ks hr hl=>(Lx.name (s:=[116,114,117,101]) (by decide) hr hl).1,(Lx.name (s:=[116,114,117,101]) (by decide) (rest:=[]) (ks:=[]) trivial .fin).2⟩
def parsed (s:B):Option (Except F Ex):=parseT 11000 (toksOf s)
theorem toksOf_lx {s:B} {ks:List Tk} (h:Lx s ks):Ag (toksOf s) ks:=by
 rcases h.toks (s.length+1) 0 0 (by omega) with ⟨h,_⟩ | h
 ·omega
 ·exact h
theorem parseT_good {ts:List T} {e:Ex} {ks:List Tk} (ha:Ag ts ks) (hg:Good (P 11000 .whole 1 ts) e []) {x:Except F Ex} (hx:parseT 11000 ts=some x):x = .ok e∨∃c p,x = .error (c,p)∧(c=1001∨c=1002):=by
 obtain ⟨t,r,rfl,hb⟩:=ha.ne
 have hp:parseT 11000 (t::r)=match P 11000 .whole 1 (t::r) with
  |some (.ok (e,ts))=>if isFin ts then some (.ok e) else some (.error (1000,atT ts))
  |some (.error f)=>some (.error f)
  |none=>none:=by
  obtain ⟨k,a⟩:=t
  unfold parseT
  cases k<;>first | rfl | exact absurd rfl (hb _ _)
 rw [hp] at hx
 rcases hg with (h0 | ⟨c,p,h0,hc⟩) | ⟨u,h0,hu⟩
 ·rw [h0] at hx;cases hx
 ·rw [h0] at hx;cases hx;exact .inr ⟨c,p,rfl,hc⟩
 ·rw [h0] at hx
  simp only [X.ok,hu.nil,if_true] at hx
  cases hx;exact .inl rfl
theorem round_ok {e:Ex} (hf:Ex.fine e=true) {x:Except F Ex} (hx:parsed (put e 0)=some x):x = .ok e∨∃c p,x = .error (c,p)∧(c=1001∨c=1002):=by
 have hl:Lx (put e 0++[]) (putT e 0++[]):=(put_all e.size e (Nat.le_refl _) hf 0).1 [] [] trivial .fin
 rw [List.append_nil] at hl
 have ha:=toksOf_lx hl
 refine parseT_good ha ?_ hx
 have hs:stopL 0 []:=⟨rfl,rfl,rfl,fun M _ h1 h2=>by
  have:M=1∨M=2∨M=3∨M=4∨M=5∨M=6∨M=7∨M=8∨M=9∨M=10∨M=11:=by omega
  rcases this with rfl | rfl | rfl | rfl | rfl | rfl | rfl | rfl | rfl | rfl | rfl<;>rfl,fun _=>rfl⟩
 exact ((C_all e.size e (Nat.le_refl _) (fine_all e hf)).1 0 (by omega)).1 11000 1 _ [] ha hs
end Go.Abs.X
namespace Go.Abs.X
def Exact (ts:List T) (ks:List Tk):Prop:=ts.map (·.k)=ks++[.fin]∧∀k ∈ ks,k≠.fin∧∀c p,k≠.bad c p
theorem Exact.nil {ts:List T} (h:Exact ts []):∃a,ts=[⟨.fin,a⟩]:=by
 obtain ⟨h1,_⟩:=h
 match ts,h1 with
 |[⟨k,a⟩],h1=>simp at h1;subst h1;exact ⟨a,rfl⟩
theorem Exact.cons {ts:List T} {k:Tk} {ks:List Tk} (h:Exact ts (k::ks)):∃a r,ts=⟨k,a⟩::r∧Exact r ks:=by
 obtain ⟨h1,h2⟩:=h
 match ts,h1 with
 |⟨k',a⟩::r,h1 =>
  rw [List.map_cons,List.cons_append] at h1
  obtain ⟨h3,h4⟩:=List.cons.inj h1
  simp only at h3
  subst h3
  exact ⟨a,r,rfl,h4,fun x hx=>h2 x (List.mem_cons_of_mem _ hx)⟩
theorem Exact.ne {ts:List T} {ks:List Tk} (h:Exact ts ks):∃t r,ts=t::r∧∀c p,t.k≠.bad c p:=by
 cases ks with
 |nil=>obtain ⟨a,rfl⟩:=h.nil;exact ⟨_,_,rfl,fun c p h=>by cases h⟩
 |cons k ks=>obtain ⟨a,r,rfl,_⟩:=h.cons;exact ⟨_,_,rfl,(h.2 k List.mem_cons_self).2⟩
def s41 (z:List Tk):List Tk:=.sign [41]::z
theorem isS_up {ts ts':List T} {ks z:List Tk} (h:Exact ts ks) (h':Ag ts' (ks++s41 z)) {x:B} (hx:isS ts x=true):isS ts' x=true:=by
 rw [h'.isS]
 cases ks with
 |nil=>obtain ⟨a,rfl⟩:=h.nil;cases hx
 |cons k ks=>obtain ⟨a,r,rfl,_⟩:=h.cons;cases k<;>exact hx
def Sm (z:List Tk) (R R':Res):Prop:=∀e u,R=ok e u→Bad R'∨∃ku u',Exact u ku∧R'=ok e u'∧Ag u' (ku++s41 z)
section
variable {z:List Tk}
theorem Sm.ok {e:Ex} {u u':List T} {ku:List Tk} (h:Exact u ku) (h':Ag u' (ku++s41 z)):Sm z (X.ok e u) (X.ok e u'):=fun e' v hv=>by
 cases hv;exact .inr ⟨ku,u',h,rfl,h'⟩
theorem Sm.err {f:F} {R':Res}:Sm z (some (.error f)) R':=fun e u h=>by cases h
theorem Sm.none {R':Res}:Sm z none R':=fun e u h=>by cases h
theorem Sm.bad {R R':Res} (h:Bad R'):Sm z R R':=fun _ _ _=>.inl h
theorem Sm.andThen {R R':Res} {K K':Ex→List T→Res} (h:Sm z R R') (hK:∀e v v' kv,Exact v kv→Ag v' (kv++s41 z)→Sm z (K e v) (K' e v')):Sm z (X.andThen R K) (X.andThen R' K'):=by
 match R,h with
 |some (.ok (e,v)),h =>
  rcases h e v rfl with (rfl | ⟨c,p,rfl,hc⟩) | ⟨kv,v',h1,rfl,h2⟩
  ·exact .bad (.inl rfl)
  ·exact .bad (.inr ⟨c,p,rfl,hc⟩)
  ·exact hK e v v' kv h1 h2
 |some (.error f),_=>exact .err
 |Option.none,_=>exact .none
theorem Sm.adv {ts ts':List T} {ks:List Tk} (h:Exact ts ks) (h':Ag ts' (ks++s41 z)) {K K':List T→Res} (hK:∀v v' kv,Exact v kv→Ag v' (kv++s41 z)→Sm z (K v) (K' v')):Sm z (X.adv ts K) (X.adv ts' K'):=by
 cases ks with
 |nil=>obtain ⟨a,rfl⟩:=h.nil;exact .err
 |cons k ks =>
  obtain ⟨a,r,rfl,hr⟩:=h.cons
  rcases adv_ag h' K' with hb | ⟨u,hu,he⟩
  ·exact .bad hb
  ·rw [he]
   obtain ⟨t,q,rfl,hb⟩:=hr.ne
   have:X.adv (⟨k,a⟩::t::q) K=K (t::q):=by
    obtain ⟨k',a'⟩:=t
    cases k'<;>first | rfl | exact absurd rfl (hb _ _)
   rw [this]
   exact hK _ _ ks hr hu
theorem Sm.want {s:B} {ts ts':List T} {ks:List Tk} (h:Exact ts ks) (h':Ag ts' (ks++s41 z)) {K K':List T→Res} (hK:∀v v' kv,Exact v kv→Ag v' (kv++s41 z)→Sm z (K v) (K' v')):Sm z (X.want s ts K) (X.want s ts' K'):=by
 unfold X.want
 by_cases hs:isS ts s=true
 ·rw [if_pos hs,if_pos (isS_up h h' hs)];exact .adv h h' hK
 ·rw [if_neg hs];exact .err
end
theorem tw_tab {p:UInt8→Bool} (hp:p 9=false) (r y:B):(r++9::y).takeWhile p=r.takeWhile p∧(r++9::y).dropWhile p=r.dropWhile p++9::y:=by
 induction r with
 |nil=>simp [List.takeWhile_cons,List.dropWhile_cons,hp]
 |cons c r ih =>
  by_cases h:p c=true
  ·simp [List.takeWhile_cons,List.dropWhile_cons,h,ih.1,ih.2]
  ·simp [List.takeWhile_cons,List.dropWhile_cons,h]
theorem lexText_app (y:B):∀(f:Nat) (r:B) (i i':Nat) (out o q:B) (j:Nat) (f':Nat),f≤f'→lexText f r i out = .ok (o,q,j)→q.length≤r.length∧∃j',lexText f' (r++y) i' out = .ok (o,q++y,j'):=by
 intro f
 induction f with
 |zero=>intro r i i' out o q j f' _ h;simp [lexText] at h
 |succ f ih =>
  intro r i i' out o q j f' hf h
  match r with
  |[]=>simp [lexText] at h
  |c::r =>
   match f',hf with
   |f'+1,hf =>
    have hf:f≤f':=by omega
    simp only [lexText] at h
    rw [List.cons_append]
    simp only [lexText]
    by_cases h32:c.toNat<32
    ·rw [if_pos h32] at h;cases h
    rw [if_neg h32] at h ⊢
    by_cases h39:c.toNat=39
    ·rw [if_pos h39] at h ⊢
     cases h
     exact ⟨by simp,_,rfl⟩
    rw [if_neg h39] at h ⊢
    by_cases h92:c.toNat=92
    ·rw [if_pos h92] at h ⊢
     cases r with
     |nil=>cases h
     |cons d r =>
      rw [List.cons_append]
      dsimp only at h ⊢
      by_cases hd:d.toNat=39∨d.toNat=92∨d.toNat=125
      ·rw [if_pos hd] at h ⊢
       obtain ⟨h1,h2⟩:=ih _ _ (i'+2) _ _ _ _ f' hf h
       exact ⟨by simp only [List.length_cons];omega,h2⟩
      ·rw [if_neg hd] at h ⊢
       by_cases h10:d.toNat=110
       ·rw [if_pos h10] at h ⊢
        obtain ⟨h1,h2⟩:=ih _ _ (i'+2) _ _ _ _ f' hf h
        exact ⟨by simp only [List.length_cons];omega,h2⟩
       ·rw [if_neg h10] at h;cases h
    ·rw [if_neg h92] at h ⊢
     split at h
     ·cases h
     ·rename_i hm
      have hu:ulen (c::r)≠0:=fun h0=>hm h0
      have hl:=ulen_le (c::r)
      have hua:=ulen_app (c::r) y hu
      rw [List.cons_append] at hua
      rw [hua]
      split
      ·rename_i h0;exact absurd h0 hu
      ·obtain ⟨h1,j',h2⟩:=ih _ _ (i'+ulen (c::r)) _ _ _ _ f' hf h
       refine ⟨by simp only [List.length_drop] at h1;omega,j',?_⟩
       rw [←List.cons_append,List.drop_append_of_le_length hl,List.take_append_of_le_length hl]
       exact h2
theorem prefix_tab:∀(m l y:B),(9:UInt8) ∉ m→m.isPrefixOf (l++9::y)=m.isPrefixOf l:=by
 intro m
 induction m with
 |nil=>intro l y _;cases l<;>rfl
 |cons c m ih =>
  intro l y h
  cases l with
  |nil =>
   have:(c==9)=false:=by simp;exact fun h9=>h (h9▸List.mem_cons_self)
   simp [List.isPrefixOf,this]
  |cons d l =>
   have:=ih l y fun h9=>h (List.mem_cons_of_mem _ h9)
   simp only [List.cons_append,List.isPrefixOf,this]
theorem signs_tab:∀m ∈ signs,(9:UInt8) ∉ m∧1≤m.length:=fun m hm=>by
 have:signs.all (fun m=>!m.contains 9&&decide (1≤m.length))=true:=by decide
 have:=List.all_eq_true.1 this m hm
 simp only [Bool.and_eq_true,decide_eq_true_eq,Bool.not_eq_true'] at this
 exact ⟨fun h=>by have h2:=this.1;simp at h2;exact h2 h,this.2⟩
theorem lex1_more {c:UInt8} {r q:B} {k:Tk} {i j:Nat} (h:lex1 (c::r) i=(k,q,j)) (hk:∀e p,k≠.bad e p):q.length≤r.length∧k≠.fin∧(∀i',∃j',lex1 (c::r) i'=(k,q,j'))∧∀y i',∃j',lex1 (c::(r++9::y)) i'=(k,q++9::y,j'):=by
 unfold lex1 at h ⊢
 dsimp only at h ⊢
 by_cases h39:c.toNat=39
 ·rw [if_pos h39] at h
  split at h
  ·cases h;exact absurd rfl (hk _ _)
  ·rename_i out q' k' ho
   split at h
   ·cases h;exact absurd rfl (hk _ _)
   ·rename_i hlen
    cases h
    refine ⟨(lexText_app [] _ _ _ 0 _ _ _ _ _ (Nat.le_refl _) ho).1,by simp,fun i'=>?_,fun y i'=>?_⟩
    ·obtain ⟨_,j',h2⟩:=lexText_app [] _ _ _ (i'+1) _ _ _ _ _ (Nat.le_refl _) ho
     rw [List.append_nil,List.append_nil] at h2
     refine ⟨j',?_⟩
     rw [if_pos h39,h2]
     dsimp only
     rw [if_neg hlen]
    ·obtain ⟨_,j',h2⟩:=lexText_app (9::y) _ _ _ (i'+1) _ _ _ _ ((r++9::y).length+1) (by simp) ho
     refine ⟨j',?_⟩
     rw [if_pos h39,h2]
     dsimp only
     rw [if_neg hlen]
 ·rw [if_neg h39] at h
  by_cases hd:dig c=true
  ·rw [if_pos hd] at h
   by_cases h48:c.toNat=48
   ·rw [if_pos h48] at h
    cases h
    exact ⟨Nat.le_refl _,by simp,fun i'=>⟨_,by rw [if_neg h39,if_pos hd,if_pos h48]⟩,fun y i'=>⟨_,by rw [if_neg h39,if_pos hd,if_pos h48]⟩⟩
   ·rw [if_neg h48] at h
    split at h
    ·rename_i hm
     cases h
     have ht:=takeWhile_len (p:=dig) r
     refine ⟨by omega,by simp,fun i'=>⟨_,by rw [if_neg h39,if_pos hd,if_neg h48,if_pos hm]⟩,fun y i'=>?_⟩
     obtain ⟨t1,t2⟩:=tw_tab (p:=dig) (by decide) r y
     exact ⟨_,by rw [if_neg h39,if_pos hd,if_neg h48,t1,t2,if_pos hm]⟩
    ·cases h;exact absurd rfl (hk _ _)
  ·rw [if_neg hd] at h
   by_cases hs:sml c=true
   ·rw [if_pos hs] at h
    split at h
    ·cases h;exact absurd rfl (hk _ _)
    ·rename_i hm
     cases h
     have ht:=takeWhile_len (p:=nam) r
     refine ⟨by omega,by simp,fun i'=>⟨_,by rw [if_neg h39,if_neg hd,if_pos hs,if_neg hm]⟩,fun y i'=>?_⟩
     obtain ⟨t1,t2⟩:=tw_tab (p:=nam) (by decide) r y
     exact ⟨_,by rw [if_neg h39,if_neg hd,if_pos hs,t1,t2,if_neg hm]⟩
   ·rw [if_neg hs] at h
    split at h
    ·rename_i m hf
     cases h
     have hm:=List.mem_of_find?_eq_some hf
     have hp:=List.find?_some hf
     have hle:m.length≤(c::r).length:=(List.isPrefixOf_iff_prefix.1 hp).length_le
     have h1:=(signs_tab m hm).2
     refine ⟨by simp only [List.length_drop,List.length_cons];omega,by simp,fun i'=>⟨_,by rw [if_neg h39,if_neg hd,if_neg hs]⟩,fun y i'=>?_⟩
     have hf2:signs.find? (fun s=>s.isPrefixOf (c::(r++9::y)))=some m:=by
      rw [←hf]
      have:∀q:List B,(∀m ∈ q,(9:UInt8) ∉ m)→q.find? (fun s=>s.isPrefixOf (c::(r++9::y)))=q.find? (fun s=>s.isPrefixOf (c::r)):=by
       intro q
       induction q with
       |nil=>intro _;rfl
       |cons m q ih =>
        intro hq
        rw [List.find?_cons,List.find?_cons,←List.cons_append,prefix_tab m (c::r) y (hq m List.mem_cons_self),List.cons_append,ih fun m hm=>hq m (List.mem_cons_of_mem _ hm)]
      exact this signs fun m hm=>(signs_tab m hm).1
     refine ⟨i'+m.length,?_⟩
     rw [if_neg h39,if_neg hd,if_neg hs,hf2]
     dsimp only
     rw [←List.cons_append,List.drop_append_of_le_length hle]
    ·cases h;exact absurd rfl (hk _ _)
theorem Lx.more {s:B} {ks:List Tk} (h:Lx s ks) {y:B} {ky:List Tk} (hy:Lx (9::y) ky):Lx (s++9::y) (ks++ky):=by
 induction h with
 |fin=>exact hy
 |blank c r ks hc _ ih=>exact .blank _ _ _ hc ih
 |tok c r q k ks hc hk hl hq _ ih =>
  obtain ⟨j,hj⟩:=hl 0
  obtain ⟨_,_,_,h4⟩:=lex1_more hj hk
  exact .tok c _ (q++9::y) k _ hc hk (h4 y) (by simp;omega) ih
def Suf (ts:List T) (R:Res):Prop:=∀e u,R=ok e u→∃p,ts=p++u
section
variable {ts:List T}
theorem Suf.ok {e:Ex} {us:List T} (h:∃p,ts=p++us):Suf ts (X.ok e us):=fun _ _ hu=>by cases hu;exact h
theorem Suf.err {f:F}:Suf ts (some (.error f)):=fun _ _ h=>by cases h
theorem Suf.none:Suf ts none:=fun _ _ h=>by cases h
theorem Suf.andThen {R:Res} {K:Ex→List T→Res} (h:Suf ts R) (hK:∀e us,Suf us (K e us)):Suf ts (X.andThen R K):=by
 match R,h with
 |some (.ok (e,v)),h =>
  intro e' u hu
  obtain ⟨p,rfl⟩:=h e v rfl
  obtain ⟨q,rfl⟩:=hK e v e' u hu
  exact ⟨p++q,by simp⟩
 |some (.error f),_=>exact .err
 |Option.none,_=>exact .none
theorem Suf.adv {K:List T→Res} (hK:∀us,Suf us (K us)):Suf ts (X.adv ts K):=by
 unfold X.adv
 match ts with
 |[]=>exact .err
 |[_]=>exact .err
 |t::u::r =>
  dsimp only
  split
  ·exact .err
  ·intro e v hv
   obtain ⟨q,hq⟩:=hK _ e v hv
   exact ⟨t::q,by rw [hq];rfl⟩
theorem Suf.want {s:B} {K:List T→Res} (hK:∀us,Suf us (K us)):Suf ts (X.want s ts K):=by
 unfold X.want
 split
 ·exact .adv hK
 ·exact .err
theorem Suf.ite {c:Prop} [Decidable c] {a b:Res} (h1:Suf ts a) (h2:Suf ts b):Suf ts (if c then a else b):=by split<;>assumption
end
end Go.Abs.X
namespace Go.Abs.X
theorem esc_max (s:B):(esc s).length≤2*s.length:=by
 induction s with
 |nil=>exact Nat.le_refl _
 |cons c s ih =>
  rw [esc_cons,List.length_append,List.length_cons]
  have:(if c.toNat=39∨c.toNat=92∨c.toNat=125 then [92,c] else if c.toNat=10 then [92,110] else [c]:B).length≤2:=by
   split
   ·simp
   ·split<;>simp
  omega
theorem quoted_max {s:B} (h:said s=true):(quoted s).length≤8194:=by
 have h1:=esc_max s
 have h2:s.length≤4096:=by simp only [said,good,Bool.and_eq_true,decide_eq_true_eq] at h;exact h.1.2
 show ([39]++esc s++[39]).length≤_
 simp;omega
theorem digitsF_max:∀f n,(digitsF f n).length≤f:=by
 intro f
 induction f with
 |zero=>intro n;simp [digitsF]
 |succ f ih =>
  intro n
  simp only [digitsF]
  split
  ·simp
  ·have:=ih (n / 10);simp;omega
theorem name_max {s:B} (h:isName s=true):s.length≤32:=by
 cases s with
 |nil=>simp
 |cons c r=>simp only [isName,Bool.and_eq_true,decide_eq_true_eq] at h;exact h.2
theorem signs_max:∀m ∈ signs,m.length≤2:=by decide
theorem put_max:∀(m:Nat) (e:Ex),e.size≤m→Ex.fine e=true→∀L,(put e L).length≤8400*e.size:=by
 intro m
 induction m with
 |zero=>intro e he;have:=size_pos e;omega
 |succ m ih =>
  intro e he hall L
  match e with
  | .mk op n s ks =>
   rw [all_mk,Bool.and_eq_true,Bool.and_eq_true] at hall
   obtain ⟨⟨hal,hmax⟩,hks⟩:=hall
   have hk:kidsOf op=(ks.length:Int):=by simp only [alone,Bool.and_eq_true,beq_iff_eq] at hal;exact hal.1
   rw [size_mk] at he
   have hsz:∀(l:List Ex),Ex.sizes l≤m→Ex.fines l=true→∀x ∈ l,x.size≤m∧Ex.fine x=true:=by
    intro l
    induction l with
    |nil=>intro _ _ x hx;cases hx
    |cons y r ih =>
     intro h hf x hx
     rw [sizes_cons] at h
     rw [alls_cons,Bool.and_eq_true] at hf
     rcases List.mem_cons.1 hx with rfl | hx
     ·exact ⟨by omega,hf.1⟩
     ·exact ih (by omega) hf.2 x hx
   have hA:∀x ∈ ks,∀L,(put x L).length≤8400*x.size:=fun x hx=>ih x (hsz ks (by omega) hks x hx).1 (hsz ks (by omega) hks x hx).2
   have key:(body op n s (puts ks)).length≤8300+8400*Ex.sizes ks:=by
    rcases kids_cases hk with ⟨⟨mm,l⟩,hb,h2⟩ | ⟨hb,h⟩
    ·obtain ⟨a,b,rfl⟩:=len2 h2
     have ha:=hA a (by simp) l
     have hb':=hA b (by simp) (l+1)
     have e1:body op n s (puts [a,b])=put a l++([32]++mm++[32])++put b (l+1):=by unfold body;rw [hb];rfl
     have:=signs_max _ (tab_signs _ (binop_tab hb))
     rw [e1]
     simp only [List.length_append,List.length_cons,List.length_nil,sizes_cons,sizes_nil] at this ⊢
     omega
    ·rcases h with ⟨rfl,h2⟩ | ⟨rfl,h2⟩ | ⟨rfl,h2⟩ | ⟨rfl,h2⟩ | ⟨rfl,h2⟩ | ⟨rfl,h2⟩ | ⟨rfl,h2⟩ | ⟨rfl,h2⟩ | ⟨rfl,h2⟩ | ⟨rfl,h2⟩ | ⟨rfl,h2⟩ | ⟨rfl,h2⟩
     ·obtain ⟨a,b,c,rfl⟩:=len3 h2
      have ha:=hA a (by simp) 1
      have hb:=hA b (by simp) 0
      have hc:=hA c (by simp) 0
      show (put a 1++[32,63,32]++put b 0++[32,58,32]++put c 0).length≤_
      simp only [List.length_append,List.length_cons,List.length_nil,sizes_cons,sizes_nil]
      omega
     ·obtain ⟨a,rfl⟩:=List.length_eq_one_iff.1 h2
      have ha:=hA a (by simp) 12
      show ([45]++put a 12).length≤_
      simp only [List.length_append,List.length_cons,List.length_nil,sizes_cons,sizes_nil]
      omega
     ·obtain ⟨a,rfl⟩:=List.length_eq_one_iff.1 h2
      have ha:=hA a (by simp) 12
      show ([33]++put a 12).length≤_
      simp only [List.length_append,List.length_cons,List.length_nil,sizes_cons,sizes_nil]
      omega
     ·obtain ⟨a,rfl⟩:=List.length_eq_one_iff.1 h2
      have ha:=hA a (by simp) 13
      have hn:isName s=true:=by simp [alone] at hal;exact hal.2.2
      have:=name_max hn
      show (put a 13++([46]++s)).length≤_
      simp only [List.length_append,List.length_cons,List.length_nil,sizes_cons,sizes_nil]
      omega
     ·obtain ⟨a,b,rfl⟩:=len2 h2
      have ha:=hA a (by simp) 13
      have hb:=hA b (by simp) 0
      show (put a 13++[91]++put b 0++[93]).length≤_
      simp only [List.length_append,List.length_cons,List.length_nil,sizes_cons,sizes_nil]
      omega
     ·obtain ⟨a,rfl⟩:=List.length_eq_one_iff.1 h2
      have ha:=hA a (by simp) 0
      have hn:(1≤n∧n≤8)∧s=[]:=by simp [alone] at hal;exact hal.2
      obtain ⟨_,_,hcn,_⟩:=call_back hn.1.1 hn.1.2
      have:=name_max hcn
      show ((calls.getD (n.toNat - 1) []++[40])++put a 0++[41]).length≤_
      simp only [List.length_append,List.length_cons,List.length_nil,sizes_cons,sizes_nil]
      omega
     ·have:=digitsF_max 20 n.toNat
      show (digitsF 20 n.toNat).length≤_
      omega
     ·have hn:said s=true:=by simp [alone] at hal;exact hal.2.2
      have:=quoted_max hn
      show (quoted s).length≤_
      omega
     ·have hn:isName s=true:=by simp [alone] at hal;exact hal.2.1.2
      have:=name_max hn
      show s.length≤_
      omega
     ·show (4:Nat)≤_;omega
     ·show (5:Nat)≤_;omega
     ·show (4:Nat)≤_;omega
   rw [size_mk]
   simp only [put]
   split
   ·simp only [List.length_append,List.length_cons,List.length_nil];omega
   ·omega
end Go.Abs.X
namespace Go.Abs
open Go Go.Proofs Go.IntWalk Go.Abs.X
mutual
theorem fine_of (e:Ex) (h1:Ex.all e=true) (h2:inR e=true):Ex.fine e=true:=by
 match e with
 | .mk op n s k =>
  have h1:(alone op n s k.length&&Ex.alls k)=true:=h1
  have h2:(decide (n≤9223372036854775807)&&inRs k)=true:=h2
  rw [Bool.and_eq_true] at h1 h2
  rw [all_mk,Bool.and_eq_true,Bool.and_eq_true]
  exact ⟨⟨h1.1,h2.1⟩,fines_of k h1.2 h2.2⟩
termination_by structural e
theorem fines_of (es:List Ex) (h1:Ex.alls es=true) (h2:inRs es=true):Ex.fines es=true:=by
 match es with
 |[]=>rfl
 |x::r =>
  have h1:(Ex.all x&&Ex.alls r)=true:=h1
  have h2:(inR x&&inRs r)=true:=h2
  rw [Bool.and_eq_true] at h1 h2
  rw [alls_cons,Bool.and_eq_true]
  exact ⟨fine_of x h1.1 h2.1,fines_of r h1.2 h2.2⟩
termination_by structural es
end
theorem beq_self (e:Ex):Ex.beq e e=true:=(Ex.beq_iff e e).2 rfl
theorem back_parse {st:St} (hst:Cl st) {e:Ex} (hf:Ex.fine e=true) (hz:e.size≤512):(∃cs,ExR e cs∧cw 11 [.str (put e 0)] st=some (.ret (.tup [.agg cs,.int .i64 0,.int .i64 0]),st))∨∃(c:Int) (p:Nat),(c=1001∨c=1002)∧cw 11 [.str (put e 0)] st=some (.ret (.tup [.agg ex0,.int .i64 (p:Int),.int .i64 c]),st):=by
 have hl:=put_max e.size e (Nat.le_refl _) hf 0
 obtain ⟨x,hx,hx2⟩:=parse_ok hst (s:=put e 0) (by omega)
 rcases round_ok hf hx with rfl | ⟨c,p,rfl,hc⟩
 ·exact .inl hx2
 ·exact .inr ⟨c,p,hc,hx2⟩
theorem back_ok {e:Ex} {cs:List AV} (he:ExR e cs) (hs:sane e=true) (hn:inR e=true) {st:St} (hst:Cl st):cw 3 [.agg cs] st=some (.ret (.bool true),st):=by
 have he':=he
 have hcell:=he.cells
 obtain ⟨op,n,s,kids⟩:=e
 obtain ⟨ka,rows,rfl,hsl,hfl,hks⟩:=he
 refine F3 op n s ka st ?_
 rw [hcell,Option.bind_some]
 generalize hcs:([.int .i64 op,.int .i64 n,.str s,ka]:List AV)=cs at he'
 have c1:Cl (AObj.free 0::XB cs::st):=(hst.cons (x:=XB cs) (he'.closeds _)).cons rfl
 have u1:Up st (AObj.free 0::XB cs::st):=((Up.refl st).push _).push _
 have g1:St.get (AObj.free 0::XB cs::st) st.length=some (XB cs):=keep_push (get_at1 rfl)
 show (callB (cw 7 [] (AObj.free 0::XB cs::st)) _ _)=_
 generalize (AObj.free 0::XB cs::st:St)=S1 at c1 u1 g1 ⊢
 generalize he0:Ex.mk op n s kids=e at he' hs hn
 simp only [awake_ok c1,callB_ret,boolV_bool,Option.bind_some,Bool.not_true,cond_false,box_read g1,he'.row,shallow_ok hs he' c1]
 cases hsh:shal e 4096 with
 |false=>simp only [Bool.not_false,cond_true];exact outL_up_ret u1 hst rfl rfl
 |true =>
  simp only [Bool.not_true,cond_false,print_ok c1 he' hs hn,callB_ret,extractA_tup,List.getElem?_cons_zero,List.getElem?_cons_succ,Option.bind_some,intV_int,strV_str,num_ok]
  cases hm:may e with
  |false =>
   have hp:print e=none:=by unfold print;rw [hm];rfl
   simp only [hp,Option.getD_none,Bool.false_eq_true,if_false,show ((1003:Int) != 0)=true from rfl,cond_true,strA_eql,boolV_bool,show (([]:List UInt8)==[])=true from rfl,Option.bind_some,num_ok,callB_ret,intV_int]
   exact outL_up_ret u1 hst rfl rfl
  |true =>
   have hp:print e=some (put e 0):=by unfold print;rw [hm];rfl
   have hm':=hm
   unfold may at hm'
   rw [Bool.and_eq_true,decide_eq_true_eq] at hm'
   simp only [hp,Option.getD_some,if_true,show ((0:Int) != 0)=false from rfl,cond_false]
   rcases back_parse c1 (fine_of e hm'.1 hn) hm'.2 with ⟨cy,ey,h⟩ | ⟨c,p,hc,h⟩
   ·simp only [h,callB_ret,extractA_tup,List.getElem?_cons_zero,List.getElem?_cons_succ,Option.bind_some,intV_int,ey.cells]
    have hw:writeA (AObj.free 0::AObj.box 24 [.int .i64 0,.int .i64 0,.str [],.nils]::S1) (.bp S1.length 0) cy=_:=newX ey
    rw [hw]
    have c2:Cl (AObj.free 0::XB cy::S1):=(c1.cons (x:=XB cy) (ey.closeds _)).cons rfl
    have u2:Up st (AObj.free 0::XB cy::S1):=(u1.push _).push _
    have g2:St.get (AObj.free 0::XB cy::S1) st.length=some (XB cs):=keep_push (keep_push g1)
    have g3:St.get (AObj.free 0::XB cy::S1) S1.length=some (XB cy):=keep_push (get_at1 rfl)
    simp only [Option.bind_some]
    generalize (AObj.free 0::XB cy::S1:St)=S2 at c2 u2 g2 g3 ⊢
    simp only [num_ok,callB_ret,intV_int,Option.bind_some,show ((0:Int)==0)=true from rfl,cond_true,box_read g2,box_read g3,he'.row,ey.row,same_ok e hs e cs cy he' ey hs S2 c2,beq_self,boolV_bool]
    exact outL_up_ret u2 hst rfl rfl
   ·simp only [h,callB_ret,extractA_tup,List.getElem?_cons_zero,List.getElem?_cons_succ,Option.bind_some,intV_int,ex0_R.cells]
    have hw:writeA (AObj.free 0::AObj.box 24 [.int .i64 0,.int .i64 0,.str [],.nils]::S1) (.bp S1.length 0) ex0=_:=newX ex0_R
    rw [hw]
    have u2:Up st (AObj.free 0::XB ex0::S1):=(u1.push _).push _
    simp only [Option.bind_some]
    rcases hc with rfl | rfl
    ·simp only [num_ok,callB_ret,intV_int,Option.bind_some,show ((1001:Int)==0)=false from rfl,show ((1001:Int)==1002)=false from rfl,cond_false,show ((1001:Int)==1001)=true from rfl]
     exact outL_up_ret u2 hst rfl rfl
    ·simp only [num_ok,callB_ret,intV_int,Option.bind_some,show ((1002:Int)==0)=false from rfl,show ((1002:Int)==1002)=true from rfl,cond_false,cond_true]
     exact outL_up_ret u2 hst rfl rfl
end Go.Abs
