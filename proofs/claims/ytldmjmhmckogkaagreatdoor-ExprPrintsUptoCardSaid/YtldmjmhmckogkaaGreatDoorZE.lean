/- ExprPrints returns true for every expression of bulk at most 1048576 and leaves it as it was: where the package-level variables that the row lists stand as it lists them. -/
import Derived.Test.YtldmjmhmckogkaaGreatDoorZD
set_option linter.unusedVariables false
set_option linter.unusedSimpArgs false
set_option linter.unusedSectionVars false
open Option (bind_some bind_eq_some_iff map_eq_some_iff map_some)
open UInt8 (ofNat)
namespace Go.Abs
open Go Go.Proofs Go.IntWalk Go.Abs.X
def knT:Tk→Int
 | .num _=>1
 | .text _=>2
 | .name _=>3
 | .sign _=>4
 |_=>0
def JK:Tk→B
 | .text s=>s
 | .name s=>s
 | .sign s=>s
 |_=>[]
def Wl:Tk→Int
 | .num n=>(n:Int)
 |_=>0
def rdT (s:B) (i c:Nat) (t:T):List AV:=rd s (i:Int) (c:Int) (knT t.k) (JK t.k) (Wl t.k) (t.at':Int)
theorem W2.top {st:St} {o:Nat} (ho:o<st.length) (x y z:List AV):W2 (TB z::st) o st.length x y=TB y::st.put o (RB x):=by
 unfold W2
 rw [St.put_under ho]
 have:(St.put st o (RB x)).length=st.length:=by simp
 rw [←this,St.put_top]
theorem zbm {st:St} (hst:Cl st) {o:Nat} (ho:o<st.length) {v:AV} (y z:List AV) (s:B) (i c k:Int) (ts:B) (n a:Int) (h1:AV.stripR st.length v=v) (h2:AV.closed st.length v=true) :
  ze false st.length (.ret v) (W2 (TB z::st) o st.length (rd s i c k ts n a) y)=some (.ret v,st.put o (RB (rd s i c k ts n a))):=by
 rw [W2.top ho]
 have hl:(st.put o (RB (rd s i c k ts n a))).length=st.length:=by simp
 rw [←hl] at h1 h2 ⊢
 exact zU (Up.cons _ _) (qL hst rfl) h1 h2
theorem GC {st:St} (hst:Cl st) {o:Nat} (ho:o<st.length) (code:Int) (p:Nat) (y z:List AV) (s:B) (i c k:Int) (ts:B) (n a:Int) :
  ze false st.length (.pan (jo code p)) (W2 (TB z::st) o st.length (rd s i c k ts n a) y)=some (.pan (jo code p),st.put o (RB (rd s i c k ts n a))):=by
 rw [W2.top ho]
 have hl:(st.put o (RB (rd s i c k ts n a))).length=st.length:=by simp
 rw [←hl]
 exact Yn (Up.cons _ _) (qL hst rfl) rfl
def Li (st:St) (o:Nat) (s:B) (T:List X.T) (f:Nat) (R:Option (zd×St)):Prop :=
 (∃e p y i c k ts n a,T=[⟨.bad e p,y⟩]∧R=some (.pan (jo e p),st.put o (RB (rd s i c k ts n a)))) ∨
 (∃(t:X.T) (j c:Nat),(∀e p,t.k≠.bad e p)∧R=some (.ret (.tup []),st.put o (RB (rdT s j c t)))∧j≤s.length∧c≤512 ∧
  ((t.k = .fin∧T=[t])∨(t.k≠.fin∧T=t::toks f (s.drop j) j c∧(s.drop j).length<f)))
theorem Hr (f:Nat) (b:UInt8) (r:B) (i c:Nat) (h:blk b=true):toks (f+1) (b::r) i c=toks (f+1) r (i+1) c:=by
 simp only [toks,List.takeWhile_cons,List.dropWhile_cons,if_pos h,List.length_cons]
 rw [show i+((r.takeWhile blk).length+1)=i+1+(r.takeWhile blk).length by omega]
theorem Cz (f i c:Nat):toks (f+1) [] i c=[⟨.fin,i⟩]:=rfl
theorem EE (f:Nat) (b:UInt8) (r:B) (i c:Nat) (h:blk b=false):toks (f+1) (b::r) i c=(match ZG (b::r) i with
   |(.bad c p,_,_)=>[⟨.bad c p,i⟩]
   |(k,q,j)=>if c≥512 then [⟨.bad 1002 i,i⟩] else ⟨k,i⟩::toks f q j (c+1)):=by
 simp only [toks,List.takeWhile_cons,List.dropWhile_cons,h,Bool.false_eq_true,if_false,List.length_nil,Nat.add_zero]
 rfl
theorem Iz (b:UInt8):decide (LY [32,9,10,13] b≥0)=blk b:=by
 have e:∀m:UInt8,(m==b)=decide (b.toNat=m.toNat):=fun m=>by rw [Bool.eq_iff_iff,beq_iff_eq,decide_eq_true_eq,LE];omega
 unfold LY blk
 simp only [List.findIdx?_cons,List.findIdx?_nil,e]
 by_cases h1:b.toNat=32
 ·simp [h1]
 by_cases h2:b.toNat=9
 ·simp [h2]
 by_cases h3:b.toNat=10
 ·simp [h3]
 by_cases h4:b.toNat=13
 ·simp [h4]
 simp [h1,h2,h3,h4]
section
variable {st:St} (hst:Cl st) {o:Nat} (ho:o<st.length) {s:B} (hl:s.length<800000000)
include hst ho hl
theorem Jp {i j c:Nat} {k:Int} {ts:B} {n a:Int} {t:Tk} {q:B} {z:List AV} (hc:c≤512) (hnb:∀e p,t≠.bad e p) (hnf:t≠.fin) (f:Nat) (hq:s.drop j=q) (hj:j≤s.length) (hf:q.length<f) {T:List X.T}
  (hT:T=if c≥512 then [⟨.bad 1002 i,i⟩] else ⟨t,i⟩::toks f q j (c+1)) {R:Option (zd×St)}
  (hR:∀r,(bif decide (((c+1:Nat):Int)>512) then ze false st.length (.pan (jo 1002 i)) (W2 (TB z::st) o st.length (rd s (j:Int) ((c+1:Nat):Int) k ts n a) (tk (knT t) (JK t) (Wl t) (i:Int)))
   else ze false st.length (.ret (.tup [])) (W2 (TB z::st) o st.length (rd s (j:Int) ((c+1:Nat):Int) (knT t) (JK t) (Wl t) (i:Int)) (tk (knT t) (JK t) (Wl t) (i:Int))))=some r→R=some r):Li st o s T f R:=by
 by_cases h:c≥512
 ·rw [if_pos h] at hT
  refine .inl ⟨1002,i,i,(j:Int),((c+1:Nat):Int),k,ts,n,a,hT,hR _ ?_⟩
  rw [show decide (((c+1:Nat):Int)>512)=true from decide_eq_true (by omega),cond_true]
  exact GC hst ho _ _ _ _ _ _ _ _ _ _ _
 ·rw [if_neg h] at hT
  refine .inr ⟨⟨t,i⟩,j,c+1,hnb,hR _ ?_,hj,by omega,.inr ⟨hnf,by rw [hT,hq],by rw [hq];exact hf⟩⟩
  rw [show decide (((c+1:Nat):Int)>512)=false from decide_eq_false (by omega),cond_false]
  exact zbm hst ho _ _ _ _ _ _ _ _ _ rfl rfl
omit hst ho hl in
theorem Lj:∀(f:Nat) (r:B) (i:Nat) (out out' q:B) (j:Nat),zH f r i out = .ok (out',q,j)→(∀(w:B) (h:w.drop i=r),w.drop j=q∧(i≤w.length→j≤w.length))∧q.length≤r.length:=by
 intro f
 induction f with
 |zero=>intro r i out out' q j h;simp [zH] at h
 |succ f ih =>
  intro r i out out' q j h
  cases r with
  |nil=>rw [Vp] at h;cases h
  |cons c r =>
   rw [Qr] at h
   have adv1:∀(w:B),w.drop i=c::r→w.drop (i+1)=r∧i+1≤w.length:=fun w hw=>by
    obtain ⟨g,h1,h2⟩:=qa hw;exact ⟨h1,by omega⟩
   split at h
   ·cases h
   split at h
   ·cases h
    exact ⟨fun w hw=>⟨(adv1 w hw).1,fun _=>(adv1 w hw).2⟩,by simp⟩
   split at h
   ·cases r with
    |nil=>cases h
    |cons d r =>
     have adv2:∀(w:B),w.drop i=c::d::r→w.drop (i+2)=r∧i+2≤w.length:=fun w hw=>by
      obtain ⟨g,h1,h2⟩:=qa hw
      obtain ⟨g',h3,h4⟩:=qa h1
      exact ⟨h3,by omega⟩
     dsimp only at h
     split at h
     ·obtain ⟨h1,h2⟩:=ih _ _ _ _ _ _ h
      exact ⟨fun w hw=>⟨(h1 w (adv2 w hw).1).1,fun _=>(h1 w (adv2 w hw).1).2 (adv2 w hw).2⟩,by simp;omega⟩
     ·split at h
      ·obtain ⟨h1,h2⟩:=ih _ _ _ _ _ _ h
       exact ⟨fun w hw=>⟨(h1 w (adv2 w hw).1).1,fun _=>(h1 w (adv2 w hw).1).2 (adv2 w hw).2⟩,by simp;omega⟩
      ·cases h
   ·have hne:c::r≠[]:=by simp
    rcases Jl (c::r) hne with ⟨h0,hr⟩ | ⟨hw,hc⟩
    ·rw [h0] at h;cases h
    ·have hle:=hc.le
     have:zH f ((c::r).drop (zI (c::r))) (i+zI (c::r)) (out++(c::r).take (zI (c::r))) = .ok (out',q,j):=by
      cases hu:zI (c::r) with
      |zero=>omega
      |succ m=>rw [hu] at h;exact h
     obtain ⟨h1,h2⟩:=ih _ _ _ _ _ _ this
     refine ⟨fun w hw=>?_,by rw [List.length_drop] at h2;omega⟩
     have h3:w.drop (i+zI (c::r))=(c::r).drop (zI (c::r)):=by rw [←List.drop_drop,hw]
     refine ⟨(h1 w h3).1,fun hi=>(h1 w h3).2 ?_⟩
     have:=congrArg List.length hw
     rw [List.length_drop] at this;omega
omit hst ho hl in
theorem tkL (x:Int):zq 4 (.agg [.int .i64 0,.str [],.int .i64 0,.int .i64 x])=some (tk 0 [] 0 x):=rfl
omit hst hl in
theorem Hb (cs:List AV) (x:Int):zl (zh.box 47 [.int .i64 0,.str [],.int .i64 0,.int .i64 0]::st.put o (RB cs)) (.bp (st.put o (RB cs)).length 0) (tk 0 [] 0 x)=some (W2 (TB (tk 0 [] 0 0)::st) o st.length cs (tk 0 [] 0 x)):=by
 rw [zM (St.get_top _ _) (row':=tk 0 [] 0 x) rfl,St.put_top,W2.top ho]
set_option maxHeartbeats 8000000 in
theorem step_loop {cnt:Nat} (hcnt:cnt≤512) {k:Int} {ts:B} {n a:Int} (f:Nat):∀(r:B) (i:Nat),s.drop i=r→i≤s.length→r.length<f+1 →
  Li st o s (toks (f+1) r i cnt) f (aw 17 st.length MQ ⟨[(0,.bp o 0)],[]⟩ (st.put o (RB (rd s (i:Int) (cnt:Int) k ts n a)))):=by
 have hTwo:Two (TB (tk 0 [] 0 0)::st) o st.length:=⟨by omega,by simp;omega,by simp⟩
 have hst':Cl (TB (tk 0 [] 0 0)::st):=hst.cons rfl
 have hg:∀x,(st.put o (RB x)).get o=some (RB x):=fun x=>St.get_put_same ho
 have hlp:∀x,(st.put o (RB x)).length=st.length:=fun x=>by simp
 intro r
 induction r with
 |nil =>
  intro i hd hi hf
  have hil:=jw hd
  rw [Cz]
  have key:∀R,_:=fun R=>za7 (.bp o 0) st.length (st.put o (RB (rd s (i:Int) (cnt:Int) k ts n a))) (r:=R)
  simp only [zu,zE,bind_some,Nat.zero_add,zn (hg _),Wy,JW,zk,zr] at key
  rw [show decide ((i:Int)<(s.length:Int))=false from decide_eq_false (by omega)] at key
  simp only [cond_false,tkL,bind_some,Hb ho,W2.rd_o hTwo,Wy,JW,zk,zr] at key
  rw [show decide ((i:Int)<(s.length:Int))=false from decide_eq_false (by omega)] at key
  simp only [cond_false,hlp,W2.rd_q hTwo,WV,bind_some,QN,W2.wr_o hTwo (Kg _ _ _ _ _ _ _ _ _ _ _)] at key
  exact .inr ⟨⟨.fin,i⟩,i,cnt,by simp,key _ (zbm hst ho _ _ _ _ _ _ _ _ _ rfl rfl),hi,hcnt,.inl ⟨rfl,rfl⟩⟩
 |cons b r ih =>
  intro i hd hi hf
  obtain ⟨gb,hd2,hlt⟩:=qa hd
  have key:∀R,_:=fun R=>za7 (.bp o 0) st.length (st.put o (RB (rd s (i:Int) (cnt:Int) k ts n a))) (r:=R)
  have hix:∀S,cw 33 [AV.str [ofNat 32,ofNat 9,ofNat 10,ofNat 13],AV.int .u8 (b.toNat:Int)] S=some (.ret (.int .i64 (LY [32,9,10,13] b)),S):=fun S=>Xx S [32,9,10,13] b
  simp only [zu,zE,bind_some,Nat.zero_add,zn (hg _),Wy,JW,zk,zr] at key
  rw [show decide ((i:Int)<(s.length:Int))=true from decide_eq_true (by omega)] at key
  simp only [cond_true,zO,bind_some,jH gb,hix,zi,zk,Iz,zn (hg _),Wy,JW,zr] at key
  cases hb:blk b with
  |true =>
   rw [hb] at key
   simp only [cond_true,e1i (show i<1000000000000 by omega),zM (hg _) (Ux _ _ _ _ _ _ _ _),bind_some,St.put_put] at key
   rw [Hr f b r i cnt hb]
   rcases ih (i+1) hd2 (by omega) (by simp at hf;omega) with ⟨e,p,y,i',c',k',ts',n',a',h1,h2⟩ | ⟨t,j,c',h0,h1,h2,h3,h4⟩
   ·exact .inl ⟨e,p,y,i',c',k',ts',n',a',h1,key _ h2⟩
   ·exact .inr ⟨t,j,c',h0,key _ h1,h2,h3,h4⟩
  |false =>
   rw [hb] at key
   simp only [cond_false,tkL,bind_some,Hb ho,W2.rd_o hTwo,Wy,JW,zk,zr] at key
   rw [show decide ((i:Int)<(s.length:Int))=true from decide_eq_true (by omega)] at key
   simp only [cond_true,zO,bind_some,jH gb,hlp] at key
   rw [EE f b r i cnt hb]
   have hl':s.length<1000000000:=by omega
   have hbl:=b.toNat_lt
   have hq:∀w:UInt8→Bool,s.drop (i+(b::r.takeWhile w).length)=r.dropWhile w∧i+(b::r.takeWhile w).length≤s.length∧(r.dropWhile w).length≤r.length:=fun w=>by
    have e:b::r=(b::r.takeWhile w)++r.dropWhile w:=by simp
    have e2:s.drop i=(b::r.takeWhile w)++r.dropWhile w:=by rw [hd,←e]
    have e3:s.drop (i+(b::r.takeWhile w).length)=r.dropWhile w:=by rw [←List.drop_drop,e2,List.drop_left]
    have e4:=congrArg List.length e2
    rw [List.length_drop,List.length_append] at e4
    have e5:=congrArg List.length e
    rw [List.length_append] at e5
    simp only [List.length_cons] at e4 e5 ⊢
    exact ⟨by simpa using e3,by omega,by omega⟩
   have hrf:r.length<f:=by simp at hf;omega
   by_cases hdg:dig b=true
   ·have hdg':48≤b.toNat∧b.toNat≤57:=by simpa [dig] using hdg
    rw [show decide ((b.toNat:Int)≥48)=true from decide_eq_true (by omega),show decide ((b.toNat:Int)≤57)=true from decide_eq_true (by omega)] at key
    simp only [cond_true,FA _ o st.length hTwo s hl' (cnt:Int) k ts n a i b r i hd hdg []] at key
    have hlex:ZG (b::r) i=if b.toNat=48 then (.num 0,r,i+1) else if dec (b::r.takeWhile dig)≤9223372036854775807 then (.num (dec (b::r.takeWhile dig)),r.dropWhile dig,i+(b::r.takeWhile dig).length) else (.bad 1000 i,r,i):=by
     unfold ZG
     dsimp only
     rw [if_neg (by omega),if_pos hdg]
    rw [hlex]
    by_cases h48:b.toNat=48
    ·simp only [if_pos h48,zi,W2.rd_o hTwo,Bx,bind_some,zk,e1i (show cnt<1000000000000 by omega),W2.wr_o hTwo (LJ _ _ _ _ _ _ _ _)] at key
     rw [if_pos h48]
     dsimp only
     simp only [W2.rd_q hTwo,Lq,WV,bind_some,zk,jf,zF,QN,W2.wr_o hTwo (Kg _ _ _ _ _ _ _ _ _ _ _)] at key
     exact Jp hst ho hl (t:=.num 0) hcnt (by simp) (by simp) f hd2 (by omega) hrf rfl key
    ·rw [if_neg h48]
     by_cases hx:dec (b::r.takeWhile dig)≤9223372036854775807
     ·simp only [if_neg h48,if_pos hx,zi,W2.rd_o hTwo,Bx,bind_some,zk,e1i (show cnt<1000000000000 by omega),W2.wr_o hTwo (LJ _ _ _ _ _ _ _ _)] at key
      rw [if_pos hx]
      dsimp only
      simp only [W2.rd_q hTwo,Lq,WV,bind_some,zk,jf,zF,QN,W2.wr_o hTwo (Kg _ _ _ _ _ _ _ _ _ _ _)] at key
      obtain ⟨q1,q2,q3⟩:=hq dig
      exact Jp hst ho hl (t:=.num (dec (b::r.takeWhile dig))) hcnt (by simp) (by simp) f q1 q2 (by omega) rfl key
     ·simp only [if_neg h48,if_neg hx,zF] at key
      rw [if_neg hx]
      dsimp only
      exact .inl ⟨1000,i,i,_,_,_,_,_,_,rfl,key _ (GC hst ho _ _ _ _ _ _ _ _ _ _ _)⟩
   by_cases hsm:sml b=true
   ·have hsm':97≤b.toNat∧b.toNat≤122:=by simpa [sml] using hsm
    rw [show decide ((b.toNat:Int)≥48)=true from decide_eq_true (by omega),show decide ((b.toNat:Int)≤57)=false from decide_eq_false (by omega),show decide ((b.toNat:Int)≥97)=true from decide_eq_true (by omega),show decide ((b.toNat:Int)≤122)=true from decide_eq_true (by omega)] at key
    simp only [cond_true,cond_false,CM _ o st.length hTwo s hl' (cnt:Int) k ts n a i b r i hd] at key
    have hlex:ZG (b::r) i=if (b::r.takeWhile nam).length>32 then (.bad 1000 i,r,i) else (.name (b::r.takeWhile nam),r.dropWhile nam,i+(b::r.takeWhile nam).length):=by
     unfold ZG
     dsimp only
     rw [if_neg (by omega),if_neg hdg,if_pos hsm]
    rw [hlex]
    by_cases hx:(b::r.takeWhile nam).length>32
    ·simp only [if_pos hx,zF] at key
     rw [if_pos hx]
     dsimp only
     exact .inl ⟨1000,i,i,_,_,_,_,_,_,rfl,key _ (GC hst ho _ _ _ _ _ _ _ _ _ _ _)⟩
    ·simp only [if_neg hx,zi,W2.rd_o hTwo,Bx,bind_some,zk,e1i (show cnt<1000000000000 by omega),W2.wr_o hTwo (LJ _ _ _ _ _ _ _ _)] at key
     rw [if_neg hx]
     dsimp only
     simp only [W2.rd_q hTwo,Lq,WV,bind_some,zk,jf,zF,QN,W2.wr_o hTwo (Kg _ _ _ _ _ _ _ _ _ _ _)] at key
     obtain ⟨q1,q2,q3⟩:=hq nam
     exact Jp hst ho hl (t:=.name (b::r.takeWhile nam)) hcnt (by simp) (by simp) f q1 q2 (by omega) rfl key
   by_cases h39:b.toNat=39
   ·rw [show decide ((b.toNat:Int)≥48)=false from decide_eq_false (by omega),show decide ((b.toNat:Int)≥97)=false from decide_eq_false (by omega),show ((b.toNat:Int)==39)=true by rw [beq_iff_eq];omega] at key
    simp only [cond_true,cond_false,If hTwo hst' hl (c:=(cnt:Int)) (k:=k) (ts:=ts) (n:=n) (a:=a) (x:=i) b r i hd] at key
    have hlex:ZG (b::r) i=match zH (r.length+1) r (i+1) [] with
      | .error f=>(.bad f.1 f.2,r,i)
      | .ok (out,q,k)=>if out.length>4096 then (.bad 1002 i,r,i) else (.text out,q,k):=by
     unfold ZG
     dsimp only
     rw [if_pos h39]
     rfl
    rw [hlex]
    cases hx:zH (r.length+1) r (i+1) [] with
    |error f0 =>
     obtain ⟨e,p⟩:=f0
     rw [hx] at key
     simp only [Za,zF] at key
     dsimp only
     exact .inl ⟨e,p,i,_,_,_,_,_,_,rfl,key _ (GC hst ho _ _ _ _ _ _ _ _ _ _ _)⟩
    |ok w =>
     obtain ⟨out,q,j⟩:=w
     rw [hx] at key
     obtain ⟨g1,g2⟩:=Lj _ _ _ _ _ _ _ hx
     obtain ⟨g3,g4⟩:=g1 s hd2
     dsimp only
     by_cases h4:out.length>4096
     ·simp only [Za,if_pos h4,zF] at key
      rw [if_pos h4]
      dsimp only
      exact .inl ⟨1002,i,i,_,_,_,_,_,_,rfl,key _ (GC hst ho _ _ _ _ _ _ _ _ _ _ _)⟩
     ·simp only [Za,if_neg h4,zi,W2.rd_o hTwo,Bx,bind_some,zk,e1i (show cnt<1000000000000 by omega),W2.wr_o hTwo (LJ _ _ _ _ _ _ _ _)] at key
      rw [if_neg h4]
      dsimp only
      simp only [W2.rd_q hTwo,Lq,WV,bind_some,zk,jf,zF,QN,W2.wr_o hTwo (Kg _ _ _ _ _ _ _ _ _ _ _)] at key
      exact Jp hst ho hl (t:=.text out) hcnt (by simp) (by simp) f g3 (g4 (by omega)) (by omega) rfl key
   ·
    have hdg':¬(48≤b.toNat∧b.toNat≤57):=by simpa [dig] using hdg
    have hsm':¬(97≤b.toNat∧b.toNat≤122):=by simpa [sml] using hsm
    have hlex:ZG (b::r) i=match X.signs.find? fun g=>g.isPrefixOf (b::r) with
      |some g=>(.sign g,(b::r).drop g.length,i+g.length)
      |none=>(.bad 1000 i,r,i):=by
     unfold ZG
     dsimp only
     rw [if_neg h39,if_neg hdg,if_neg hsm]<;>rfl
    have hsig:=In _ o st.length hTwo s hl' (cnt:Int) k ts n a i i hst' hi
    rw [hd] at hsig
    have e39:((b.toNat:Int)==39)=false:=by rw [beq_eq_false_iff_ne];omega
    have key2:∀R,(zg (cw 37 [.bp o 0,.bp st.length 0] (W2 (TB (tk 0 [] 0 0)::st) o st.length (rd s (i:Int) (cnt:Int) k ts n a) (tk 0 [] 0 (i:Int)))) (fun v st_2 =>
      (zf st_2 (.bp o 2) 1 false).bind fun v=>(zm .i64 v).bind fun n=>(zl st_2 (.bp o 2) [.int .i64 (IntKind.i64.wrap (n+1))]).bind fun st_3=>(zf st_3 (.bp o 2) 1 false).bind fun v=>(zm .i64 v).bind fun n =>
      bif decide (n>512) then (zf st_3 (.bp st.length 3) 1 false).bind fun v=>(zm .i64 v).bind fun n=>zg (cw 38 [.int .i64 1002,.int .i64 n] st_3) (fun v st_4=>(zf st_4 (.bp st.length 0) 4 true).bind fun v=>(zq 4 v).bind fun cs=>(zl st_4 (.bp o 3) cs).bind fun st_5=>ze false st.length (.ret (.tup [])) st_5) fun v st_4=>ze false st.length (.pan v) st_4
      else (zf st_3 (.bp st.length 0) 4 true).bind fun v=>(zq 4 v).bind fun cs=>(zl st_3 (.bp o 3) cs).bind fun st_4=>ze false st.length (.ret (.tup [])) st_4)
      fun v st_2=>ze false st.length (.pan v) st_2)=some R→aw 17 st.length MQ ⟨[(0,.bp o 0)],[]⟩ (st.put o (RB (rd s (i:Int) (cnt:Int) k ts n a)))=some R:=by
     intro R hR
     by_cases q1:48≤b.toNat
     ·rw [show decide ((b.toNat:Int)≥48)=true from decide_eq_true (by omega),show decide ((b.toNat:Int)≤57)=false from decide_eq_false (by omega)] at key
      by_cases q2:97≤b.toNat
      ·rw [show decide ((b.toNat:Int)≥97)=true from decide_eq_true (by omega),show decide ((b.toNat:Int)≤122)=false from decide_eq_false (by omega),e39] at key
       simp only [cond_true,cond_false] at key
       exact key R hR
      ·rw [show decide ((b.toNat:Int)≥97)=false from decide_eq_false (by omega),e39] at key
       simp only [cond_true,cond_false] at key
       exact key R hR
     ·rw [show decide ((b.toNat:Int)≥48)=false from decide_eq_false (by omega),show decide ((b.toNat:Int)≥97)=false from decide_eq_false (by omega),e39] at key
      simp only [cond_true,cond_false] at key
      exact key R hR
    rw [hlex]
    rw [hsig] at key2
    cases hx:X.signs.find? fun g=>g.isPrefixOf (b::r) with
    |none =>
     rw [hx] at key2
     simp only [zF] at key2
     dsimp only
     exact .inl ⟨1000,i,i,_,_,_,_,_,_,rfl,key2 _ (GC hst ho _ _ _ _ _ _ _ _ _ _ _)⟩
    |some g =>
     rw [hx] at key2
     simp only [zi,W2.rd_o hTwo,Bx,bind_some,zk,e1i (show cnt<1000000000000 by omega),W2.wr_o hTwo (LJ _ _ _ _ _ _ _ _),W2.rd_q hTwo,Lq,WV,jf,zF,QN,W2.wr_o hTwo (Kg _ _ _ _ _ _ _ _ _ _ _)] at key2
     dsimp only
     have hpre:g.isPrefixOf (b::r)=true:=by have:=List.find?_some hx;simpa using this
     have hgl:=(List.isPrefixOf_iff_prefix.1 hpre).length_le
     have hg0:1≤g.length:=by
      have:∀g ∈ X.signs,1≤g.length:=by decide
      exact this g (List.mem_of_find?_eq_some hx)
     have hdl:=congrArg List.length hd
     rw [List.length_drop] at hdl
     have hf':(b::r).length<f+1:=by simpa using hf
     exact Jp hst ho hl (t:=.sign g) hcnt (by simp) (by simp) f (by rw [←List.drop_drop,hd]) (by omega) (by rw [List.length_drop];omega) rfl key2
theorem Et {cnt i:Nat} (hcnt:cnt≤512) {k:Int} {ts:B} {n a:Int} (hg:st.get o=some (RB (rd s (i:Int) (cnt:Int) k ts n a))) (hi:i≤s.length) (f:Nat) (hf:(s.drop i).length<f+1) :
  Li st o s (toks (f+1) (s.drop i) i cnt) f (cw 17 [.bp o 0] st):=by
 have h:=step_loop hst ho hl hcnt (k:=k) (ts:=ts) (n:=n) (a:=a) f (s.drop i) i rfl hi hf
 rw [St.put_same hg] at h
 rcases h with ⟨e,p,y,i',c',k',ts',n',a',h1,h2⟩ | ⟨t,j,c',h0,h1,h2,h3,h4⟩
 ·exact .inl ⟨e,p,y,i',c',k',ts',n',a',h1,F17 _ _ h2⟩
 ·exact .inr ⟨t,j,c',h0,F17 _ _ h1,h2,h3,h4⟩
end
end Go.Abs
namespace Go.Abs
open Go Go.Proofs Go.IntWalk Go.Abs.X
def jh (kd:Nat) (a:AV):Prop:=a = .nils∨∃R off len tok,a = .sl kd R off len tok∧(tok = .no∨tok = .exact)∧AV.closedss 0 R=true
mutual
def ExR:Ex→List AV→Prop
 | .mk op n s kids,cs=>∃ka rows,cs=[.int .i64 op,.int .i64 n,.str s,ka]∧Sl 4 ka rows∧jh 4 ka∧ExRs kids rows
termination_by structural x=>x
def ExRs:List Ex→List (List AV)→Prop
 |[],rows=>rows=[]
 |e::es,rows=>∃r rs,rows=r::rs∧ExR e r∧ExRs es rs
termination_by structural x=>x
end
theorem jh.closed {kd m:Nat} {a:AV} (h:jh kd a):AV.closed m a=true:=by
 rcases h with rfl | ⟨R,off,len,tok,rfl,ht,hc⟩
 ·rfl
 ·have:=AV.closedss_mono (Nat.zero_le m) R hc
  rcases ht with rfl | rfl<;>simp [AV.closed,this]
theorem jh.strip {kd m:Nat} {a:AV} (h:jh kd a):AV.stripN m a=a:=by
 rcases h with rfl | ⟨R,off,len,tok,rfl,rfl | rfl,hc⟩<;>rfl
theorem jh.strip1 {kd:Nat} {a:AV} (h:jh kd a):jh kd a.strip:=by
 rcases h with rfl | ⟨R,off,len,tok,rfl,ht,hc⟩
 ·exact .inl rfl
 ·exact .inr ⟨R,off,len,.no,rfl,.inl rfl,hc⟩
theorem Sl.strip1 {kd:Nat} {a:AV} {c:List (List AV)} (h:Sl kd a c):Sl kd a.strip c:=by
 rcases h with ⟨rfl,rfl⟩ | ⟨R,off,tok,rfl,h1,h2⟩
 ·exact .inl ⟨rfl,rfl⟩
 ·exact .inr ⟨R,off,.no,rfl,h1,h2⟩
theorem ExR.len {e:Ex} {cs:List AV} (h:ExR e cs):cs.length=4:=by
 cases e;obtain ⟨ka,rows,rfl,_⟩:=h;rfl
theorem ExR.closeds {e:Ex} {cs:List AV} (h:ExR e cs) (m:Nat):AV.closeds m cs=true:=by
 cases e;obtain ⟨ka,rows,rfl,_,hf,_⟩:=h
 simp [AV.closeds,AV.closed,hf.closed]
theorem ExR.strip {e:Ex} {cs:List AV} (h:ExR e cs):ExR e (cs.map AV.strip):=by
 cases e;obtain ⟨ka,rows,rfl,h1,hf,h2⟩:=h
 exact ⟨ka.strip,rows,rfl,h1.strip1,hf.strip1,h2⟩
theorem ExRs.closed:∀{es:List Ex} {rows:List (List AV)},ExRs es rows→AV.closedss 0 rows=true
 |[],_,h=>by subst h;rfl
 |e::es,_,⟨r,rs,h1,h2,h3⟩=>by
  subst h1
  simp only [AV.closedss,Bool.and_eq_true]
  exact ⟨h2.closeds 0,ExRs.closed h3⟩
theorem ExRs.len:∀{es:List Ex} {rows:List (List AV)},ExRs es rows→rows.length=es.length
 |[],_,h=>by subst h;rfl
 |e::es,_,⟨r,rs,h1,h2,h3⟩=>by subst h1;simp [ExRs.len h3]
def EV (v:AV) (e:Ex):Prop:=∃cs,v = .agg cs∧ExR e cs
theorem EV.closed {v:AV} {e:Ex} (h:EV v e) (m:Nat):AV.closed m v=true:=by
 obtain ⟨cs,rfl,h⟩:=h;exact h.closeds m
theorem EV.stripR {v:AV} {e:Ex} (h:EV v e) (m:Nat):AV.stripR m v=v:=by
 obtain ⟨cs,rfl,h⟩:=h
 cases e;obtain ⟨ka,rows,rfl,_,hf,_⟩:=h
 simp only [AV.stripR,List.map_cons,List.map_nil]
 rw [show AV.stripN m ka=ka from hf.strip]
 rfl
theorem ExR.cells {e:Ex} {cs:List AV} (h:ExR e cs):zq 4 (.agg cs)=some cs:=Fs h.len
theorem ExR.set {e:Ex} {cs:List AV} (h:ExR e cs) {old:List AV} (ho:old.length=4):setAt old 0 cs=some cs:=Wp _ _ (by rw [ho,h.len])
theorem ExR.row {e:Ex} {cs:List AV} (h:ExR e cs):zj cs 0 4 true=some (.agg cs):=VF cs 4 h.len
theorem ExR.leaf (op n:Int) (s:B):ExR (.mk op n s []) [.int .i64 op,.int .i64 n,.str s,.nils]:=⟨.nils,[],rfl,.nil,.inl rfl,rfl⟩
theorem ExR.node (op n:Int) (s:B) {es:List Ex} {rows:List (List AV)} (h:ExRs es rows) {tok:Tok} (ht:tok = .no∨tok = .exact):ExR (.mk op n s es) [.int .i64 op,.int .i64 n,.str s,.sl 4 rows 0 rows.length tok] :=
 ⟨_,rows,rfl,.inr ⟨rows,0,tok,rfl,by omega,by simp⟩,.inr ⟨rows,0,rows.length,tok,rfl,ht,h.closed⟩,h⟩
theorem ExRs.one {e:Ex} {cs:List AV} (h:ExR e cs):ExRs [e] [cs.map AV.strip]:=⟨_,_,rfl,h.strip,rfl⟩
theorem ExRs.two {e f:Ex} {cs ds:List AV} (h:ExR e cs) (h2:ExR f ds):ExRs [e,f] [cs.map AV.strip,ds.map AV.strip]:=⟨_,_,rfl,h.strip,.one h2⟩
theorem ExRs.three {e f g:Ex} {cs ds us:List AV} (h:ExR e cs) (h2:ExR f ds) (h3:ExR g us):ExRs [e,f,g] [cs.map AV.strip,ds.map AV.strip,us.map AV.strip]:=⟨_,_,rfl,h.strip,.two h2 h3⟩
abbrev XB (cs:List AV):zh:=.box 24 cs
def ex0:List AV:=[.int .i64 0,.int .i64 0,.str [],.nils]
structure At (st:St) (o:Nat) (x:List AV) (S:St):Prop where
 low:o<st.length
 get:S.get o=some (RB x)
 up:Up (st.put o (RB x)) S
 cl:Cl S
 clst:Cl (st.put o (RB x))
def RdC (x:List AV):Prop:=∃s i c k ts n a,x=rd s i c k ts n a
section
variable {st S:St} {o:Nat} {x:List AV}
theorem At.init (h1:Cl st) (h2:o<st.length) (h3:st.get o=some (RB x)):At st o x st:=⟨h2,h3,by rw [St.put_same h3];exact .refl _,h1,by rw [St.put_same h3];exact h1⟩
variable (h:At st o x S)
include h
theorem At.lt:o<S.length:=St.get_lt h.get
theorem At.le:st.length≤S.length:=by have:=h.up.len;simpa using this
theorem At.push {y:zh} (hy:zh.closed (S.length+1) y=true):At st o x (y::S):=⟨h.low,by rw [St.get_under (by have:=h.lt;omega)];exact h.get,h.up.push y,h.cl.cons hy,h.clst⟩
theorem At.call {x':List AV} (hx:RdC x'):At st o x' (S.put o (RB x')):=by
 obtain ⟨s,i,c,k,ts,n,a,rfl⟩:=hx
 refine ⟨h.low,St.get_put_same h.lt,?_,qL h.cl rfl,?_⟩
 ·have:=h.up.putLow (o:=o) (by simpa using h.low) (RB (rd s i c k ts n a))
  rwa [St.put_put] at this
 ·have:=qL h.clst (o:=o) (x:=RB (rd s i c k ts n a)) rfl
  rwa [St.put_put] at this
theorem At.putHi {t:Nat} (ht:st.length≤t) {y:zh} (hy:zh.closed S.length y=true):At st o x (S.put t y):=by
 have hlow:=h.low
 exact ⟨h.low,by rw [St.get_put_other (by omega)];exact h.get,h.up.put (by simpa using ht) y,qL h.cl hy,h.clst⟩
theorem At.ret {v:AV} (h1:AV.stripR st.length v=v) (h2:AV.closed st.length v=true):ze false st.length (.ret v) S=some (.ret v,st.put o (RB x)):=by
 have hl:(st.put o (RB x)).length=st.length:=by simp
 rw [←hl] at h1 h2 ⊢
 exact zU h.up h.clst h1 h2
theorem At.pan (code:Int) (p:Nat):ze false st.length (.pan (jo code p)) S=some (.pan (jo code p),st.put o (RB x)):=by
 have hl:(st.put o (RB x)).length=st.length:=by simp
 rw [←hl]
 exact Yn h.up h.clst rfl
theorem At.cells (j m:Nat) (ag:Bool):zf S (.bp o j) m ag=zj x j m ag:=zn h.get
end
theorem Jz (S:St) (p:AV):ldA Tryz.prog S 24 p=zf S p 4 true:=by
 have h1:Ji Tryz.prog 24=some true:=by kernel_rfl
 have h2:qv Tryz.prog 24=some 4:=by kernel_rfl
 unfold ldA zf
 rw [h1,h2];rfl
theorem jb (s:B) (i c:Nat) (t:X.T):RdC (rdT s i c t):=⟨_,_,_,_,_,_,_,rfl⟩
theorem Yh (s:B) (i c k:Int) (ts:B) (n a:Int):RdC (rd s i c k ts n a):=⟨_,_,_,_,_,_,_,rfl⟩
structure Jv (s:B) (i c:Nat) (t:X.T) (ts:List X.T):Prop where
 nb:∀e p,t.k≠.bad e p
 le:i≤s.length
 few:c≤512
 rest:(t.k = .fin∧ts=[t])∨(t.k≠.fin∧∃f,ts=t::toks (f+1) (s.drop i) i c∧(s.drop i).length<f+1)
theorem Jv.cons {s:B} {i c:Nat} {t:X.T} {ts:List X.T} (h:Jv s i c t ts):∃r,ts=t::r:=by
 rcases h.rest with ⟨_,h⟩ | ⟨_,f,h,_⟩
 ·exact ⟨[],h⟩
 ·exact ⟨_,h⟩
theorem jU {st:St} {o:Nat} (hst:Cl st) (ho:o<st.length) {s:B} (hl:s.length<800000000) {i c:Nat} {t:X.T} {ts:List X.T} (hg:st.get o=some (RB (rdT s i c t))) (hr:Jv s i c t ts) (hf:t.k≠.fin) :
  (∃e p i' c' k ts' n a,(∀k,adv ts k=some (.error (e,p)))∧cw 17 [.bp o 0] st=some (.pan (jo e p),st.put o (RB (rd s i' c' k ts' n a)))) ∨
  (∃i' c' t' ts',(∀k,adv ts k=k ts')∧Jv s i' c' t' ts'∧cw 17 [.bp o 0] st=some (.ret (.tup []),st.put o (RB (rdT s i' c' t')))):=by
 rcases hr.rest with ⟨h1,_⟩ | ⟨_,f,h1,h2⟩
 ·exact absurd h1 hf
 ·rcases Et hst ho hl hr.few hg hr.le f h2 with ⟨e,p,y,i',c',k,ts',n,a,h3,h4⟩ | ⟨t',j,c',h0,h3,h4,h5,h6⟩
  ·refine .inl ⟨e,p,i',c',k,ts',n,a,fun K=>?_,h4⟩
   rw [h1,h3];rfl
  ·have hadv:∀(r:List X.T) K,adv (t::t'::r) K=K (t'::r):=fun r K=>by
    obtain ⟨k',a'⟩:=t'
    cases k' with
    |bad e p=>exact absurd rfl (h0 e p)
    |_=>rfl
   rcases h6 with ⟨h7,h8⟩ | ⟨h7,h8,h9⟩
   ·exact .inr ⟨j,c',t',[t'],fun K=>by rw [h1,h8];exact hadv _ _,⟨h0,h4,h5,.inl ⟨h7,rfl⟩⟩,h3⟩
   ·cases f with
    |zero=>omega
    |succ f=>exact .inr ⟨j,c',t',_,fun K=>by rw [h1,h8];exact hadv _ _,⟨h0,h4,h5,.inr ⟨h7,f,rfl,h9⟩⟩,h3⟩
theorem XY {st:St} {o:Nat} {s:B} {i c:Nat} {t:X.T} {ts:List X.T} (hg:st.get o=some (RB (rdT s i c t))) (hr:Jv s i c t ts) (x:B):cw 41 [.bp o 0,.str x] st=some (.ret (.bool (isS ts x)),st):=by
 obtain ⟨r,hr1⟩:=hr.cons
 subst hr1
 refine F41 _ _ _ ?_
 simp only [zu,zE,bind_some,Nat.zero_add,Nat.add_zero,Nat.reduceAdd,zn hg,rdT,zaj,zbs,zk,zr,zx]
 obtain ⟨k,a⟩:=t
 cases k with
 |sign y =>
  simp only [knT,JK,qr,bind_some,zp,zx]
  rfl
 |_=>rfl
theorem CY {s:B} {i c:Nat} {t:X.T} {ts:List X.T} (hr:Jv s i c t ts):(knT t.k != 0) = !XE ts:=by
 obtain ⟨r,hr1⟩:=hr.cons
 subst hr1
 have:=hr.nb
 obtain ⟨k,a⟩:=t
 cases k with
 |bad e p=>exact absurd rfl (this e p)
 |_=>rfl
theorem Qg {ts:List X.T} {t:X.T} {r:List X.T} {x:B} (h:ts=t::r) (hs:isS ts x=true):t.k≠.fin:=by
 subst h
 obtain ⟨k,a⟩:=t
 intro e
 subst e
 cases hs
theorem Wb {st:St} {o:Nat} {s:B} {i c:Nat} {t:X.T} {ts:List X.T} (hg:st.get o=some (RB (rdT s i c t))) (hr:Jv s i c t ts):cw 19 [.bp o 0] st=some (.pan (jo 1000 (atT ts)),st):=by
 obtain ⟨r,hr1⟩:=hr.cons
 subst hr1
 refine F19 _ _ ?_
 simp only [zu,zE,bind_some,Nat.zero_add,Nat.reduceAdd,zn hg,rdT,zb4,zk,jf,zF,zx]
 rfl
end Go.Abs
namespace Go.Abs
open Go Go.Proofs Go.IntWalk Go.Abs.X
theorem qD {r:X.Res} {k:Ex→List X.T→X.Res} {x:Except F (Ex×List X.T)} (h:andThen r k=some x):(∃f,r=some (.error f)∧x = .error f)∨∃e ts,r=some (.ok (e,ts))∧k e ts=some x:=by
 unfold andThen at h
 match r,h with
 |some (.ok (e,ts)),h=>exact .inr ⟨e,ts,rfl,h⟩
 |some (.error f),h=>exact .inl ⟨f,rfl,(Option.some.inj h).symm⟩
def Jt (st:St) (o:Nat) (s:B) (x:Except F (Ex×List X.T)) (R:Option (zd×St)):Prop:=match x with
 | .ok (e,ts)=>∃i c t v,Jv s i c t ts∧EV v e∧R=some (.ret v,st.put o (RB (rdT s i c t)))
 | .error (e,p)=>∃y,RdC y∧R=some (.pan (jo e p),st.put o (RB y))
theorem Jt.imp {st:St} {o:Nat} {s:B} {x:Except F (Ex×List X.T)} {R R':Option (zd×St)} (h:Jt st o s x R) (hi:∀r,R=some r→R'=some r):Jt st o s x R':=by
 match x,h with
 | .ok (e,ts),⟨i,c,t,v,h1,h2,h3⟩=>exact ⟨i,c,t,v,h1,h2,hi _ h3⟩
 | .error (e,p),⟨y,h1,h2⟩=>exact ⟨y,h1,hi _ h2⟩
theorem Eb (S:St) (o:Nat) (x:zh) (v:zd):ze false S.length v (S.put o x)=some (v,S.put o x):=by
 have:S.length=(S.put o x).length:=by simp
 rw [this];exact zx _ _
section
variable {s:B} (hl:s.length<800000000) {o:Nat}
include hl
theorem EA {S:St} (hS:Cl S) (ho:o<S.length) {i c:Nat} {t:X.T} {ts:List X.T} (hg:S.get o=some (RB (rdT s i c t))) (hr:Jv s i c t ts) (x:B) :
  (∃e p y,RdC y∧(∀k,want x ts k=some (.error (e,p)))∧cw 42 [.bp o 0,.str x] S=some (.pan (jo e p),S.put o (RB y))) ∨
  (∃i' c' t' ts',(∀k,want x ts k=k ts')∧Jv s i' c' t' ts'∧cw 42 [.bp o 0,.str x] S=some (.ret (.tup []),S.put o (RB (rdT s i' c' t')))):=by
 have key:∀R,_:=fun R=>F42 (.bp o 0) x S (r:=R)
 simp only [XY hg hr,zi,zp,bind_some] at key
 obtain ⟨r,hr1⟩:=hr.cons
 cases hx:isS ts x with
 |false =>
  rw [hx] at key
  simp only [Bool.not_false,cond_true,Wb hg hr,zF,zx] at key
  refine .inl ⟨1000,atT ts,rdT s i c t,jb _ _ _ _,fun k=>?_,?_⟩
  ·unfold want stop;rw [hx];rfl
  ·rw [St.put_same hg];exact key _ rfl
 |true =>
  rw [hx] at key
  have hw:∀k,want x ts k=adv ts k:=fun k=>by unfold want;rw [hx];rfl
  rcases jU hS ho hl hg hr (Qg hr1 hx) with ⟨e,p,i',c',k,ts',n,a,h1,h2⟩ | ⟨i',c',t',ts',h1,h2,h3⟩
  ·simp only [Bool.not_true,cond_false,h2,zF,Eb] at key
   exact .inl ⟨e,p,_,Yh _ _ _ _ _ _ _,fun k=>by rw [hw,h1],key _ rfl⟩
  ·simp only [Bool.not_true,cond_false,h3,zi,Eb] at key
   exact .inr ⟨i',c',t',ts',fun k=>by rw [hw,h1],h2,key _ rfl⟩
end
def qV (p:B×Int):List AV:=[.str p.1,.int .i64 p.2]
def lvC (l:List (B×Int)):AV:=.sl 2 (l.map qV) 0 l.length .no
def lvR (lv:List (List (B×Int))):List (List AV):=lv.map fun l=>[lvC l]
def LvR (a:AV) (lv:List (List (B×Int))):Prop:=Sl 1 a (lvR lv)∧jh 1 a
theorem VT (st:St):∃a,LvR a X.levels∧cw 40 [] st=some (.ret a,st):=by
 refine ⟨.sl 1 (lvR X.levels) 0 11 .exact,⟨.inr ⟨lvR X.levels,0,.exact,rfl,by decide,rfl⟩,.inr ⟨_,_,_,_,rfl,.inr rfl,by decide⟩⟩,F40 _ ?_⟩
 simp only [zq,AV.cells,AV.isTup,List.length_cons,List.length_nil,Nat.reduceAdd,and_self,if_true,bind_some,zx]
 rfl
theorem LvR.tail {a:AV} {l:List (B×Int)} {lv:List (List (B×Int))} (h:LvR a (l::lv)) (S:St):∃a',je S 1 a (some (.int .i64 1)) none none=some a'∧LvR a' lv:=by
 obtain ⟨h1,h2⟩:=h
 rcases h1 with ⟨rfl,h3⟩ | ⟨rows,off,tok,rfl,h3,h4⟩
 ·simp [lvR] at h3
 ·have hlen:(lvR (l::lv)).length=lv.length+1:=by simp [lvR]
  refine ⟨.sl 1 rows (off+1) lv.length tok,?_,?_,?_⟩
  ·simp only [je,jd,hlen,zJ,bind_some,true_and]
   rw [hlen] at h3
   simp;omega
  ·refine .inr ⟨rows,off+1,tok,by simp [lvR],by simp [lvR] at h3 ⊢;omega,?_⟩
   rw [hlen] at h4
   have h5:(lvR lv).length=lv.length:=by simp [lvR]
   rw [h5,←List.drop_drop]
   have h6:lvR (l::lv)=[lvC l]::lvR lv:=rfl
   rw [h6] at h4
   cases hd:rows.drop off with
   |nil=>rw [hd] at h4;simp at h4
   |cons r rs =>
    rw [hd,List.take_succ_cons] at h4
    have:=(List.cons.inj h4).2
    simpa using this
  ·rcases h2 with h2 | ⟨R,off',len',tok',h5,h6,h7⟩
   ·cases h2
   ·cases h5
    exact .inr ⟨_,_,_,_,rfl,h6,h7⟩
theorem LvR.head {a:AV} {l:List (B×Int)} {lv:List (List (B×Int))} (h:LvR a (l::lv)) (S:St):((zt S 1 a 0).bind fun v=>zf S v 1 false)=some (lvC l):=by
 have:(lvR (l::lv))[0]?=some [lvC l]:=rfl
 rw [h.1.at this];rfl
theorem LvR.len {a:AV} {lv:List (List (B×Int))} (h:LvR a lv):zL a=some (.int .i64 lv.length):=by
 rw [h.1.len];simp [lvR]
theorem MP {S:St} {e:Ex} {cs:List AV} (h:ExR e cs):zl (zh.free 0::XB ex0::S) (.bp S.length 0) cs=some (zh.free 0::XB cs::S):=by
 rw [zM (Zv rfl) (h.set rfl)]
 congr 1
 rw [St.put_under (by simp),St.put_top]
section
variable {st S:St} {o:Nat} {x:List AV}
theorem Wz (h:At st o x S) {old:List AV} (hb:S.get st.length=some (XB old)) (ho:old.length=4) {e:Ex} {cs:List AV} (he:ExR e cs) :
  ((zl S (.bp st.length 0) cs).bind fun st_5=>((ldA Tryz.prog st_5 24 (.bp st.length 0)).bind fun v=>some [v]).bind fun vs=>ze false st.length (.ret (qG vs)) st_5)=some (.ret (.agg cs),st.put o (RB x)):=by
 rw [zM hb (he.set ho),bind_some,Jz,zn (St.get_put_same (St.get_lt hb)),he.row]
 simp only [bind_some,qG]
 have hev:EV (.agg cs) e:=⟨cs,rfl,he⟩
 exact (h.putHi (y:=XB cs) (Nat.le_refl _) (he.closeds S.length)).ret (hev.stripR _) (hev.closed _)
end
end Go.Abs
namespace Go.Abs
open Go Go.Proofs Go.IntWalk Go.Abs.X
theorem zG {S:St} {y z:zh} {t:Nat} (h:S.get t=some z):St.get (y::S) t=some z:=by
 rw [St.get_under (by have:=St.get_lt h;omega)];exact h
theorem zD {S:St} {y z:zh} {t o:Nat} (h:S.get t=some z) (hne:t≠o):(S.put o y).get t=some z:=by
 rw [St.get_put_other hne];exact h
theorem La (S:St):St.get (zh.free 0::XB ex0::S) S.length=some (XB ex0):=zG (qz rfl)
theorem LvR.headK {R:Type} {a:AV} {l:List (B×Int)} {lv:List (List (B×Int))} (h:LvR a (l::lv)) (S:St) (K:AV→Option R):((zt S 1 a 0).bind fun v=>(zf S v 1 false).bind K)=K (lvC l):=by
 have:=h.head S
 rw [←Option.bind_assoc,this];rfl
theorem Ug (m:Nat) (l:List (B×Int)):AV.closed m (lvC l)=true:=by
 have:AV.closedss m (l.map qV)=true:=by
  induction l with
  |nil=>rfl
  |cons p l ih=>simpa [AV.closedss,AV.closeds,AV.closed,qV] using ih
 simp [lvC,AV.closed,this]
theorem CU (S:St) {l:List (B×Int)} {j:Nat} {p:B×Int} (h:l[j]?=some p):zt S 2 (lvC l) j=some (.ip (qV p) 0):=by
 have hj:=(List.getElem?_eq_some_iff.1 h).1
 unfold zt lvC
 dsimp only
 rw [if_pos ⟨rfl,hj⟩,Nat.zero_add,List.getElem?_map,h];rfl
theorem Kj {S:St} (hS:Cl S) {env:Env} (he:∀p ∈ env,AV.closed S.length p.2=true) (y:zh):Zl S.length ⟨env,[]⟩ (y::S)=some (⟨env,[]⟩,S):=by
 unfold Zl
 have h1:((y::S).length==S.length)=false:=by simp
 rw [h1]
 simp only [Bool.false_eq_true,if_false,St.trunc_cons,List.all_nil,Bool.and_true]
 rw [if_pos (show St.closed S.length S=true from hS),List.filter_eq_self.2 he]
section
variable (s:B) (o:Nat)
def Gm (mo:X.Mode) (nest:Nat) (x:Except F (Ex×List X.T)) (S:St) (c:List AV):Prop:=match mo with
 | .two lv=>(∀l ∈ lv,l.length≤100)→∀a,LvR a lv→Jt S o s x (cw 39 [.bp o 0,a,.int .i64 (nest:Int)] S)
 | .whole=>Jt S o s x (cw 18 [.bp o 0,.int .i64 (nest:Int)] S)
 | .sign1=>Jt S o s x (cw 76 [.bp o 0,.int .i64 (nest:Int)] S)
 | .part=>Jt S o s x (cw 97 [.bp o 0,.int .i64 (nest:Int)] S)
 | .word=>Jt S o s x (cw 112 [.bp o 0,.int .i64 (nest:Int)] S)
 | .inside last=>isS [⟨.sign last,0⟩] last=true→Jt S o s x (cw 113 [.bp o 0,.str last,.int .i64 (nest:Int)] S)
 | .loop l lv e=>(∀m ∈ l::lv,m.length≤100)→∀st a q cs old,LvR a (l::lv)→At st o c S→S.get st.length=some (XB old)→old.length=4→st.length<q→S.get q=some (XB cs)→ExR e cs →
   Jt st o s x (aw 39 st.length GL ⟨[(0,.bp o 0),(1,a),(2,.int .i64 (nest:Int)),(6,.bp st.length 0),(7,.bp q 0),(23,lvC l),(24,.int .i64 (l.length:Int)),(25,.int .i64 0)],[]⟩ S)
 | .partL e=>∀st q cs old,At st o c S→S.get st.length=some (XB old)→old.length=4→st.length<q→S.get q=some (XB cs)→ExR e cs →
   Jt st o s x (aw 97 st.length Vg ⟨[(0,.bp o 0),(1,.int .i64 (nest:Int)),(4,.bp st.length 0),(5,.bp q 0)],[]⟩ S)
def CH (mo:X.Mode) (ts:List X.T):Prop:=match mo with
 | .inside _=>∃t r,ts=t::r∧t.k≠.fin
 |_=>True
def Hyp (n:Nat):Prop:=∀(mo:X.Mode) (nest:Nat) (ts:List X.T) (x:Except F (Ex×List X.T)),nest+n≤1000000000→P n mo nest ts=some x→CH mo ts→∀(S:St) (i c:Nat) (t:X.T),Cl S→o<S.length→S.get o=some (RB (rdT s i c t))→Jv s i c t ts→Gm s o mo nest x S (rdT s i c t)
end
section
variable {s:B} (hl:s.length<800000000) {o n:Nat} (ih:Hyp s o n) {nest:Nat} (hn:nest+(n+1)≤1000000000) {ts:List X.T} {x:Except F (Ex×List X.T)} {S:St} {i c:Nat} {t:X.T} (hS:Cl S) (ho:o<S.length) (hg:S.get o=some (RB (rdT s i c t))) (hr:Jv s i c t ts)
include hl ih hn hS ho hg hr
theorem Bs (h:P (n+1) .part nest ts=some x):Gm s o .part nest x S (rdT s i c t):=by
 simp only [P] at h
 have hA:=At.init hS ho hg
 have hA2:At S o (rdT s i c t) (zh.free 0::XB ex0::S):=(hA.push (y:=XB ex0) rfl).push (y:=.free 0) rfl
 have hpp:∀y,St.put (zh.free 0::XB ex0::S) o y=zh.free 0::XB ex0::S.put o y:=fun y=>by rw [St.put_under (by simp;omega),St.put_under ho]
 have key:∀R,_:=fun R=>F97 (.bp o 0) (nest:Int) S (r:=R)
 rcases qD h with ⟨f,h1,rfl⟩ | ⟨e,ts1,h1,h2⟩
 ·obtain ⟨y,hy,hw⟩:=ih .word nest ts _ (by omega) h1 trivial _ i c t hA2.cl hA2.lt hA2.get hr
  have hw':cw 112 [.bp o 0,.int .i64 (nest:Int)] (zh.free 0::zh.box 24 [.int .i64 0,.int .i64 0,.str [],.nils]::S)=_:=hw
  rw [hw',zF] at key
  exact ⟨y,hy,key _ ((hA2.call hy).pan _ _)⟩
 ·obtain ⟨i1,c1,t1,v,hr1,⟨cs,rfl,he⟩,hw⟩:=ih .word nest ts _ (by omega) h1 trivial _ i c t hA2.cl hA2.lt hA2.get hr
  have hw':cw 112 [.bp o 0,.int .i64 (nest:Int)] (zh.free 0::zh.box 24 [.int .i64 0,.int .i64 0,.str [],.nils]::S)=_:=hw
  rw [hw',zi,he.cells,bind_some] at key
  have hA3:=hA2.call (jb s i1 c1 t1)
  have hnew:zl (zh.free 0::zh.box 24 [.int .i64 0,.int .i64 0,.str [],.nils]::St.put (zh.free 0::XB ex0::S) o (RB (rdT s i1 c1 t1))) (.bp (St.put (zh.free 0::XB ex0::S) o (RB (rdT s i1 c1 t1))).length 0) cs=_:=MP he
  rw [hnew,bind_some] at key
  have hA4:At S o (rdT s i1 c1 t1) (zh.free 0::XB cs::St.put (zh.free 0::XB ex0::S) o (RB (rdT s i1 c1 t1))):=(hA3.push (y:=XB cs) (he.closeds _)).push (y:=.free 0) rfl
  have:=ih (.partL e) nest ts1 x (by omega) h2 trivial _ i1 c1 t1 hA4.cl hA4.lt hA4.get hr1 S _ cs ex0 hA4 (zG (zG (zD (La S) (by omega)))) rfl (by simp;omega) (Zv rfl) he
  exact this.imp key
theorem NR (h:P (n+1) .whole nest ts=some x):Gm s o .whole nest x S (rdT s i c t):=by
 simp only [P] at h
 have hA:=At.init hS ho hg
 have hA2:At S o (rdT s i c t) (zh.free 0::XB ex0::S):=(hA.push (y:=XB ex0) rfl).push (y:=.free 0) rfl
 have hne:S.length≠o:=by omega
 have key:∀R,_:=fun R=>F18 (.bp o 0) (nest:Int) S (r:=R)
 obtain ⟨lva,hlv,hlw⟩:=VT (zh.free 0::zh.box 24 [.int .i64 0,.int .i64 0,.str [],.nils]::S)
 simp only [hlw,zi] at key
 have hbig:S.length<10000000000000∨True:=.inr trivial
 have hw1:∀(y:Except F (Ex×List X.T)),P n (.two X.levels) nest ts=some y→Jt (zh.free 0::XB ex0::S) o s y (cw 39 [.bp o 0,lva,.int .i64 (nest:Int)] (zh.free 0::zh.box 24 [.int .i64 0,.int .i64 0,.str [],.nils]::S)) :=
  fun y hy=>ih (.two X.levels) nest ts y (by omega) hy trivial _ i c t hA2.cl hA2.lt hA2.get hr (by decide) lva hlv
 rcases qD h with ⟨f,h1,rfl⟩ | ⟨e,ts1,h1,h2⟩
 ·obtain ⟨y,hy,hw⟩:=hw1 _ h1
  rw [hw,zF] at key
  exact ⟨y,hy,key _ ((hA2.call hy).pan _ _)⟩
 ·obtain ⟨i1,c1,t1,v,hr1,⟨cs,rfl,he⟩,hw⟩:=hw1 _ h1
  rw [hw,zi,he.cells,bind_some] at key
  have hA3:=hA2.call (jb s i1 c1 t1)
  have g3:=zD (y:=RB (rdT s i1 c1 t1)) (La S) hne
  generalize hS3:St.put (zh.free 0::XB ex0::S) o (RB (rdT s i1 c1 t1))=S3 at hA3 g3 key
  have hnew:zl (zh.free 0::zh.box 24 [.int .i64 0,.int .i64 0,.str [],.nils]::S3) (.bp S3.length 0) cs=_:=MP he
  rw [hnew,bind_some] at key
  have hA4:At S o (rdT s i1 c1 t1) (zh.free 0::XB cs::S3):=(hA3.push (y:=XB cs) (he.closeds _)).push (y:=.free 0) rfl
  have g4:St.get (zh.free 0::XB cs::S3) S.length=some (XB ex0):=zG (zG g3)
  have q4:St.get (zh.free 0::XB cs::S3) S3.length=some (XB cs):=Zv rfl
  have hq3:S.length<S3.length:=St.get_lt g3
  have hne3:S3.length≠o:=by omega
  generalize hS4:zh.free 0::XB cs::S3=S4 at hA4 g4 q4 key
  have h63:cw 41 [.bp o 0,.str [ofNat 63]] S4=some (.ret (.bool (isS ts1 [63])),S4):=XY hA4.get hr1 [63]
  simp only [h63,zi,zp,bind_some] at key
  cases hq:isS ts1 [63] with
  |false =>
   rw [hq] at key h2
   simp only [Bool.not_false,cond_true,zn q4,he.row,bind_some,he.cells] at key
   simp only [Bool.false_eq_true,if_false] at h2
   cases h2
   exact ⟨i1,c1,t1,_,hr1,⟨cs,rfl,he⟩,key _ (Wz hA4 g4 rfl he)⟩
  |true =>
   rw [hq] at key h2
   simp only [if_true] at h2
   obtain ⟨r1,hr1c⟩:=hr1.cons
   rcases jU hA4.cl hA4.lt hl hA4.get hr1 (Qg hr1c hq) with ⟨er,p,i',c',k,ts',nn,a,k1,k2⟩ | ⟨i2,c2,t2,ts2,k1,hr2,k3⟩
   ·simp only [Bool.not_true,cond_false,k2,zF] at key
    rw [k1] at h2
    cases h2
    exact ⟨_,Yh _ _ _ _ _ _ _,key _ ((hA4.call (Yh _ _ _ _ _ _ _)).pan _ _)⟩
   ·simp only [Bool.not_true,cond_false,k3,zi] at key
    rw [k1] at h2
    have hA5:=hA4.call (jb s i2 c2 t2)
    have g5:=zD (y:=RB (rdT s i2 c2 t2)) g4 hne
    have q5:=zD (y:=RB (rdT s i2 c2 t2)) q4 hne3
    generalize hS5:St.put S4 o (RB (rdT s i2 c2 t2))=S5 at hA5 g5 q5 key
    have en:IntKind.i64.wrap ((nest:Int)+1)=((nest+1:Nat):Int):=e1i (by omega)
    rw [en] at key
    rcases qD h2 with ⟨f,h3,rfl⟩ | ⟨e2,ts3,h3,h4⟩
    ·obtain ⟨y,hy,hw2⟩:=ih .whole (nest+1) ts2 _ (by omega) h3 trivial S5 i2 c2 t2 hA5.cl hA5.lt hA5.get hr2
     rw [hw2,zF] at key
     exact ⟨y,hy,key _ ((hA5.call hy).pan _ _)⟩
    ·obtain ⟨i3,c3,t3,v,hr3,⟨cs2,rfl,he2⟩,hw2⟩:=ih .whole (nest+1) ts2 _ (by omega) h3 trivial S5 i2 c2 t2 hA5.cl hA5.lt hA5.get hr2
     rw [hw2,zi,he2.cells,bind_some] at key
     have hA6:=hA5.call (jb s i3 c3 t3)
     have g6:=zD (y:=RB (rdT s i3 c3 t3)) g5 hne
     have q6:=zD (y:=RB (rdT s i3 c3 t3)) q5 hne3
     generalize hS6:St.put S5 o (RB (rdT s i3 c3 t3))=S6 at hA6 g6 q6 key
     have hnew2:zl (zh.free 0::zh.box 24 [.int .i64 0,.int .i64 0,.str [],.nils]::S6) (.bp S6.length 0) cs2=_:=MP he2
     rw [hnew2,bind_some] at key
     have hA7:At S o (rdT s i3 c3 t3) (zh.free 0::XB cs2::S6):=(hA6.push (y:=XB cs2) (he2.closeds _)).push (y:=.free 0) rfl
     have g7:St.get (zh.free 0::XB cs2::S6) S.length=some (XB ex0):=zG (zG g6)
     have q7:St.get (zh.free 0::XB cs2::S6) S3.length=some (XB cs):=zG (zG q6)
     have u7:St.get (zh.free 0::XB cs2::S6) S6.length=some (XB cs2):=Zv rfl
     have hne6:S6.length≠o:=by have:=hA6.lt;omega
     generalize hS7:zh.free 0::XB cs2::S6=S7 at hA7 g7 q7 u7 key
     rcases EA hl hA7.cl hA7.lt hA7.get hr3 [58] with ⟨er,p,y,hy,w1,w2⟩ | ⟨i4,c4,t4,ts4,w1,hr4,w3⟩
     ·have w2':cw 42 [.bp o 0,.str [ofNat 58]] S7=_:=w2
      rw [w2',zF] at key
      rw [w1] at h4
      cases h4
      exact ⟨y,hy,key _ ((hA7.call hy).pan _ _)⟩
     ·have w3':cw 42 [.bp o 0,.str [ofNat 58]] S7=_:=w3
      rw [w3',zi] at key
      rw [w1] at h4
      have hA8:=hA7.call (jb s i4 c4 t4)
      have g8:=zD (y:=RB (rdT s i4 c4 t4)) g7 hne
      have q8:=zD (y:=RB (rdT s i4 c4 t4)) q7 hne3
      have u8:=zD (y:=RB (rdT s i4 c4 t4)) u7 hne6
      generalize hS8:St.put S7 o (RB (rdT s i4 c4 t4))=S8 at hA8 g8 q8 u8 key
      simp only [zn q8,zn u8,he.row,he2.row,bind_some] at key
      rcases qD h4 with ⟨f,h5,rfl⟩ | ⟨e3,ts5,h5,h6⟩
      ·obtain ⟨y,hy,hw3⟩:=ih .whole (nest+1) ts4 _ (by omega) h5 trivial S8 i4 c4 t4 hA8.cl hA8.lt hA8.get hr4
       rw [hw3,zF] at key
       refine ⟨y,hy,key _ ?_⟩
       rw [if_pos]
       ·exact (hA8.call hy).pan _ _
       ·simp [YP,rkA,List.range.loop,Jz,zn q8,zn u8,he.row,he2.row,AV.beq_refl]
      ·obtain ⟨i5,c5,t5,v,hr5,⟨cs3,rfl,he3⟩,hw3⟩:=ih .whole (nest+1) ts4 _ (by omega) h5 trivial S8 i4 c4 t4 hA8.cl hA8.lt hA8.get hr4
       rw [hw3,zi,he.cells,bind_some,he2.cells,bind_some,he3.cells,bind_some] at key
       have hA9:=hA8.call (jb s i5 c5 t5)
       have g9:=zD (y:=RB (rdT s i5 c5 t5)) g8 hne
       have q9:=zD (y:=RB (rdT s i5 c5 t5)) q8 hne3
       have u9:=zD (y:=RB (rdT s i5 c5 t5)) u8 hne6
       generalize hS9:St.put S8 o (RB (rdT s i5 c5 t5))=S9 at hA9 g9 q9 u9 key
       have hnode:ExR (.mk 31 0 [] [e,e2,e3]) [.int .i64 31,.int .i64 0,.str [],.sl 4 [cs.map AV.strip,cs2.map AV.strip,cs3.map AV.strip] 0 3 .exact]:=ExR.node 31 0 [] (ExRs.three he he2 he3) (.inr rfl)
       rw [hnode.cells,bind_some] at key
       simp only [ok] at h6
       cases h6
       refine ⟨i5,c5,t5,_,hr5,⟨_,rfl,hnode⟩,key _ ?_⟩
       refine Eq.trans ?_ (Wz hA9 g9 rfl hnode)
       rw [zM g9 (hnode.set rfl),bind_some,bind_some]
       rw [if_pos]
       simp [YP,rkA,List.range.loop,Jz,zn q8,zn u8,zn q9,zn u9,he.row,he2.row,AV.beq_refl]
theorem MJ {last:B} (hb:CH (.inside last) ts) (h:P (n+1) (.inside last) nest ts=some x):Gm s o (.inside last) nest x S (rdT s i c t):=by
 intro _
 simp only [P] at h
 have hA:=At.init hS ho hg
 have hA2:At S o (rdT s i c t) (zh.free 0::XB ex0::S):=(hA.push (y:=XB ex0) rfl).push (y:=.free 0) rfl
 have hne:S.length≠o:=by omega
 have key:∀R,_:=fun R=>zbL (.bp o 0) last (nest:Int) S (r:=R)
 obtain ⟨t0,r0,ht0,hf0⟩:=hb
 obtain ⟨r1,hr1c⟩:=hr.cons
 have hft:t.k≠.fin:=by rw [hr1c] at ht0;cases ht0;exact hf0
 have en:IntKind.i64.wrap ((nest:Int)+1)=((nest+1:Nat):Int):=e1i (by omega)
 rw [en] at key
 rcases jU hA2.cl hA2.lt hl hA2.get hr hft with ⟨er,p,i',c',k,ts',nn,a,k1,k2⟩ | ⟨i2,c2,t2,ts2,k1,hr2,k3⟩
 ·have k2':cw 17 [.bp o 0] (zh.free 0::zh.box 24 [.int .i64 0,.int .i64 0,.str [],.nils]::S)=_:=k2
  rw [k2',zF] at key
  rw [k1] at h
  cases h
  exact ⟨_,Yh _ _ _ _ _ _ _,key _ ((hA2.call (Yh _ _ _ _ _ _ _)).pan _ _)⟩
 ·have k3':cw 17 [.bp o 0] (zh.free 0::zh.box 24 [.int .i64 0,.int .i64 0,.str [],.nils]::S)=_:=k3
  rw [k3',zi] at key
  rw [k1] at h
  have hA3:=hA2.call (jb s i2 c2 t2)
  have g3:=zD (y:=RB (rdT s i2 c2 t2)) (La S) hne
  generalize hS3:St.put (zh.free 0::XB ex0::S) o (RB (rdT s i2 c2 t2))=S3 at hA3 g3 key
  rcases qD h with ⟨f,h3,rfl⟩ | ⟨e2,ts3,h3,h4⟩
  ·obtain ⟨y,hy,hw2⟩:=ih .whole (nest+1) ts2 _ (by omega) h3 trivial S3 i2 c2 t2 hA3.cl hA3.lt hA3.get hr2
   rw [hw2,zF] at key
   exact ⟨y,hy,key _ ((hA3.call hy).pan _ _)⟩
  ·obtain ⟨i3,c3,t3,v,hr3,⟨cs2,rfl,he2⟩,hw2⟩:=ih .whole (nest+1) ts2 _ (by omega) h3 trivial S3 i2 c2 t2 hA3.cl hA3.lt hA3.get hr2
   rw [hw2,zi,he2.cells,bind_some] at key
   have hA6:=hA3.call (jb s i3 c3 t3)
   have g6:=zD (y:=RB (rdT s i3 c3 t3)) g3 hne
   generalize hS6:St.put S3 o (RB (rdT s i3 c3 t3))=S6 at hA6 g6 key
   have hnew2:zl (zh.free 0::zh.box 24 [.int .i64 0,.int .i64 0,.str [],.nils]::S6) (.bp S6.length 0) cs2=_:=MP he2
   rw [hnew2,bind_some] at key
   have hA7:At S o (rdT s i3 c3 t3) (zh.free 0::XB cs2::S6):=(hA6.push (y:=XB cs2) (he2.closeds _)).push (y:=.free 0) rfl
   have g7:St.get (zh.free 0::XB cs2::S6) S.length=some (XB ex0):=zG (zG g6)
   have u7:St.get (zh.free 0::XB cs2::S6) S6.length=some (XB cs2):=Zv rfl
   have hne6:S6.length≠o:=by have:=hA6.lt;omega
   generalize hS7:zh.free 0::XB cs2::S6=S7 at hA7 g7 u7 key
   rcases EA hl hA7.cl hA7.lt hA7.get hr3 last with ⟨er,p,y,hy,w1,w2⟩ | ⟨i4,c4,t4,ts4,w1,hr4,w3⟩
   ·rw [w2,zF] at key
    rw [w1] at h4
    cases h4
    exact ⟨y,hy,key _ ((hA7.call hy).pan _ _)⟩
   ·rw [w3,zi] at key
    rw [w1] at h4
    have hA8:=hA7.call (jb s i4 c4 t4)
    have g8:=zD (y:=RB (rdT s i4 c4 t4)) g7 hne
    have u8:=zD (y:=RB (rdT s i4 c4 t4)) u7 hne6
    generalize hS8:St.put S7 o (RB (rdT s i4 c4 t4))=S8 at hA8 g8 u8 key
    rw [zn u8,he2.row,bind_some,he2.cells,bind_some] at key
    cases h4
    exact ⟨i4,c4,t4,_,hr4,⟨_,rfl,he2⟩,key _ (Wz hA8 g8 rfl he2)⟩
theorem Nn (h:P (n+1) .sign1 nest ts=some x):Gm s o .sign1 nest x S (rdT s i c t):=by
 simp only [P] at h
 have hA:=At.init hS ho hg
 have hA2:At S o (rdT s i c t) (zh.free 0::XB ex0::S):=(hA.push (y:=XB ex0) rfl).push (y:=.free 0) rfl
 have g2:=La S
 have hne:S.length≠o:=by omega
 have key:∀R,_:=fun R=>F76 (.bp o 0) (nest:Int) S (r:=R)
 have en:IntKind.i64.wrap ((nest:Int)+1)=((nest+1:Nat):Int):=e1i (by omega)
 rw [en] at key
 have hAc:∀j m ag,zf (zh.free 0::zh.box 24 [.int .i64 0,.int .i64 0,.str [],.nils]::S) (.bp o j) m ag=zj (rdT s i c t) j m ag:=fun j m ag=>hA2.cells j m ag
 simp only [zu,zE,bind_some,Nat.zero_add,Nat.add_zero,Nat.reduceAdd,hAc,rdT,zaj,zb4,zk,CY hr] at key
 have rest:∀R0:Option (zd×St),(∀R,(zg (cw 41 [.bp o 0,.str [ofNat 45]] (zh.free 0::XB ex0::S)) (fun v st_1=>(zB v).bind fun b=>bif b then
    zg (cw 17 [.bp o 0] st_1) (fun v st_2=>zg (cw 76 [.bp o 0,.int .i64 ((nest+1:Nat):Int)] st_2) (fun v st_3=>(zq 4 v).bind fun cs=>(zq 4 (AV.agg [.int .i64 10,.int .i64 0,.str [],.sl 4 [List.map AV.strip cs] 0 1 Tok.exact])).bind fun cs =>
     (zl st_3 (.bp S.length 0) cs).bind fun st_4=>((ldA Tryz.prog st_4 24 (.bp S.length 0)).bind fun v=>some [v]).bind fun vs=>ze false S.length (.ret (qG vs)) st_4) fun v st_3=>ze false S.length (.pan v) st_3) fun v st_2=>ze false S.length (.pan v) st_2
    else zg (cw 41 [.bp o 0,.str [ofNat 33]] st_1) (fun v st_2=>(zB v).bind fun b=>bif b then
     zg (cw 17 [.bp o 0] st_2) (fun v st_3=>zg (cw 76 [.bp o 0,.int .i64 ((nest+1:Nat):Int)] st_3) (fun v st_4=>(zq 4 v).bind fun cs=>(zq 4 (AV.agg [.int .i64 11,.int .i64 0,.str [],.sl 4 [List.map AV.strip cs] 0 1 Tok.exact])).bind fun cs =>
      (zl st_4 (.bp S.length 0) cs).bind fun st_5=>((ldA Tryz.prog st_5 24 (.bp S.length 0)).bind fun v=>some [v]).bind fun vs=>ze false S.length (.ret (qG vs)) st_5) fun v st_4=>ze false S.length (.pan v) st_4) fun v st_3=>ze false S.length (.pan v) st_3
     else zg (cw 97 [.bp o 0,.int .i64 (nest:Int)] st_2) (fun v st_3=>(zq 4 v).bind fun cs=>(zl st_3 (.bp S.length 0) cs).bind fun st_4=>((ldA Tryz.prog st_4 24 (.bp S.length 0)).bind fun v=>some [v]).bind fun vs=>ze false S.length (.ret (qG vs)) st_4) fun v st_3=>ze false S.length (.pan v) st_3)
     fun v st_2=>ze false S.length (.pan v) st_2)
    fun v st_1=>ze false S.length (.pan v) st_1)=some R→R0=some R) →
   (if isS ts [45]=true then adv ts fun ts=>andThen (P n .sign1 (nest+1) ts) fun e ts=>ok (.mk 10 0 [] [e]) ts
  else if isS ts [33]=true then adv ts fun ts=>andThen (P n .sign1 (nest+1) ts) fun e ts=>ok (.mk 11 0 [] [e]) ts
  else P n .part nest ts)=some x→Jt S o s x R0:=by
  intro R0 key h
  have h45:cw 41 [.bp o 0,.str [ofNat 45]] (zh.free 0::XB ex0::S)=some (.ret (.bool (isS ts [45])),zh.free 0::XB ex0::S):=XY hA2.get hr [45]
  have h33:cw 41 [.bp o 0,.str [ofNat 33]] (zh.free 0::XB ex0::S)=some (.ret (.bool (isS ts [33])),zh.free 0::XB ex0::S):=XY hA2.get hr [33]
  obtain ⟨r1,hr1c⟩:=hr.cons
  have one:∀(op:Int) (sg:B),isS ts sg=true→(adv ts fun ts=>andThen (P n .sign1 (nest+1) ts) fun e ts=>ok (.mk op 0 [] [e]) ts)=some x →
    (∀R,(zg (cw 17 [.bp o 0] (zh.free 0::XB ex0::S)) (fun v st_2=>zg (cw 76 [.bp o 0,.int .i64 ((nest+1:Nat):Int)] st_2) (fun v st_3=>(zq 4 v).bind fun cs=>(zq 4 (AV.agg [.int .i64 op,.int .i64 0,.str [],.sl 4 [List.map AV.strip cs] 0 1 Tok.exact])).bind fun cs =>
     (zl st_3 (.bp S.length 0) cs).bind fun st_4=>((ldA Tryz.prog st_4 24 (.bp S.length 0)).bind fun v=>some [v]).bind fun vs=>ze false S.length (.ret (qG vs)) st_4) fun v st_3=>ze false S.length (.pan v) st_3) fun v st_2=>ze false S.length (.pan v) st_2)=some R→R0=some R)→Jt S o s x R0:=by
   intro op sg hs h key
   rcases jU hA2.cl hA2.lt hl hA2.get hr (Qg hr1c hs) with ⟨er,p,i',c',k,ts',nn,a,k1,k2⟩ | ⟨i2,c2,t2,ts2,k1,hr2,k3⟩
   ·rw [k2,zF] at key
    rw [k1] at h
    cases h
    exact ⟨_,Yh _ _ _ _ _ _ _,key _ ((hA2.call (Yh _ _ _ _ _ _ _)).pan _ _)⟩
   ·rw [k3,zi] at key
    rw [k1] at h
    have hA3:=hA2.call (jb s i2 c2 t2)
    have g3:=zD (y:=RB (rdT s i2 c2 t2)) (La S) hne
    generalize hS3:St.put (zh.free 0::XB ex0::S) o (RB (rdT s i2 c2 t2))=S3 at hA3 g3 key
    rcases qD h with ⟨f,h3,rfl⟩ | ⟨e2,ts3,h3,h4⟩
    ·obtain ⟨y,hy,hw2⟩:=ih .sign1 (nest+1) ts2 _ (by omega) h3 trivial S3 i2 c2 t2 hA3.cl hA3.lt hA3.get hr2
     rw [hw2,zF] at key
     exact ⟨y,hy,key _ ((hA3.call hy).pan _ _)⟩
    ·obtain ⟨i3,c3,t3,v,hr3,⟨cs2,rfl,he2⟩,hw2⟩:=ih .sign1 (nest+1) ts2 _ (by omega) h3 trivial S3 i2 c2 t2 hA3.cl hA3.lt hA3.get hr2
     have hnode:ExR (.mk op 0 [] [e2]) [.int .i64 op,.int .i64 0,.str [],.sl 4 [cs2.map AV.strip] 0 1 .exact]:=ExR.node op 0 [] (ExRs.one he2) (.inr rfl)
     rw [hw2,zi,he2.cells,bind_some,hnode.cells,bind_some] at key
     have hA6:=hA3.call (jb s i3 c3 t3)
     have g6:=zD (y:=RB (rdT s i3 c3 t3)) g3 hne
     cases h4
     exact ⟨i3,c3,t3,_,hr3,⟨_,rfl,hnode⟩,key _ (Wz hA6 g6 rfl hnode)⟩
  rw [h45,zi] at key
  simp only [zp,bind_some,h33,zi] at key
  by_cases q1:isS ts [45]=true
  ·rw [if_pos q1] at h
   rw [q1] at key
   exact one 10 _ q1 h key
  rw [if_neg q1] at h
  rw [show isS ts [45]=false by simpa using q1] at key
  simp only [cond_false] at key
  by_cases q2:isS ts [33]=true
  ·rw [if_pos q2] at h
   rw [q2] at key
   exact one 11 _ q2 h key
  rw [if_neg q2] at h
  rw [show isS ts [33]=false by simpa using q2] at key
  simp only [cond_false] at key
  have hp:=ih .part nest ts x (by omega) h trivial _ i c t hA2.cl hA2.lt hA2.get hr
  match x,hp with
  | .error (e,p),⟨y,hy,hw⟩ =>
   rw [hw,zF] at key
   exact ⟨y,hy,key _ ((hA2.call hy).pan _ _)⟩
  | .ok (e,ts'),⟨i3,c3,t3,v,hr3,⟨cs2,hv,he2⟩,hw⟩ =>
   subst hv
   rw [hw,zi,he2.cells,bind_some] at key
   exact ⟨i3,c3,t3,_,hr3,⟨_,rfl,he2⟩,key _ (Wz (hA2.call (jb s i3 c3 t3)) (zD (La S) hne) rfl he2)⟩
 cases hfi:XE ts with
 |true =>
  rw [hfi] at key h
  simp only [Bool.not_true,cond_false,Bool.false_and,Bool.false_eq_true,if_false] at key h
  exact rest _ key h
 |false =>
  rw [hfi] at key h
  simp only [Bool.not_false,cond_true,Bool.true_and,decide_eq_true_eq] at key h
  by_cases hd:32<nest
  ·rw [if_pos hd] at h
   rw [show decide ((nest:Int)>32)=true from decide_eq_true (by omega)] at key
   simp only [cond_true,jf,zF] at key
   cases h
   have hfa:t.at'=atT ts:=by obtain ⟨r1,hr1c⟩:=hr.cons;subst hr1c;rfl
   rw [hfa] at key
   exact ⟨_,jb s i c t,key _ (hA2.pan _ _)⟩
  ·rw [if_neg hd] at h
   rw [show decide ((nest:Int)>32)=false from decide_eq_false (by omega)] at key
   simp only [cond_false] at key
   exact rest _ key h
theorem CI {lv:List (List (B×Int))} (h:P (n+1) (.two lv) nest ts=some x):Gm s o (.two lv) nest x S (rdT s i c t):=by
 intro hlv a ha
 have hA:=At.init hS ho hg
 have hA2:At S o (rdT s i c t) (zh.free 0::XB ex0::S):=(hA.push (y:=XB ex0) rfl).push (y:=.free 0) rfl
 have hne:S.length≠o:=by omega
 have key:∀R,_:=fun R=>F39 (.bp o 0) a (nest:Int) S (r:=R)
 simp only [ha.len,bind_some,zk] at key
 cases lv with
 |nil =>
  simp only [P] at h
  rw [show (((([]:List (List (B×Int))).length:Nat):Int)==0)=true from rfl] at key
  simp only [cond_true] at key
  have hp:=ih .sign1 nest ts x (by omega) h trivial _ i c t hA2.cl hA2.lt hA2.get hr
  match x,hp with
  | .error (e,p),⟨y,hy,hw⟩ =>
   have hw':cw 76 [.bp o 0,.int .i64 (nest:Int)] (zh.free 0::zh.box 24 [.int .i64 0,.int .i64 0,.str [],.nils]::S)=_:=hw
   rw [hw',zF] at key
   exact ⟨y,hy,key _ ((hA2.call hy).pan _ _)⟩
  | .ok (e,ts'),⟨i3,c3,t3,v,hr3,⟨cs2,hv,he2⟩,hw⟩ =>
   subst hv
   have hw':cw 76 [.bp o 0,.int .i64 (nest:Int)] (zh.free 0::zh.box 24 [.int .i64 0,.int .i64 0,.str [],.nils]::S)=_:=hw
   rw [hw',zi,he2.cells,bind_some] at key
   exact ⟨i3,c3,t3,_,hr3,⟨_,rfl,he2⟩,key _ (Wz (hA2.call (jb s i3 c3 t3)) (zD (La S) hne) rfl he2)⟩
 |cons l lv =>
  simp only [P] at h
  rw [show ((((l::lv).length:Nat):Int)==0)=false by rw [beq_eq_false_iff_ne];simp;omega] at key
  obtain ⟨a',ha1,ha2⟩:=ha.tail (zh.free 0::zh.box 24 [.int .i64 0,.int .i64 0,.str [],.nils]::S)
  simp only [cond_false,ha1,bind_some] at key
  have hw1:∀(y:Except F (Ex×List X.T)),P n (.two lv) nest ts=some y→Jt (zh.free 0::XB ex0::S) o s y (cw 39 [.bp o 0,a',.int .i64 (nest:Int)] (zh.free 0::zh.box 24 [.int .i64 0,.int .i64 0,.str [],.nils]::S)) :=
   fun y hy=>ih (.two lv) nest ts y (by omega) hy trivial _ i c t hA2.cl hA2.lt hA2.get hr (fun m hm=>hlv m (List.mem_cons_of_mem _ hm)) a' ha2
  rcases qD h with ⟨f,h1,rfl⟩ | ⟨e,ts1,h1,h2⟩
  ·obtain ⟨y,hy,hw⟩:=hw1 _ h1
   rw [hw,zF] at key
   exact ⟨y,hy,key _ ((hA2.call hy).pan _ _)⟩
  ·obtain ⟨i1,c1,t1,v,hr1,⟨cs,rfl,he⟩,hw⟩:=hw1 _ h1
   rw [hw,zi,he.cells,bind_some] at key
   have hA3:=hA2.call (jb s i1 c1 t1)
   have g3:=zD (y:=RB (rdT s i1 c1 t1)) (La S) hne
   generalize hS3:St.put (zh.free 0::XB ex0::S) o (RB (rdT s i1 c1 t1))=S3 at hA3 g3 key
   have hq3:S.length<S3.length:=St.get_lt g3
   have hnew:zl (zh.free 0::zh.box 24 [.int .i64 0,.int .i64 0,.str [],.nils]::S3) (.bp S3.length 0) cs=_:=MP he
   rw [hnew,bind_some] at key
   have hA4:At S o (rdT s i1 c1 t1) (zh.free 0::XB cs::S3):=(hA3.push (y:=XB cs) (he.closeds _)).push (y:=.free 0) rfl
   have g4:St.get (zh.free 0::XB cs::S3) S.length=some (XB ex0):=zG (zG g3)
   have q4:St.get (zh.free 0::XB cs::S3) S3.length=some (XB cs):=Zv rfl
   have hlen:zL (lvC l)=some (.int .i64 l.length):=rfl
   simp only [ha.headK,hlen,bind_some,zk] at key
   have:=ih (.loop l lv e) nest ts1 x (by omega) h2 trivial _ i1 c1 t1 hA4.cl hA4.lt hA4.get hr1 hlv S a _ cs ex0 ha hA4 g4 rfl hq3 q4 he
   exact this.imp key
theorem Bt {l:List (B×Int)} {lv:List (List (B×Int))} {e:Ex} (h:P (n+1) (.loop l lv e) nest ts=some x):Gm s o (.loop l lv e) nest x S (rdT s i c t):=by
 intro hlv st a q cs old ha hA gb hold hq gq he
 simp only [P] at h
 have hfl:=ha.2
 have hll:l.length≤100:=hlv l List.mem_cons_self
 have hqS:q<S.length:=St.get_lt gq
 have hne:st.length≠o:=by have:=hA.low;omega
 have hneq:q≠o:=by have:=hA.low;omega
 have go:∀(rest:List (B×Int)) (k:Nat),l.drop k=rest→k<100000000000→(match rest.find? fun p=>isS ts p.1 with
   |none=>ok e ts
   |some p=>adv ts fun ts=>andThen (P n (.two lv) nest ts) fun x ts=>P n (.loop l lv (.mk p.2 0 [] [e,x])) nest ts)=some x →
   Jt st o s x (aw 39 st.length GL ⟨[(0,.bp o 0),(1,a),(2,.int .i64 (nest:Int)),(6,.bp st.length 0),(7,.bp q 0),(23,lvC l),(24,.int .i64 (l.length:Int)),(25,.int .i64 (k:Int))],[]⟩ S):=by
  intro rest
  induction rest with
  |nil =>
   intro k hk hkb h
   have hkl:l.length≤k:=by have:=congrArg List.length hk;simp at this;omega
   have key:∀R,_:=fun R=>IO (.bp o 0) a (nest:Int) (.bp st.length 0) (.bp q 0) (lvC l) (l.length:Int) (k:Int) st.length S (r:=R)
   rw [show decide ((k:Int)<(l.length:Int))=false from decide_eq_false (by omega)] at key
   rw [cond_false,zn gq,he.row,bind_some,he.cells,bind_some] at key
   cases h
   exact ⟨i,c,t,_,hr,⟨_,rfl,he⟩,key _ (Wz hA gb hold he)⟩
  |cons p rest ihr =>
   intro k hk hkb h
   have hkl:k<l.length:=by have:=congrArg List.length hk;simp at this;omega
   have hp:l[k]?=some p:=by
    have:(l.drop k)[0]?=some p:=by rw [hk];rfl
    rw [List.getElem?_drop] at this;simpa using this
   have hrest:l.drop (k+1)=rest:=by rw [←List.drop_drop,hk];rfl
   have key:∀R,_:=fun R=>IO (.bp o 0) a (nest:Int) (.bp st.length 0) (.bp q 0) (lvC l) (l.length:Int) (k:Int) st.length S (r:=R)
   rw [show decide ((k:Int)<(l.length:Int))=true from decide_eq_true (by omega)] at key
   have hrow:zj (qV p) 0 2 true=some (.agg (qV p)):=rfl
   have hcel:zq 2 (.agg (qV p))=some (qV p):=rfl
   have hnewp:zl (zh.box 93 [.str [],.int .i64 0]::S) (.bp S.length 0) (qV p)=some (zh.box 93 (qV p)::S):=by
    rw [zM (St.get_top _ _) (row':=qV p) rfl,St.put_top]
   have hrp0:zf (zh.box 93 (qV p)::S) (.bp S.length 0) 1 false=some (.str p.1):=zn (St.get_top _ _)
   simp only [cond_true,zO,bind_some,CU S hp,Zx,hrow,hcel,hnewp,hrp0,zr] at key
   have hA1:At st o (rdT s i c t) (zh.box 93 (qV p)::S):=hA.push rfl
   have gb1:St.get (zh.box 93 (qV p)::S) st.length=some (XB old):=zG gb
   have gq1:St.get (zh.box 93 (qV p)::S) q=some (XB cs):=zG gq
   have gp1:St.get (zh.box 93 (qV p)::S) S.length=some (.box 93 (qV p)):=St.get_top _ _
   have his:=XY hA1.get hr p.1
   rw [his,zi] at key
   simp only [zp,bind_some] at key
   rw [List.find?_cons] at h
   cases hs:isS ts p.1 with
   |false =>
    rw [hs] at key h
    simp only [cond_false] at key h
    rw [Kj hA.cl (by
     intro z hz
     have h1:=hA.lt
     have h2:=hfl.closed (m:=S.length)
     have h3:=Ug S.length l
     have h4:=St.get_lt gb
     simp only [List.mem_cons,List.not_mem_nil,or_false] at hz
     rcases hz with rfl | rfl | rfl | rfl | rfl | rfl | rfl | rfl<;>simp [AV.closed,h1,h2,h3,h4,hqS])] at key
    rw [bind_some,e1i (by omega)] at key
    exact (ihr (k+1) hrest (by omega) h).imp key
   |true =>
    rw [hs] at key h
    simp only [cond_true] at key h
    obtain ⟨r1,hr1c⟩:=hr.cons
    have hneS:S.length≠o:=by have:=hA.lt;omega
    rcases jU hA1.cl hA1.lt hl hA1.get hr (Qg hr1c hs) with ⟨er,pp,i',c',k',ts',nn,a',k1,k2⟩ | ⟨i2,c2,t2,ts2,k1,hr2,k3⟩
    ·rw [k2,zF] at key
     rw [k1] at h
     cases h
     exact ⟨_,Yh _ _ _ _ _ _ _,key _ ((hA1.call (Yh _ _ _ _ _ _ _)).pan _ _)⟩
    ·rw [k3,zi] at key
     rw [k1] at h
     have hA2:=hA1.call (jb s i2 c2 t2)
     have gb2:=zD (y:=RB (rdT s i2 c2 t2)) gb1 hne
     have gq2:=zD (y:=RB (rdT s i2 c2 t2)) gq1 hneq
     have gp2:=zD (y:=RB (rdT s i2 c2 t2)) gp1 hneS
     generalize hS2:St.put (zh.box 93 (qV p)::S) o (RB (rdT s i2 c2 t2))=S2 at hA2 gb2 gq2 gp2 key
     obtain ⟨a',ha1,ha2⟩:=ha.tail S2
     have hrp1:zj (qV p) 1 1 false=some (.int .i64 p.2):=rfl
     simp only [zn gp2,hrp1,bind_some,zk,zn gq2,he.row,ha1] at key
     have hlv':∀m ∈ lv,m.length≤100:=fun m hm=>hlv m (List.mem_cons_of_mem _ hm)
     rcases qD h with ⟨f,h1,rfl⟩ | ⟨e2,ts3,h1,h2⟩
     ·obtain ⟨y,hy,hw⟩:=ih (.two lv) nest ts2 _ (by omega) h1 trivial S2 i2 c2 t2 hA2.cl hA2.lt hA2.get hr2 hlv' a' ha2
      rw [hw,zF] at key
      refine ⟨y,hy,key _ ?_⟩
      rw [if_pos]
      ·exact (hA2.call hy).pan _ _
      ·have l3:∀X:St,ldA Tryz.prog X 3 (.bp S.length 1)=zf X (.bp S.length 1) 1 false:=fun X=>by
        have e1:Ji Tryz.prog 3=some false:=by kernel_rfl
        have e2:qv Tryz.prog 3=some 1:=by kernel_rfl
        unfold ldA zf
        rw [e1,e2];rfl
       simp [YP,rkA,List.range.loop,Jz,l3,zn gp2,hrp1,zn gq2,he.row,AV.beq_refl]
     ·obtain ⟨i3,c3,t3,v,hr3,⟨cs2,rfl,he2⟩,hw⟩:=ih (.two lv) nest ts2 _ (by omega) h1 trivial S2 i2 c2 t2 hA2.cl hA2.lt hA2.get hr2 hlv' a' ha2
      have hnode:ExR (.mk p.2 0 [] [e,e2]) [.int .i64 p.2,.int .i64 0,.str [],.sl 4 [cs.map AV.strip,cs2.map AV.strip] 0 2 .exact]:=ExR.node p.2 0 [] (ExRs.two he he2) (.inr rfl)
      have hA3:=hA2.call (jb s i3 c3 t3)
      have gb3:=zD (y:=RB (rdT s i3 c3 t3)) gb2 hne
      have gq3:=zD (y:=RB (rdT s i3 c3 t3)) gq2 hneq
      have gp3:=zD (y:=RB (rdT s i3 c3 t3)) gp2 hneS
      rw [hw,zi,he.cells,bind_some,he2.cells,bind_some,hnode.cells,bind_some] at key
      generalize hS3:St.put S2 o (RB (rdT s i3 c3 t3))=S3 at hA3 gb3 gq3 gp3 key
      rw [zM gq3 (hnode.set he.len),bind_some] at key
      have hA4:At st o (rdT s i3 c3 t3) (S3.put q (XB [.int .i64 p.2,.int .i64 0,.str [],.sl 4 [cs.map AV.strip,cs2.map AV.strip] 0 2 .exact])):=hA3.putHi (by omega) (hnode.closeds _)
      have gb4:=zD (y:=XB [.int .i64 p.2,.int .i64 0,.str [],.sl 4 [cs.map AV.strip,cs2.map AV.strip] 0 2 .exact]) gb3 (show st.length≠q by omega)
      have gp4:=zD (y:=XB [.int .i64 p.2,.int .i64 0,.str [],.sl 4 [cs.map AV.strip,cs2.map AV.strip] 0 2 .exact]) gp3 (show S.length≠q by omega)
      have gq4:(S3.put q (XB [.int .i64 p.2,.int .i64 0,.str [],.sl 4 [cs.map AV.strip,cs2.map AV.strip] 0 2 .exact])).get q=some (XB [.int .i64 p.2,.int .i64 0,.str [],.sl 4 [cs.map AV.strip,cs2.map AV.strip] 0 2 .exact]):=St.get_put_same (St.get_lt gq3)
      generalize hS4:S3.put q (XB [.int .i64 p.2,.int .i64 0,.str [],.sl 4 [cs.map AV.strip,cs2.map AV.strip] 0 2 .exact])=S4 at hA4 gb4 gp4 gq4 key
      have:=ih (.loop l lv (.mk p.2 0 [] [e,e2])) nest ts3 x (by omega) h2 trivial S4 i3 c3 t3 hA4.cl hA4.lt hA4.get hr3 hlv st a q _ old ha hA4 gb4 hold hq gq4 hnode
      refine this.imp fun R hR=>key R ?_
      rw [if_pos]
      ·refine zbt _ _ _ _ _ _ _ _ _ _ _ _ ?_
       have hlen:zL (lvC l)=some (.int .i64 l.length):=rfl
       simp only [ha.headK,hlen,bind_some,zk]
       exact hR
      ·have l3:∀X:St,ldA Tryz.prog X 3 (.bp S.length 1)=zf X (.bp S.length 1) 1 false:=fun X=>by
        have e1:Ji Tryz.prog 3=some false:=by kernel_rfl
        have e2:qv Tryz.prog 3=some 1:=by kernel_rfl
        unfold ldA zf
        rw [e1,e2];rfl
       simp [YP,rkA,List.range.loop,Jz,l3,zn gp2,zn gp3,zn gp4,hrp1,zn gq2,zn gq3,he.row,AV.beq_refl]
 exact go l 0 rfl (by omega) h
theorem NY {e:Ex} (h:P (n+1) (.partL e) nest ts=some x):Gm s o (.partL e) nest x S (rdT s i c t):=by
 intro st q cs old hA gb hold hq gq he
 simp only [P] at h
 have hqS:q<S.length:=St.get_lt gq
 have hne:st.length≠o:=by have:=hA.low;omega
 have hneq:q≠o:=by have:=hA.low;omega
 have key:∀R,_:=fun R=>zbw (.bp o 0) (nest:Int) (.bp st.length 0) (.bp q 0) st.length S (r:=R)
 have h46:cw 41 [.bp o 0,.str [ofNat 46]] S=some (.ret (.bool (isS ts [46])),S):=XY hg hr [46]
 have h91:cw 41 [.bp o 0,.str [ofNat 91]] S=some (.ret (.bool (isS ts [91])),S):=XY hg hr [91]
 rw [h46,zi] at key
 simp only [zp,bind_some] at key
 obtain ⟨r1,hr1c⟩:=hr.cons
 by_cases q1:isS ts [46]=true
 ·rw [if_pos q1] at h
  rw [q1] at key
  simp only [cond_true] at key
  rcases jU hS ho hl hg hr (Qg hr1c q1) with ⟨er,p,i',c',k,ts',nn,a,k1,k2⟩ | ⟨i2,c2,t2,ts2,k1,hr2,k3⟩
  ·rw [k2,zF] at key
   rw [k1] at h
   cases h
   exact ⟨_,Yh _ _ _ _ _ _ _,key _ ((hA.call (Yh _ _ _ _ _ _ _)).pan _ _)⟩
  ·rw [k3,zi] at key
   rw [k1] at h
   have hA2:=hA.call (jb s i2 c2 t2)
   have gb2:=zD (y:=RB (rdT s i2 c2 t2)) gb hne
   have gq2:=zD (y:=RB (rdT s i2 c2 t2)) gq hneq
   generalize hS2:St.put S o (RB (rdT s i2 c2 t2))=S2 at hA2 gb2 gq2 key
   simp only [zu,zE,bind_some,Nat.zero_add,Nat.add_zero,Nat.reduceAdd,hA2.cells,rdT,zaj,zbs,zk,zr] at key
   have hrd:rd s (i2:Int) (c2:Int) (knT t2.k) (JK t2.k) (Wl t2.k) (t2.at':Int)=rdT s i2 c2 t2:=rfl
   obtain ⟨r2,hr2c⟩:=hr2.cons
   by_cases hname:∃w,t2.k = .name w
   ·obtain ⟨w,hw⟩:=hname
    have hts:(match (generalizing:=false) ts2 with | ⟨.name s,_⟩::_=>adv ts2 fun ts=>P n (.partL (.mk 7 0 s [e])) nest ts | _=>stop ts2)=adv ts2 fun ts=>P n (.partL (.mk 7 0 w [e])) nest ts:=by
     rw [hr2c]
     obtain ⟨k2,a2⟩:=t2
     simp only at hw
     subst hw
     rfl
    have h':(adv ts2 fun ts=>P n (.partL (.mk 7 0 w [e])) nest ts)=some x:=by rw [←hts];exact h
    rw [hw] at key
    have hkn:(knT (.name w) != 3)=false:=rfl
    have hst:JK (.name w)=w:=rfl
    have hnode:ExR (.mk 7 0 w [e]) [.int .i64 7,.int .i64 0,.str w,.sl 4 [cs.map AV.strip] 0 1 .exact]:=ExR.node 7 0 w (ExRs.one he) (.inr rfl)
    rw [hkn] at key
    simp only [cond_false,hst,zn gq2,he.row,bind_some,he.cells,hnode.cells,zM gq2 (hnode.set he.len)] at key
    have hA3:At st o (rdT s i2 c2 t2) (S2.put q (XB [.int .i64 7,.int .i64 0,.str w,.sl 4 [cs.map AV.strip] 0 1 .exact])):=hA2.putHi (by omega) (hnode.closeds _)
    have gb3:=zD (y:=XB [.int .i64 7,.int .i64 0,.str w,.sl 4 [cs.map AV.strip] 0 1 .exact]) gb2 (show st.length≠q by omega)
    have gq3:(S2.put q (XB [.int .i64 7,.int .i64 0,.str w,.sl 4 [cs.map AV.strip] 0 1 .exact])).get q=some (XB [.int .i64 7,.int .i64 0,.str w,.sl 4 [cs.map AV.strip] 0 1 .exact]):=St.get_put_same (St.get_lt gq2)
    have lstr:∀X:St,ldA Tryz.prog X 9 (.bp o 4)=zf X (.bp o 4) 1 false:=fun X=>by
     have e1:Ji Tryz.prog 9=some false:=by kernel_rfl
     have e2:qv Tryz.prog 9=some 1:=by kernel_rfl
     unfold ldA zf
     rw [e1,e2];rfl
    generalize hS3:S2.put q (XB [.int .i64 7,.int .i64 0,.str w,.sl 4 [cs.map AV.strip] 0 1 .exact])=S3 at hA3 gb3 gq3 key
    have hc2:∀X,X=S2∨X=S3→zf X (.bp o 4) 1 false=some (.str w):=by
     intro X hX
     rcases hX with rfl | rfl
     ·rw [hA2.cells];simp [rdT,hw,JK]
     ·rw [hA3.cells];simp [rdT,hw,JK]
    have key2:∀R,(zg (cw 17 [.bp o 0] S3) (fun v st_1=>aw 97 st.length Vg ⟨[(0,.bp o 0),(1,.int .i64 (nest:Int)),(4,.bp st.length 0),(5,.bp q 0)],[]⟩ st_1) fun v st_1=>ze false st.length (.pan v) st_1)=some R →
      aw 97 st.length Vg ⟨[(0,.bp o 0),(1,.int .i64 (nest:Int)),(4,.bp st.length 0),(5,.bp q 0)],[]⟩ S=some R:=by
     intro R hR
     refine key R ?_
     first
      |exact hR
      |(rw [if_pos] <;> first|exact hR|simp [YP,rkA,List.range.loop,lstr,hc2,AV.beq_refl])
    rcases jU hA3.cl hA3.lt hl hA3.get hr2 (by rw [hw];simp) with ⟨er,p,i',c',k,ts',nn,a,k1,k2⟩ | ⟨i3,c3,t3,ts3,k1,hr3,k3⟩
    ·rw [k2,zF] at key2
     rw [k1] at h'
     cases h'
     exact ⟨_,Yh _ _ _ _ _ _ _,key2 _ ((hA3.call (Yh _ _ _ _ _ _ _)).pan _ _)⟩
    ·rw [k3,zi] at key2
     rw [k1] at h'
     have hA4:=hA3.call (jb s i3 c3 t3)
     have:=ih (.partL (.mk 7 0 w [e])) nest ts3 x (by omega) h' trivial _ i3 c3 t3 hA4.cl hA4.lt hA4.get hr3 st q _ old hA4 (zD gb3 hne) hold hq (zD gq3 hneq) hnode
     exact this.imp key2
   ·have hts:(match (generalizing:=false) ts2 with | ⟨.name s,_⟩::_=>adv ts2 fun ts=>P n (.partL (.mk 7 0 s [e])) nest ts | _=>stop ts2)=stop ts2:=by
     rw [hr2c]
     obtain ⟨k2,a2⟩:=t2
     cases k2 with
     |name w=>exact absurd ⟨w,rfl⟩ hname
     |_=>rfl
    have h':stop ts2=some x:=by rw [←hts];exact h
    have hkn:(knT t2.k != 3)=true:=by
     have:=hr2.nb
     obtain ⟨k2,a2⟩:=t2
     cases k2 with
     |name w=>exact absurd ⟨w,rfl⟩ hname
     |_=>rfl
    rw [hkn] at key
    simp only [cond_true,Wb hA2.get hr2,zF] at key
    cases h'
    exact ⟨_,jb s i2 c2 t2,key _ (hA2.pan _ _)⟩
 rw [if_neg q1] at h
 rw [show isS ts [46]=false by simpa using q1] at key
 simp only [cond_false,h91,zi,zp,bind_some] at key
 by_cases q2:isS ts [91]=true
 ·rw [if_pos q2] at h
  rw [q2] at key
  simp only [cond_true,zn gq,he.row,bind_some] at key
  have hin:∀y,P n (.inside [93]) nest ts=some y→Jt S o s y (cw 113 [.bp o 0,.str [ofNat 93],.int .i64 (nest:Int)] S) :=
   fun y hy=>ih (.inside [93]) nest ts y (by omega) hy ⟨t,r1,hr1c,Qg hr1c q2⟩ S i c t hS ho hg hr rfl
  rcases qD h with ⟨f,h1,rfl⟩ | ⟨e2,ts3,h1,h2⟩
  ·obtain ⟨y,hy,hw⟩:=hin _ h1
   rw [hw,zF] at key
   refine ⟨y,hy,key _ ?_⟩
   rw [if_pos]
   ·exact (hA.call hy).pan _ _
   ·simp [YP,rkA,List.range.loop,Jz,zn gq,he.row,AV.beq_refl]
  ·obtain ⟨i3,c3,t3,v,hr3,⟨cs2,rfl,he2⟩,hw⟩:=hin _ h1
   have hnode:ExR (.mk 8 0 [] [e,e2]) [.int .i64 8,.int .i64 0,.str [],.sl 4 [cs.map AV.strip,cs2.map AV.strip] 0 2 .exact]:=ExR.node 8 0 [] (ExRs.two he he2) (.inr rfl)
   have hA3:=hA.call (jb s i3 c3 t3)
   have gb3:=zD (y:=RB (rdT s i3 c3 t3)) gb hne
   have gq3:=zD (y:=RB (rdT s i3 c3 t3)) gq hneq
   rw [hw,zi,he.cells,bind_some,he2.cells,bind_some,hnode.cells,bind_some] at key
   generalize hS3:St.put S o (RB (rdT s i3 c3 t3))=S3 at hA3 gb3 gq3 key
   rw [zM gq3 (hnode.set he.len),bind_some] at key
   have hA4:At st o (rdT s i3 c3 t3) (S3.put q (XB [.int .i64 8,.int .i64 0,.str [],.sl 4 [cs.map AV.strip,cs2.map AV.strip] 0 2 .exact])):=hA3.putHi (by omega) (hnode.closeds _)
   have gb4:=zD (y:=XB [.int .i64 8,.int .i64 0,.str [],.sl 4 [cs.map AV.strip,cs2.map AV.strip] 0 2 .exact]) gb3 (show st.length≠q by omega)
   have gq4:(S3.put q (XB [.int .i64 8,.int .i64 0,.str [],.sl 4 [cs.map AV.strip,cs2.map AV.strip] 0 2 .exact])).get q=some (XB [.int .i64 8,.int .i64 0,.str [],.sl 4 [cs.map AV.strip,cs2.map AV.strip] 0 2 .exact]):=St.get_put_same (St.get_lt gq3)
   have:=ih (.partL (.mk 8 0 [] [e,e2])) nest ts3 x (by omega) h2 trivial _ i3 c3 t3 hA4.cl hA4.lt hA4.get hr3 st q _ old hA4 gb4 hold hq gq4 hnode
   refine this.imp fun R hR=>key R ?_
   rw [if_pos]
   ·exact hR
   ·simp [YP,rkA,List.range.loop,Jz,zn gq,zn gq3,he.row,AV.beq_refl]
 ·rw [if_neg q2] at h
  rw [show isS ts [91]=false by simpa using q2] at key
  simp only [cond_false,zn gq,he.row,bind_some,he.cells] at key
  cases h
  exact ⟨i,c,t,_,hr,⟨_,rfl,he⟩,key _ (Wz hA gb hold he)⟩
theorem Bi {st:St} {w:B} {q:Nat} {k0:Int} {n0 a0:Int} (hA:At st o (rdT s i c t) S) (gb:S.get st.length=some (XB ex0)) (hq:st.length<q) (gq:S.get q=some (TB (tk k0 w n0 a0)))
  (h:(if Zj w≠0∧isS ts [40]=true then andThen (P n (.inside [41]) nest ts) fun e ts=>ok (.mk 9 (Zj w) [] [e]) ts else ok (.mk 6 0 w []) ts)=some x) :
  ∀(rest:List B) (k:Nat),X.calls.drop k=rest→k≤8→(∀j<k,X.calls[j]?=some w→isS ts [40]=false) →
  Jt st o s x (aw 112 st.length WE ⟨[(0,.bp o 0),(1,.int .i64 (nest:Int)),(4,.bp st.length 0),(5,.bp q 0),(52,.sl 1 (qw X.calls) 0 8 .no),(53,.int .i64 8),(54,.int .i64 (k:Int))],[]⟩ S):=by
 intro rest
 have hne:st.length≠o:=by have:=hA.low;omega
 induction rest with
 |nil =>
  intro k hk hk8 hno
  have hkl:8≤k:=by have:=congrArg List.length hk;simp [X.calls] at this;omega
  have key:∀R,_:=fun R=>Hk (.bp o 0) (nest:Int) (.bp st.length 0) (.bp q 0) (.sl 1 (qw X.calls) 0 8 .no) 8 (k:Int) st.length S (r:=R)
  rw [show decide ((k:Int)<8)=false from decide_eq_false (by omega)] at key
  have hleaf:=ExR.leaf 6 0 w
  simp only [cond_false,zE,bind_some,Nat.zero_add,zn gq,Hg,zr,hleaf.cells] at key
  have hcond:¬(Zj w≠0∧isS ts [40]=true):=by
   rintro ⟨h1,h2⟩
   unfold Zj at h1
   split at h1
   ·rename_i j hj
    obtain ⟨h3,h4,_⟩:=List.findIdx?_eq_some_iff_getElem.1 hj
    have h5:X.calls.length=8:=rfl
    have:=hno j (by omega) (by rw [List.getElem?_eq_getElem h3];simpa using h4)
    rw [h2] at this;cases this
   ·exact h1 rfl
  rw [if_neg hcond] at h
  cases h
  exact ⟨i,c,t,_,hr,⟨_,rfl,hleaf⟩,key _ (Wz hA gb rfl hleaf)⟩
 |cons g rest ihr =>
  intro k hk hk8 hno
  have hkl:k<8:=by have:=congrArg List.length hk;simp [X.calls] at this;omega
  have hg':X.calls[k]?=some g:=by
   have:(X.calls.drop k)[0]?=some g:=by rw [hk];rfl
   rw [List.getElem?_drop] at this;simpa using this
  have hrest:X.calls.drop (k+1)=rest:=by rw [←List.drop_drop,hk];rfl
  have hix:∀S,zt S 1 (.sl 1 (qw X.calls) 0 8 .no) k=some (.ip [.str g] 0):=fun S=>by
   unfold zt
   dsimp only
   rw [if_pos ⟨rfl,hkl⟩,Nat.zero_add]
   simp [qw,hg']
  have key:∀R,_:=fun R=>Hk (.bp o 0) (nest:Int) (.bp st.length 0) (.bp q 0) (.sl 1 (qw X.calls) 0 8 .no) 8 (k:Int) st.length S (r:=R)
  rw [show decide ((k:Int)<8)=true from decide_eq_true (by omega)] at key
  have h40:cw 41 [.bp o 0,.str [ofNat 40]] S=some (.ret (.bool (isS ts [40])),S):=XY hg hr [40]
  simp only [cond_true,zO,hix,GH,zE,bind_some,Nat.zero_add,zn gq,Hg,zr,qr,zp,h40,zi,e1i (show k<1000000000000 by omega)] at key
  cases hgw:g==w with
  |false =>
   rw [hgw] at key
   simp only [cond_false] at key
   refine (ihr (k+1) hrest (by omega) fun j hj hjw=>?_).imp key
   by_cases hjk:j=k
   ·subst hjk
    rw [hg'] at hjw
    cases hjw
    simp at hgw
   ·exact hno j (by omega) hjw
  |true =>
   have hgw':g=w:=by simpa using hgw
   rw [hgw] at key
   simp only [cond_true] at key
   cases hs:isS ts [40] with
   |false =>
    rw [hs] at key
    simp only [cond_false] at key
    exact (ihr (k+1) hrest (by omega) fun j hj hjw=>hs).imp key
   |true =>
    rw [hs] at key
    simp only [cond_true] at key
    have hcn:Zj w=k+1:=by
     unfold Zj
     have:X.calls.findIdx? (fun c=>c==w)=some k:=by
      refine List.findIdx?_eq_some_iff_getElem.2 ⟨by have:X.calls.length=8:=rfl;omega,?_,fun j hj=>?_⟩
      ·have:=List.getElem?_eq_some_iff.1 hg'
       obtain ⟨h1,h2⟩:=this
       simp [h2,hgw']
      ·have hj8:j<X.calls.length:=by have:X.calls.length=8:=rfl;omega
       intro hc
       have:=hno j hj (by rw [List.getElem?_eq_getElem hj8];simpa using hc)
       rw [hs] at this;cases this
     rw [this]
    rw [if_pos ⟨by omega,hs⟩,hcn] at h
    obtain ⟨r1,hr1c⟩:=hr.cons
    have hin:∀y,P n (.inside [41]) nest ts=some y→Jt S o s y (cw 113 [.bp o 0,.str [ofNat 41],.int .i64 (nest:Int)] S) :=
     fun y hy=>ih (.inside [41]) nest ts y (by omega) hy ⟨t,r1,hr1c,Qg hr1c hs⟩ S i c t hS ho hg hr rfl
    rcases qD h with ⟨f,h1,rfl⟩ | ⟨e2,ts3,h1,h2⟩
    ·obtain ⟨y,hy,hw⟩:=hin _ h1
     rw [hw,zF] at key
     exact ⟨y,hy,key _ ((hA.call hy).pan _ _)⟩
    ·obtain ⟨i3,c3,t3,v,hr3,⟨cs2,rfl,he2⟩,hw⟩:=hin _ h1
     have hnode:ExR (.mk 9 ((k+1:Nat):Int) [] [e2]) [.int .i64 9,.int .i64 ((k+1:Nat):Int),.str [],.sl 4 [cs2.map AV.strip] 0 1 .exact]:=ExR.node 9 _ [] (ExRs.one he2) (.inr rfl)
     rw [hw,zi,he2.cells,bind_some,hnode.cells,bind_some] at key
     cases h2
     exact ⟨i3,c3,t3,_,hr3,⟨_,rfl,hnode⟩,key _ (Wz (hA.call (jb s i3 c3 t3)) (zD gb hne) rfl hnode)⟩
theorem Fo (h:P (n+1) .word nest ts=some x):Gm s o .word nest x S (rdT s i c t):=by
 simp only [Ns] at h
 have hA:=At.init hS ho hg
 have hA2:At S o (rdT s i c t) (zh.free 0::XB ex0::S):=(hA.push (y:=XB ex0) rfl).push (y:=.free 0) rfl
 have hA3:At S o (rdT s i c t) (TB (tk (knT t.k) (JK t.k) (Wl t.k) (t.at':Int))::zh.free 0::XB ex0::S):=hA2.push rfl
 have g3:St.get (TB (tk (knT t.k) (JK t.k) (Wl t.k) (t.at':Int))::zh.free 0::XB ex0::S) S.length=some (XB ex0):=zG (La S)
 have hq:S.length<(zh.free 0::XB ex0::S).length:=by simp only [List.length_cons];omega
 have q3:St.get (TB (tk (knT t.k) (JK t.k) (Wl t.k) (t.at':Int))::zh.free 0::XB ex0::S) (zh.free 0::XB ex0::S).length=some (TB (tk (knT t.k) (JK t.k) (Wl t.k) (t.at':Int))):=St.get_top _ _
 have hne:S.length≠o:=by omega
 have hneq:(zh.free 0::XB ex0::S).length≠o:=by simp only [List.length_cons];omega
 have key:∀R,_:=fun R=>zbE (.bp o 0) (nest:Int) S (r:=R)
 have hAc:∀j m ag,zf (zh.free 0::zh.box 24 [.int .i64 0,.int .i64 0,.str [],.nils]::S) (.bp o j) m ag=zj (rdT s i c t) j m ag:=fun j m ag=>hA2.cells j m ag
 have hnt:zl (zh.box 47 [.int .i64 0,.str [],.int .i64 0,.int .i64 0]::zh.free 0::zh.box 24 [.int .i64 0,.int .i64 0,.str [],.nils]::S) (.bp (zh.free 0::zh.box 24 [.int .i64 0,.int .i64 0,.str [],.nils]::S).length 0) (tk (knT t.k) (JK t.k) (Wl t.k) (t.at':Int)) =
   some (TB (tk (knT t.k) (JK t.k) (Wl t.k) (t.at':Int))::zh.free 0::XB ex0::S):=by
  rw [zM (St.get_top _ _) (row':=tk (knT t.k) (JK t.k) (Wl t.k) (t.at':Int)) rfl,St.put_top]
  rfl
 simp only [zu,zE,bind_some,Nat.zero_add,hAc,rdT,zaS,QN,hnt] at key
 generalize hQ:(zh.free 0::zh.box 24 [.int .i64 0,.int .i64 0,.str [],.nils]::S).length=Q at key
 have hQ':(zh.free 0::XB ex0::S).length=Q:=hQ
 rw [hQ'] at hq q3 hneq
 generalize hS3:TB (tk (knT t.k) (JK t.k) (Wl t.k) (t.at':Int))::zh.free 0::XB ex0::S=S3 at hA3 g3 q3 key
 simp only [zn q3,Hi,bind_some,zk] at key
 obtain ⟨r1,hr1c⟩:=hr.cons
 have leaf:∀(op m:Int) (w:B) (R0:Option (zd×St)),t.k≠.fin→(adv ts fun ts=>ok (.mk op m w []) ts)=some x →
   (∀R,(zg (cw 17 [.bp o 0] S3) (fun v st_2=>(zl st_2 (.bp S.length 0) [.int .i64 op,.int .i64 m,.str w,.nils]).bind fun st_3=>((ldA Tryz.prog st_3 24 (.bp S.length 0)).bind fun v=>some [v]).bind fun vs=>ze false S.length (.ret (qG vs)) st_3) fun v st_2=>ze false S.length (.pan v) st_2)=some R→R0=some R)→Jt S o s x R0:=by
  intro op m w R0 hf h key
  rcases jU hA3.cl hA3.lt hl hA3.get hr hf with ⟨er,p,i',c',k,ts',nn,a,k1,k2⟩ | ⟨i2,c2,t2,ts2,k1,hr2,k3⟩
  ·rw [k2,zF] at key
   rw [k1] at h
   cases h
   exact ⟨_,Yh _ _ _ _ _ _ _,key _ ((hA3.call (Yh _ _ _ _ _ _ _)).pan _ _)⟩
  ·rw [k3,zi] at key
   rw [k1] at h
   cases h
   exact ⟨i2,c2,t2,_,hr2,⟨_,rfl,ExR.leaf op m w⟩,key _ (Wz (hA3.call (jb s i2 c2 t2)) (zD g3 hne) rfl (ExR.leaf op m w))⟩
 have hnb:=hr.nb
 have h40:cw 41 [.bp o 0,.str [ofNat 40]] S3=some (.ret (.bool (isS ts [40])),S3):=XY hA3.get hr [40]
 cases htk:t.k with
 |bad e p=>exact absurd htk (hnb e p)
 |num m =>
  have hcells:=(ExR.leaf 4 (m:Int) []).cells
  have h':(adv ts fun ts=>ok (.mk 4 (m:Int) [] []) ts)=some x:=by
   rw [hr1c] at h ⊢
   obtain ⟨k1,a1⟩:=t
   simp only at htk
   subst htk
   exact h
  rw [htk] at key
  rw [show (knT (.num m)==1)=true from rfl] at key
  simp only [cond_true] at key
  refine leaf 4 (m:Int) [] _ (by rw [htk];simp) h' fun R hR=>key R ?_
  rcases jU hA3.cl hA3.lt hl hA3.get hr (by rw [htk];simp) with ⟨er,p,i',c',k,ts',nn,a,k1,k2⟩ | ⟨i2,c2,t2,ts2,k1,hr2,k3⟩
  ·rw [k2,zF] at hR ⊢;exact hR
  ·have:=zn (zD (y:=RB (rdT s i2 c2 t2)) q3 hneq) (c:=2) (k:=1) (ag:=false)
   rw [k3,zi] at hR ⊢
   simp only [this,zbS,htk,Wl,bind_some,zk,hcells]
   exact hR
 |text w =>
  have hcells:=(ExR.leaf 5 0 w).cells
  have h':(adv ts fun ts=>ok (.mk 5 0 w []) ts)=some x:=by
   rw [hr1c] at h ⊢
   obtain ⟨k1,a1⟩:=t
   simp only at htk
   subst htk
   exact h
  rw [htk] at key
  rw [show (knT (.text w)==1)=false from rfl,show (knT (.text w)==2)=true from rfl] at key
  simp only [cond_true,cond_false] at key
  refine leaf 5 0 w _ (by rw [htk];simp) h' fun R hR=>key R ?_
  rcases jU hA3.cl hA3.lt hl hA3.get hr (by rw [htk];simp) with ⟨er,p,i',c',k,ts',nn,a,k1,k2⟩ | ⟨i2,c2,t2,ts2,k1,hr2,k3⟩
  ·rw [k2,zF] at hR ⊢;exact hR
  ·have:=zn (zD (y:=RB (rdT s i2 c2 t2)) q3 hneq) (c:=1) (k:=1) (ag:=false)
   rw [k3,zi] at hR ⊢
   simp only [this,Hg,htk,JK,bind_some,zr,hcells]
   exact hR
 |name w =>
  have h':(adv ts fun ts=>if qy w≠0 then ok (.mk (qy w) 0 [] []) ts else if Zj w≠0∧isS ts [40]=true then andThen (P n (.inside [41]) nest ts) fun e ts=>ok (.mk 9 (Zj w) [] [e]) ts else ok (.mk 6 0 w []) ts)=some x:=by
   rw [hr1c] at h ⊢
   obtain ⟨k1,a1⟩:=t
   simp only at htk
   subst htk
   exact h
  have hn40:isS ts [40]=false:=by
   rw [hr1c]
   obtain ⟨k1,a1⟩:=t
   simp only at htk
   subst htk
   rfl
  rw [htk] at key
  rw [show (knT (.name w)==1)=false from rfl,show (knT (.name w)==2)=false from rfl] at key
  simp only [cond_false,h40,zi,zp,bind_some,hn40] at key
  rcases jU hA3.cl hA3.lt hl hA3.get hr (by rw [htk];simp) with ⟨er,p,i',c',k,ts',nn,a,k1,k2⟩ | ⟨i2,c2,t2,ts2,k1,hr2,k3⟩
  ·rw [k1] at h'
   cases h'
   refine ⟨_,Yh s i' c' k ts' nn a,key _ ?_⟩
   simp only [zn q3,Hi,htk,knT,bind_some,zk]
   rw [show ((3:Int) != 3)=false from rfl,cond_false,k2,zF]
   exact (hA3.call (Yh _ _ _ _ _ _ _)).pan _ _
  ·rw [k1] at h'
   have hA4:=hA3.call (jb s i2 c2 t2)
   have g4:=zD (y:=RB (rdT s i2 c2 t2)) g3 hne
   have q4:=zD (y:=RB (rdT s i2 c2 t2)) q3 hneq
   simp only [zn q3,Hi,htk,knT,bind_some,zk] at key
   rw [show ((3:Int) != 3)=false from rfl] at key
   simp only [cond_false,k3,zi] at key
   generalize hS4:St.put S3 o (RB (rdT s i2 c2 t2))=S4 at hA4 g4 q4 key
   rw [htk] at q4
   simp only [zn q4,Hg,JK,bind_some,zr,ja,zi,zk] at key
   by_cases hlit:qy w≠0
   ·rw [if_pos hlit] at h'
    rw [show (qy w != 0)=true by simpa using hlit] at key
    have hleaf:=ExR.leaf (qy w) 0 []
    simp only [cond_true,hleaf.cells,bind_some] at key
    cases h'
    exact ⟨i2,c2,t2,_,hr2,⟨_,rfl,hleaf⟩,key _ (Wz hA4 g4 rfl hleaf)⟩
   ·rw [if_neg hlit] at h'
    rw [show (qy w != 0)=false by simpa using hlit] at key
    have hlen8:zL (.sl 1 (qw X.calls) 0 8 .no)=some (.int .i64 8):=rfl
    simp only [cond_false,jz S4 hA4.cl,zi,hlen8,bind_some,zk] at key
    have:=Bi hl ih hn hA4.cl hA4.lt hA4.get hr2 hA4 g4 hq q4 h' X.calls 0 rfl (by omega) (by simp)
    exact this.imp key
 |sign g =>
  rw [htk] at key
  rw [show (knT (.sign g)==1)=false from rfl,show (knT (.sign g)==2)=false from rfl] at key
  have h':(if isS ts [40]=true then P n (.inside [41]) nest ts else stop ts)=some x:=by
   rw [hr1c] at h ⊢
   obtain ⟨k1,a1⟩:=t
   simp only at htk
   subst htk
   exact h
  simp only [cond_false,h40,zi,zp,bind_some] at key
  cases hs:isS ts [40] with
  |true =>
   rw [hs] at key h'
   simp only [cond_true,if_true] at key h'
   have hin:=ih (.inside [41]) nest ts x (by omega) h' ⟨t,r1,hr1c,Qg hr1c hs⟩ S3 i c t hA3.cl hA3.lt hA3.get hr rfl
   match x,hin with
   | .error (e,p),⟨y,hy,hw⟩ =>
    have hw':cw 113 [.bp o 0,.str [ofNat 41],.int .i64 (nest:Int)] S3=_:=hw
    rw [hw',zF] at key
    exact ⟨y,hy,key _ ((hA3.call hy).pan _ _)⟩
   | .ok (e,ts'),⟨i3,c3,t3,v,hr3,⟨cs2,hv,he2⟩,hw⟩ =>
    subst hv
    have hw':cw 113 [.bp o 0,.str [ofNat 41],.int .i64 (nest:Int)] S3=_:=hw
    rw [hw',zi,he2.cells,bind_some] at key
    exact ⟨i3,c3,t3,_,hr3,⟨_,rfl,he2⟩,key _ (Wz (hA3.call (jb s i3 c3 t3)) (zD g3 hne) rfl he2)⟩
  |false =>
   rw [hs] at key h'
   simp only [Bool.false_eq_true,if_false] at h'
   simp only [cond_false,zn q3,Hi,htk,knT,bind_some,zk] at key
   rw [show ((4:Int) != 3)=true from rfl] at key
   simp only [cond_true,Wb hA3.get hr,zF] at key
   cases h'
   exact ⟨_,jb s i c t,key _ (hA3.pan _ _)⟩
 |fin =>
  rw [htk] at key
  rw [show (knT .fin==1)=false from rfl,show (knT .fin==2)=false from rfl] at key
  have hs:isS ts [40]=false:=by
   rw [hr1c]
   obtain ⟨k1,a1⟩:=t
   simp only at htk
   subst htk
   rfl
  have h':stop ts=some x:=by
   rw [hr1c] at h ⊢
   obtain ⟨k1,a1⟩:=t
   simp only at htk
   subst htk
   exact h
  simp only [cond_false,h40,zi,zp,bind_some,hs,zn q3,Hi,htk,knT,zk] at key
  rw [show ((0:Int) != 3)=true from rfl] at key
  simp only [cond_true,Wb hA3.get hr,zF] at key
  cases h'
  exact ⟨_,jb s i c t,key _ (hA3.pan _ _)⟩
end
theorem Ey {s:B} (hl:s.length<800000000) {o:Nat}:∀n,Hyp s o n:=by
 intro n
 induction n with
 |zero=>intro mo nest ts x _ h;simp [P] at h
 |succ n ih =>
  intro mo nest ts x hn h hb S i c t hS ho hg hr
  cases mo with
  |two lv=>exact CI hl ih hn hS ho hg hr h
  |loop l lv e=>exact Bt hl ih hn hS ho hg hr h
  |whole=>exact NR hl ih hn hS ho hg hr h
  |sign1=>exact Nn hl ih hn hS ho hg hr h
  |part=>exact Bs hl ih hn hS ho hg hr h
  |partL e=>exact NY hl ih hn hS ho hg hr h
  |word=>exact Fo hl ih hn hS ho hg hr h
  |inside last=>exact MJ hl ih hn hS ho hg hr hb h
#print axioms Ey
end Go.Abs
namespace Go.Abs
open Go Go.Proofs Go.IntWalk Go.Abs.X
theorem UW:∀(n:Nat) (r:B) (i c:Nat),c≤512→(toks n r i c).length≤513 - c
 | 0,_,_,_,_=>by simp [toks]
 |n+1,r,i,c,hc=>by
  unfold toks
  dsimp only
  split
  ·simp;omega
  ·split
   ·simp;omega
   ·split
    ·simp;omega
    ·rename_i h
     have:=UW n (by assumption) (by assumption) (c+1) (by omega)
     simp only [List.length_cons];omega
def Yk (s:B):Option (Except F Ex):=DA 11000 (QJ s)
abbrev EB (x:Int):zh:=.box 25 [.int .i64 x]
abbrev NB (x:Int):zh:=.box 3 [.int .i64 x]
theorem ES (code:Int) (p:Nat):XJ Tryz.prog BinOp.neq 20 true (jo code p) .nili=some (.bool true):=by
 kernel_rfl
theorem EK (z:AV) (code:Int) (p:Nat):JP z (jo code p) 43 true=some (.tup [.agg [.int .i64 code,.int .i64 (p:Int)],.bool true]):=rfl
theorem VC (S:St) (q:AV):ldA Tryz.prog S 3 q=zf S q 1 false:=by
 have h1:Ji Tryz.prog 3=some false:=by kernel_rfl
 have h2:qv Tryz.prog 3=some 1:=by kernel_rfl
 unfold ldA zf
 rw [h1,h2];rfl
theorem DC (S:St) (q:AV):ldA Tryz.prog S 25 q=zf S q 1 false:=by
 have h1:Ji Tryz.prog 25=some false:=by kernel_rfl
 have h2:qv Tryz.prog 25=some 1:=by kernel_rfl
 unfold ldA zf
 rw [h1,h2];rfl
theorem DB {S:St} (hS:Cl S) {L:Nat} {old:List AV} (ho:old.length=4) {x y:Int} (h0:S.get L=some (XB old)) (h1:S.get (L+2)=some (NB x)) (h2:S.get (L+3)=some (EB y)) (code:Int) (p:Nat) :
  zY Tryz.prog zz cw (qq Tryz.prog zz) 16 [.bp L 0,.bp (L+2) 0,.bp (L+3) 0] S (.pan (jo code p))=some (.ret (.tup []),((S.put L (XB ex0)).put (L+2) (NB p)).put (L+3) (EB code),.recd (jo code p)):=by
 have key:=fun R=>@HO (.bp L 0) (.bp (L+2) 0) (.bp (L+3) 0) S (jo code p) R
 have l0:=St.get_lt h0
 have l1:=St.get_lt h1
 have l2:=St.get_lt h2
 simp only [ES,EK,bind_some,zp,cond_true,zK,List.getElem?_cons_zero,List.getElem?_cons_succ,Bool.not_true,cond_false,show zq 2 (.agg [.int .i64 code,.int .i64 (p:Int)])=some [.int .i64 code,.int .i64 (p:Int)] from rfl] at key
 have e1:zl (zh.box 43 [.int .i64 0,.int .i64 0]::S) (.bp S.length 0) [.int .i64 code,.int .i64 (p:Int)]=some (zh.box 43 [.int .i64 code,.int .i64 (p:Int)]::S):=by
  rw [zM (qz rfl) rfl,St.put_top]
 simp only [e1,bind_some] at key
 generalize hS1:(zh.box 43 [.int .i64 code,.int .i64 (p:Int)]::S:St)=S1 at key
 have g1:St.get S1 S.length=some (.box 43 [.int .i64 code,.int .i64 (p:Int)]):=by rw [←hS1];exact qz rfl
 have m0:St.get S1 L=some (XB old):=by rw [←hS1];exact zG h0
 have m1:St.get S1 (L+2)=some (NB x):=by rw [←hS1];exact zG h1
 have m2:St.get S1 (L+3)=some (EB y):=by rw [←hS1];exact zG h2
 simp only [zn g1,show ∀a b:AV,zj [a,b] 1 1 false=some b from fun _ _=>rfl,show ∀a b:AV,zj [a,b] 0 1 false=some a from fun _ _=>rfl,bind_some,zk,show zq 4 (.agg [.int .i64 0,.int .i64 0,.str [],.nils])=some ex0 from rfl] at key
 have w0:zl S1 (.bp L 0) ex0=some (St.put S1 L (XB ex0)):=zM m0 (Wp _ _ (by rw [ho];rfl))
 simp only [w0,bind_some] at key
 generalize hS2:St.put S1 L (XB ex0)=S2 at key
 have g2:St.get S2 S.length=some (.box 43 [.int .i64 code,.int .i64 (p:Int)]):=by rw [←hS2];exact zD g1 (by omega)
 have m1':St.get S2 (L+2)=some (NB x):=by rw [←hS2];exact zD m1 (by omega)
 have m2':St.get S2 (L+3)=some (EB y):=by rw [←hS2];exact zD m2 (by omega)
 have w1:zl S2 (.bp (L+2) 0) [.int .i64 (p:Int)]=some (St.put S2 (L+2) (NB p)):=zM m1' rfl
 simp only [w1,bind_some] at key
 generalize hS3:St.put S2 (L+2) (NB p)=S3 at key
 have g3:St.get S3 S.length=some (.box 43 [.int .i64 code,.int .i64 (p:Int)]):=by rw [←hS3];exact zD g2 (by omega)
 have m2'':St.get S3 (L+3)=some (EB y):=by rw [←hS3];exact zD m2' (by omega)
 have w2:zl S3 (.bp (L+3) 0) [.int .i64 code]=some (St.put S3 (L+3) (EB code)):=zM m2'' rfl
 simp only [w2,bind_some] at key
 generalize hS4:St.put S3 (L+3) (EB code)=S4 at key
 have g4:St.get S4 S.length=some (.box 43 [.int .i64 code,.int .i64 (p:Int)]):=by rw [←hS4];exact zD g3 (by omega)
 have hfin:ze false S.length (.ret (.tup [])) S4=some (.ret (.tup []),((S.put L (XB ex0)).put (L+2) (NB p)).put (L+3) (EB code)):=by
  have hu:=(((Up.refl S).push (zh.box 43 [.int .i64 code,.int .i64 (p:Int)])).putLow (o:=L) (by omega) (XB ex0))
  have hu:=hu.putLow (o:=L+2) (by simp;omega) (NB p)
  have hu:=hu.putLow (o:=L+3) (by simp;omega) (EB code)
  have hc:Cl (((S.put L (XB ex0)).put (L+2) (NB p)).put (L+3) (EB code)):=qL (qL (qL hS rfl) rfl) rfl
  rw [←hS4,←hS3,←hS2,←hS1]
  have:=zU (v:=.tup []) hu hc rfl rfl
  simpa using this
 refine key _ ?_
 simp [YP,rkA,List.range.loop,VC,DC,zn g1,zn g2,zn g3,AV.beq_refl,hfin,show ∀a b:AV,zj [a,b] 1 1 false=some b from fun _ _=>rfl,show ∀a b:AV,zj [a,b] 0 1 false=some a from fun _ _=>rfl]
theorem Iw:Option.map (fun b=>AV.bool !b) (eqA Tryz.prog 10000 20 .nili .nili)=some (.bool false):=by kernel_rfl
theorem Dp {S:St} (a b c:AV):zY Tryz.prog zz cw (qq Tryz.prog zz) 16 [a,b,c] S .ret=some (.ret (.tup []),S,.ret):=by
 have key:=fun R=>@HE a b c S R
 simp only [Iw,bind_some,zp,cond_false,zx,map_some] at key
 exact key _ rfl
theorem zbg:Tryz.f5.results.toList=[.cell 2 24,.cell 3 3,.cell 4 25]:=by kernel_rfl
theorem Gz {st S:St} (hst:Cl st) (hu:Up st S) {env:Env} (e2:Env.get env 2=some (.bp st.length 0)) (e3:Env.get env 3=some (.bp (st.length+2) 0)) (e4:Env.get env 4=some (.bp (st.length+3) 0))
  {cs:List AV} {e:Ex} (he:ExR e cs) {x y:Int} (h0:S.get st.length=some (XB cs)) (h1:S.get (st.length+2)=some (NB x)) (h2:S.get (st.length+3)=some (EB y))
  {callD:FuncId→List AV→St→zo→Option (zd×St×zo)} :
  ((zW Tryz.prog callD Tryz.f5 env [] .ret S).bind fun o=>ze false st.length o.1 o.2)=some (.ret (.tup [.agg cs,.int .i64 x,.int .i64 y]),st):=by
 have hr:qF Tryz.prog env S Tryz.f5.results.toList=some [.agg cs,.int .i64 x,.int .i64 y]:=by
  rw [zbg]
  simp only [qF,e2,e3,e4,bind_some,Jz,VC,DC,zn h0,zn h1,zn h2,he.row,map_some]
  rfl
 rw [Kt hr,bind_some]
 have hev:EV (.agg cs) e:=⟨cs,rfl,he⟩
 refine zU hu hst ?_ ?_
 ·have:=hev.stripR st.length
  simp only [AV.stripR,AV.agg.injEq] at this
  simp only [qG,AV.stripR,List.map_cons,List.map_nil,this]
  rfl
 ·simp only [qG,AV.closed,AV.closeds,he.closeds,Bool.and_self]
theorem Hn:ExR Ex.zero ex0:=ExR.leaf 0 0 []
theorem Ws {st S:St} (hst:Cl st) (hS:Cl S) (hu:Up st S) {env:Env} (e2:Env.get env 2=some (.bp st.length 0)) (e3:Env.get env 3=some (.bp (st.length+2) 0)) (e4:Env.get env 4=some (.bp (st.length+3) 0))
  {old:List AV} (ho:old.length=4) {x y:Int} (h0:S.get st.length=some (XB old)) (h1:S.get (st.length+2)=some (NB x)) (h2:S.get (st.length+3)=some (EB y)) (code:Int) (p:Nat) :
  ((zW Tryz.prog (zY Tryz.prog zz cw (qq Tryz.prog zz)) Tryz.f5 env [(16,[]++[.bp st.length 0,.bp (st.length+2) 0,.bp (st.length+3) 0])] (.pan (jo code p)) S).bind fun o=>ze false st.length o.1 o.2)=some (.ret (.tup [.agg ex0,.int .i64 p,.int .i64 code]),st):=by
 rw [List.nil_append,WJ (DB hS ho h0 h1 h2 code p)]
 have l0:=St.get_lt h0
 have l1:=St.get_lt h1
 have l2:=St.get_lt h2
 refine Gz hst ?_ e2 e3 e4 Hn (zD (zD (St.get_put_same l0) (by omega)) (by omega)) (zD (St.get_put_same (by simpa using l1)) (by omega)) (St.get_put_same (by simpa using l2))
 exact ((hu.put (by omega) _).put (by omega) _).put (by omega) _
theorem Ft {st S:St} (hst:Cl st) (hu:Up st S) {env:Env} (e2:Env.get env 2=some (.bp st.length 0)) (e3:Env.get env 3=some (.bp (st.length+2) 0)) (e4:Env.get env 4=some (.bp (st.length+3) 0))
  {cs:List AV} {e:Ex} (he:ExR e cs) {x y:Int} (h0:S.get st.length=some (XB cs)) (h1:S.get (st.length+2)=some (NB x)) (h2:S.get (st.length+3)=some (EB y)) :
  ((zW Tryz.prog (zY Tryz.prog zz cw (qq Tryz.prog zz)) Tryz.f5 env [(16,[]++[.bp st.length 0,.bp (st.length+2) 0,.bp (st.length+3) 0])] .ret S).bind fun o=>ze false st.length o.1 o.2)=some (.ret (.tup [.agg cs,.int .i64 x,.int .i64 y]),st):=by
 rw [List.nil_append,WJ (Dp _ _ _)]
 exact Gz hst hu e2 e3 e4 he h0 h1 h2
def BV (x:Except F Ex) (st:St) (R:Option (zd×St)):Prop:=match x with
 | .ok e=>∃cs,ExR e cs∧R=some (.ret (.tup [.agg cs,.int .i64 0,.int .i64 0]),st)
 | .error (c,p)=>R=some (.ret (.tup [.agg ex0,.int .i64 (p:Int),.int .i64 c]),st)
theorem My {st:St} (hst:Cl st) {s:B} (hl:s.length<800000000):∃x,Yk s=some x∧BV x st (cw 5 [.str s] st):=by
 have key:=fun R=>@F5 s st R
 simp only [List.length_cons,Nat.add_assoc,Nat.reduceAdd,show zq 7 (.agg [.str s,.int .i64 0,.int .i64 0,.int .i64 0,.str [],.int .i64 0,.int .i64 0])=some (rd s (0:Nat) (0:Nat) 0 [] 0 0) from rfl,bind_some] at key
 generalize hB:(zh.box 25 [.int .i64 0]::zh.box 3 [.int .i64 0]::zh.free 0::zh.box 24 [.int .i64 0,.int .i64 0,.str [],.nils]::st:St)=B0 at key
 have hBl:B0.length=st.length+4:=by rw [←hB];simp
 have b0:St.get B0 st.length=some (XB ex0):=by rw [←hB];exact zG (zG (zG (qz rfl)))
 have b1:St.get B0 (st.length+2)=some (NB 0):=by rw [←hB];exact zG (qz rfl)
 have b2:St.get B0 (st.length+3)=some (EB 0):=by rw [←hB];exact qz rfl
 have bc:Cl B0:=by rw [←hB];exact (((hst.cons rfl).cons rfl).cons rfl).cons rfl
 have bu:Up st B0:=by rw [←hB];exact (((Up.refl st).push _).push _).push _ |>.push _
 generalize hS0:(zh.box 49 (rd s (0:Nat) (0:Nat) 0 [] 0 0)::B0:St)=S0 at key
 have g0:St.get S0 (st.length+4)=some (RB (rd s (0:Nat) (0:Nat) 0 [] 0 0)):=by rw [←hS0];exact qz hBl.symm
 have hA0:Up B0 S0:=by rw [←hS0];exact (Up.refl _).push _
 have c0:Cl S0:=by rw [←hS0];exact bc.cons rfl
 have lo:st.length+4<S0.length:=by rw [←hS0];simp;omega
 have up:∀{y:zh},Up st (St.put S0 (st.length+4) y):=fun {y}=>(bu.trans hA0).put (by omega) y
 have k0:∀{y:zh},St.get (St.put S0 (st.length+4) y) st.length=some (XB ex0):=zD (hA0.get b0) (by omega)
 have k1:∀{y:zh},St.get (St.put S0 (st.length+4) y) (st.length+2)=some (NB 0):=zD (hA0.get b1) (by omega)
 have k2:∀{y:zh},St.get (St.put S0 (st.length+4) y) (st.length+3)=some (EB 0):=zD (hA0.get b2) (by omega)
 rcases Et c0 lo hl (cnt:=0) (i:=0) (by omega) g0 (by omega) s.length (by simp) with ⟨er,p,y,i',c',k,ts',nn,a,h1,h2⟩ | ⟨t,j,c',h0,h1,h2,h3,h4⟩
 ·refine ⟨.error (er,p),?_,?_⟩
  ·unfold Yk QJ
   rw [List.drop_zero] at h1
   rw [h1];rfl
  ·rw [h2,zF] at key
   exact key _ (Ws hst (qL c0 rfl) up rfl rfl rfl rfl k0 k1 k2 er p)
 ·rw [h1,zi] at key
  have hr:Jv s j c' t (QJ s):=by
   rw [List.drop_zero] at h4
   rcases h4 with ⟨h5,h6⟩ | ⟨h5,h6,h7⟩
   ·exact ⟨h0,h2,h3,.inl ⟨h5,h6⟩⟩
   ·refine ⟨h0,h2,h3,.inr ⟨h5,s.length - 1,?_,?_⟩⟩
    ·rw [show s.length - 1+1=s.length by omega];exact h6
    ·omega
  obtain ⟨r,hrc⟩:=hr.cons
  have few0:(QJ s).length≤513:=by unfold QJ;exact UW _ _ _ 0 (by omega)
  obtain ⟨x,hx,_⟩:=zav 11000 .whole 1 (QJ s) trivial (by simp only [Zq];omega)
  have hpx:Yk s=(match P 11000 .whole 1 (QJ s) with
   |some (.ok (e,ts))=>if XE ts then some (.ok e) else some (.error (1000,atT ts))
   |some (.error f)=>some (.error f)
   |none=>none):=by
   unfold Yk DA
   rw [hrc]
   obtain ⟨k,a⟩:=t
   cases k with
   |bad e p=>exact absurd rfl (hr.nb e p)
   |_=>rfl
  rw [hx] at hpx
  have hgt:St.get (St.put S0 (st.length+4) (RB (rdT s j c' t))) (st.length+4)=some (RB (rdT s j c' t)):=St.get_put_same lo
  have hw:=Ey hl (o:=st.length+4) 11000 .whole 1 (QJ s) x (by omega) hx trivial (St.put S0 (st.length+4) (RB (rdT s j c' t))) j c' t (qL c0 rfl) (by simpa using lo) hgt hr
  simp only [Gm] at hw
  cases x with
  |error f =>
   obtain ⟨er,p⟩:=f
   obtain ⟨y,hy,hw⟩:=hw
   rw [St.put_put] at hw
   refine ⟨.error (er,p),hpx,?_⟩
   have hw':cw 18 [.bp (st.length+4) 0,.int .i64 1] _=_:=hw
   rw [hw',zF] at key
   obtain ⟨_,_,_,_,_,_,_,rfl⟩:=hy
   exact key _ (Ws hst (qL c0 rfl) up rfl rfl rfl rfl k0 k1 k2 er p)
  |ok q =>
   obtain ⟨e,ts⟩:=q
   obtain ⟨i1,c1,t1,v,hr1,⟨cs,rfl,he⟩,hw⟩:=hw
   rw [St.put_put] at hw
   have hw':cw 18 [.bp (st.length+4) 0,.int .i64 1] _=_:=hw
   rw [hw',zi,he.cells,bind_some] at key
   have w0:∀{y:zh},zl (St.put S0 (st.length+4) y) (.bp st.length 0) cs=_:=fun {y}=>zM (k0 (y:=y)) (he.set rfl)
   rw [w0,bind_some] at key
   have l0:∀{y:zh},st.length<(St.put S0 (st.length+4) y).length:=by simp;omega
   generalize hS3:St.put (St.put S0 (st.length+4) (RB (rdT s i1 c1 t1))) st.length (XB cs)=S3 at key
   have m0:St.get S3 st.length=some (XB cs):=by rw [←hS3];exact St.get_put_same l0
   have m1:St.get S3 (st.length+2)=some (NB 0):=by rw [←hS3];exact zD k1 (by omega)
   have m2:St.get S3 (st.length+3)=some (EB 0):=by rw [←hS3];exact zD k2 (by omega)
   have m3:St.get S3 (st.length+4)=some (RB (rdT s i1 c1 t1)):=by rw [←hS3];exact zD (St.get_put_same lo) (by omega)
   have mu:Up st S3:=by rw [←hS3];exact up.put (Nat.le_refl _) _
   have mc:Cl S3:=by rw [←hS3];exact qL (qL c0 rfl) (he.closeds _)
   simp only [zn m3,show zj (rdT s i1 c1 t1) 3 1 false=some (.int .i64 (knT t1.k)) from rfl,bind_some,zk,CY hr1] at key
   cases hfin:XE ts with
   |false =>
    rw [hfin] at key
    simp only [hfin,Bool.false_eq_true,if_false] at hpx
    refine ⟨.error (1000,atT ts),hpx,?_⟩
    simp only [Bool.not_false,cond_true,Wb m3 hr1,zF] at key
    exact key _ (Ws hst mc mu rfl rfl rfl he.len m0 m1 m2 _ _)
   |true =>
    rw [hfin] at key
    simp only [hfin,if_true] at hpx
    refine ⟨.ok e,hpx,cs,he,?_⟩
    have w1:zl S3 (.bp st.length 0) cs=some (S3.put st.length (XB cs)):=zM m0 (he.set he.len)
    simp only [Bool.not_true,cond_false,zn m0,he.row,he.cells,bind_some,w1] at key
    rw [St.put_same m0] at key
    have w2:zl S3 (.bp (st.length+2) 0) [.int .i64 0]=some (St.put S3 (st.length+2) (NB 0)):=zM m1 rfl
    rw [w2,bind_some,St.put_same m1] at key
    have w3:zl S3 (.bp (st.length+3) 0) [.int .i64 0]=some (St.put S3 (st.length+3) (EB 0)):=zM m2 rfl
    rw [w3,bind_some,St.put_same m2] at key
    exact key _ (Ft hst mu rfl rfl rfl he m0 m1 m2)
end Go.Abs
namespace Go.Abs
open Go Go.Proofs Go.IntWalk Go.Abs.X
abbrev WB (a v:AV):zh:=.box 70 [a,v]
def WS (S0:St) (q:Nat) (a v:AV) (y:zh):St:=(S0.put q (WB a v)).put (q+1) y
def Wv (q:Nat) (b:B) (v:AV) (y:zh):Prop:=(b=[]∧v = .nils∧∃e,y = .free e)∨(b≠[]∧∃ep,v = .sl 0 (qb b) 0 b.length (.spare (q+1) ep)∧y = .spare ep b.length)
def Wa (q:Nat) (a:AV):Prop:=a = .nilp∨a = .bp q 0
structure Wr (S0:St) (q:Nat) (b:B) (S:St):Prop where
 ex:∃a v y,S=WS S0 q a v y∧Wa q a∧Wv q b v y
section
variable {S0:St} {q:Nat} (hq:q+1<S0.length)
include hq
theorem WS.len (a v:AV) (y:zh):(WS S0 q a v y).length=S0.length:=by simp [WS]
theorem WS.get_q (a v:AV) (y:zh):(WS S0 q a v y).get q=some (WB a v):=by
 unfold WS;rw [St.get_put_other (by omega),St.get_put_same (by omega)]
theorem WS.get_h (a v:AV) (y:zh):(WS S0 q a v y).get (q+1)=some y:=by
 unfold WS;rw [St.get_put_same (by simpa using hq)]
theorem WS.put_q (a v a' v':AV) (y:zh):(WS S0 q a v y).put q (WB a' v')=WS S0 q a' v' y:=by
 unfold WS;rw [St.put_comm (by omega),St.put_put]
theorem WS.put_h (a v:AV) (y y':zh):(WS S0 q a v y).put (q+1) y'=WS S0 q a v y':=by
 unfold WS;rw [St.put_put]
theorem WS.out (a v a' v':AV) (y y':zh) (r:zd):ze false (WS S0 q a v y).length r (WS S0 q a' v' y')=some (r,WS S0 q a' v' y'):=by
 rw [WS.len hq,←WS.len hq a' v' y'];exact zx _ _
theorem eqP (a:AV) (ha:Wa q a):XJ Tryz.prog .eql 65 true a .nilp=some (.bool (match a with | .nilp=>true | _=>false)):=by
 rcases ha with rfl | rfl
 ·kernel_rfl
 ·kernel_rfl
theorem zbI:XJ Tryz.prog .neq 65 false (.bp q 0) (.bp q 0)=some (.bool false):=by
 have h1:Tryz.prog.underlying 65=some (.pointer 68):=by kernel_rfl
 have h2:qv Tryz.prog 68=some 2:=by kernel_rfl
 simp [XJ,Ww,eqA,h1,h2]
theorem VZ (a v:AV) (y:zh) (ha:Wa q a):cw 87 [.bp q 0] (WS S0 q a v y)=some (.ret (.tup []),WS S0 q (.bp q 0) v y):=by
 have g:=WS.get_q hq a v y
 have key:=fun R=>@F87 (.bp q 0) (WS S0 q a v y) R
 simp only [zu,zE,bind_some,Nat.zero_add,zn g,show zj [a,v] 0 1 false=some a from rfl] at key
 rcases ha with rfl | rfl
 ·simp only [eqP hq .nilp (.inl rfl),bind_some,zp,cond_true] at key
  have c1:JS Tryz.prog (WS S0 q .nilp v y) none 65 131 (.bp q 0)=some (.bp q 0,WS S0 q .nilp v y):=by
   have h1:Tryz.prog.underlying 65=some (.pointer 68):=by kernel_rfl
   have h2:Tryz.prog.underlying 131=some .unsafePointer:=by kernel_rfl
   have h3:qv Tryz.prog 68=some 2:=by kernel_rfl
   simp [JS,h1,h2,h3,g]
  have c2:JS Tryz.prog (WS S0 q .nilp v y) none 131 65 (.bp q 0)=some (.bp q 0,WS S0 q .nilp v y):=by
   have h1:Tryz.prog.underlying 65=some (.pointer 68):=by kernel_rfl
   have h2:Tryz.prog.underlying 131=some .unsafePointer:=by kernel_rfl
   have h3:qv Tryz.prog 68=some 2:=by kernel_rfl
   have h4:liesAt Tryz.prog Tryz.prog.depth 70 (2 / Tryz.prog.cellsOf 70) 0 68 1=true:=by kernel_rfl
   simp [JS,h1,h2,h3,g,h4]
  simp only [c1,c2,zX,JA,bind_some,cell1] at key
  have hw:zl (WS S0 q .nilp v y) (.bp q 0) [.bp q 0]=some (WS S0 q (.bp q 0) v y):=by
   rw [zM g rfl,WS.put_q hq]
  simp only [hw,bind_some,WS.out hq] at key
  exact key _ rfl
 ·simp only [eqP hq (.bp q 0) (.inr rfl),bind_some,zp,cond_false,zbI hq,zx] at key
  exact key _ rfl
theorem Nq {a v:AV} {y:zh} {b new:B} {x:AV} (h:Wv q b v y) (hx:rowsOf (WS S0 q a v y) 0 x=some (qb new)) (hl:b.length+new.length<1000000000) :
  ∃v' y',zR (WS S0 q a v y) (some (q+1,false)) 1 0 v x=some (v',WS S0 q a v y')∧Wv q (b++new) v' y':=by
 have g:=WS.get_h hq a v y
 unfold zR
 rw [hx]
 simp only [bind_some]
 by_cases hn:new=[]
 ·subst hn
  rcases h with ⟨rfl,rfl,e,rfl⟩ | ⟨hb,ep,rfl,rfl⟩
  ·exact ⟨.nils,_,by simp [qb],.inl ⟨rfl,rfl,e,rfl⟩⟩
  ·refine ⟨_,.spare ep b.length,?_,.inr ⟨by simpa using hb,ep,by rw [List.append_nil],by rw [List.append_nil]⟩⟩
   simp [ZX,qe,g,show qb ([]:B)=[] from rfl]
   omega
 ·have hn':¬new.length=0:=by simpa using hn
  rcases h with ⟨rfl,rfl,e,rfl⟩ | ⟨hb,ep,rfl,rfl⟩
  ·refine ⟨.sl 0 (qb new) 0 new.length (.spare (q+1) (e+1)),.spare (e+1) new.length,?_,.inr ⟨by simpa using hn,e+1,rfl,rfl⟩⟩
   simp only [ZX,if_neg hn']
   rw [if_pos (by simp only [List.length_nil] at hl;simp only [qe];omega)]
   simp [jm,g,WS.put_h hq,ZX]
  ·refine ⟨.sl 0 (qb (b++new)) 0 (b++new).length (.spare (q+1) ep),.spare ep (b++new).length,?_,.inr ⟨by simp [hb],ep,rfl,rfl⟩⟩
   simp [ZX,Xu,qe,g,hn,WS.put_h hq,List.length_append]
   omega
theorem Zy {b:B} {S:St} (h:Wr S0 q b S) (hl:b.length<900000000) (c:UInt8):∃S',Wr S0 q (b++[c]) S'∧cw 56 [.bp q 0,.int .u8 (c.toNat:Int)] S=some (.ret .nili,S'):=by
 obtain ⟨a,v,y,rfl,ha,hv⟩:=h.ex
 have g:=WS.get_q hq (.bp q 0) v y
 have hx:rowsOf (WS S0 q (.bp q 0) v y) 0 (.sl 0 [[.int .u8 (c.toNat:Int)]] 0 1 .exact)=some (qb [c]):=rfl
 obtain ⟨v',y',h1,h2⟩:=Nq hq (a:=.bp q 0) hv hx (by simp;omega)
 have hw:zl (WS S0 q (.bp q 0) v y') (.bp q 1) [v']=some (WS S0 q (.bp q 0) v' y'):=by
  rw [zM (WS.get_q hq (.bp q 0) v y') rfl,WS.put_q hq]
 have hh:YW (fun t c=>((List.find? (fun x=>x.fst==t) ZQ).bind fun x=>List.findIdx?.go (fun x=>x==c) x.snd 0).getD 0) false (WS S0 q (.bp q 0) v y) (.bp q 1)=some (q+1,false):=by
  simp only [YW,g];rfl
 have hc1:cell1 v'=some v':=by rcases h2 with ⟨_,rfl,_⟩ | ⟨_,ep,rfl,_⟩<;>rfl
 refine ⟨WS S0 q (.bp q 0) v' y',⟨_,_,_,rfl,.inr rfl,h2⟩,?_⟩
 have key:=fun R=>@F56 (.bp q 0) (c.toNat:Int) (WS S0 q a v y) R
 simp only [VZ hq a v y ha,zi,zu,zE,bind_some,Nat.zero_add,zn g,show zj [AV.bp q 0,v] 1 1 false=some v from rfl,hh,h1,zX,hc1,hw,WS.out hq] at key
 exact key _ rfl
theorem QI {b:B} {S:St} (h:Wr S0 q b S) (s:B) (hl:b.length+s.length<1000000000):∃S',Wr S0 q (b++s) S'∧cw 57 [.bp q 0,.str s] S=some (.ret (.tup [.int .i64 (s.length:Int),.nili]),S'):=by
 obtain ⟨a,v,y,rfl,ha,hv⟩:=h.ex
 have g:=WS.get_q hq (.bp q 0) v y
 have hx:rowsOf (WS S0 q (.bp q 0) v y) 0 (.str s)=some (qb s):=rfl
 obtain ⟨v',y',h1,h2⟩:=Nq hq (a:=.bp q 0) hv hx hl
 have hw:zl (WS S0 q (.bp q 0) v y') (.bp q 1) [v']=some (WS S0 q (.bp q 0) v' y'):=by
  rw [zM (WS.get_q hq (.bp q 0) v y') rfl,WS.put_q hq]
 have hh:YW (fun t c=>((List.find? (fun x=>x.fst==t) ZQ).bind fun x=>List.findIdx?.go (fun x=>x==c) x.snd 0).getD 0) false (WS S0 q (.bp q 0) v y) (.bp q 1)=some (q+1,false):=by
  simp only [YW,g];rfl
 have hc1:cell1 v'=some v':=by rcases h2 with ⟨_,rfl,_⟩ | ⟨_,ep,rfl,_⟩<;>rfl
 refine ⟨WS S0 q (.bp q 0) v' y',⟨_,_,_,rfl,.inr rfl,h2⟩,?_⟩
 have key:=fun R=>@F57 (.bp q 0) s (WS S0 q a v y) R
 simp only [VZ hq a v y ha,zi,zu,zE,bind_some,Nat.zero_add,zn g,show zj [AV.bp q 0,v] 1 1 false=some v from rfl,hh,h1,zX,hc1,hw,WS.out hq] at key
 exact key _ rfl
omit hq in
theorem KZ (b:B):qj (qb b)=some b:=by
 induction b with
 |nil=>rfl
 |cons c b ih=>simp [qb,byt,qj] at ih ⊢;exact ih
theorem FW {b:B} {S:St} (h:Wr S0 q b S) (hl:b.length<1000000000):cw 29 [.bp q 0] S=some (.ret (.str b),S):=by
 obtain ⟨a,v,y,rfl,ha,hv⟩:=h.ex
 have g:=WS.get_q hq a v y
 have g2:=WS.get_h hq a v y
 have key:=fun R=>@F29 (.bp q 0) (WS S0 q a v y) R
 simp only [zu,zE,bind_some,Nat.zero_add,zn g,show zj [a,v] 1 1 false=some v from rfl] at key
 rcases hv with ⟨rfl,rfl,e,rfl⟩ | ⟨hb,ep,rfl,rfl⟩
 ·have h1:qE Tryz.prog (some 100) .nilp 0=some (.str []):=by kernel_rfl
  simp only [jS,bind_some,zL,zk] at key
  have h1':qE Tryz.prog (some 100) .nilp (0:Nat)=some (.str []):=h1
  simp only [h1,h1',bind_some,zr,zx] at key
  exact key _ rfl
 ·have hb':0<b.length:=List.length_pos_iff.2 hb
  have hbp:VE Tryz.prog (some 100)=true:=by kernel_rfl
  have h0:jS (WS S0 q a (.sl 0 (qb b) 0 b.length (.spare (q+1) ep)) (.spare ep b.length)) (.sl 0 (qb b) 0 b.length (.spare (q+1) ep))=some (.dp (qb b) 0):=by
   simp only [jS,g2]
   rw [if_pos (by simp [ZX,hb'])]
  have h1:qE Tryz.prog (some 100) (.dp (qb b) 0) (b.length:Int)=some (.str b):=by
   simp only [qE]
   rw [if_pos ⟨by omega,by omega,by simp [ZX],hbp⟩,List.drop_zero,Int.toNat_natCast,List.take_of_length_le (by simp [ZX]),KZ];rfl
  simp only [h0,bind_some,zL,zk,h1,zr,zx] at key
  exact key _ rfl
theorem Hf {b:B} {S:St} (h:Wr S0 q b S) (hl:b.length<900000000) (c:UInt8):∃S',Wr S0 q (b++[c]) S'∧zY Tryz.prog zz cw (qq Tryz.prog zz) 56 [.bp q 0,.int .u8 (c.toNat:Int)] S .ret=some (.ret .nili,S',.ret):=by
 obtain ⟨a,v,y,rfl,ha,hv⟩:=h.ex
 have g:=WS.get_q hq (.bp q 0) v y
 have hx:rowsOf (WS S0 q (.bp q 0) v y) 0 (.sl 0 [[.int .u8 (c.toNat:Int)]] 0 1 .exact)=some (qb [c]):=rfl
 obtain ⟨v',y',h1,h2⟩:=Nq hq (a:=.bp q 0) hv hx (by simp;omega)
 have hw:zl (WS S0 q (.bp q 0) v y') (.bp q 1) [v']=some (WS S0 q (.bp q 0) v' y'):=by
  rw [zM (WS.get_q hq (.bp q 0) v y') rfl,WS.put_q hq]
 have hh:YW (fun t c=>((List.find? (fun x=>x.fst==t) ZQ).bind fun x=>List.findIdx?.go (fun x=>x==c) x.snd 0).getD 0) false (WS S0 q (.bp q 0) v y) (.bp q 1)=some (q+1,false):=by
  simp only [YW,g];rfl
 have hc1:cell1 v'=some v':=by rcases h2 with ⟨_,rfl,_⟩ | ⟨_,ep,rfl,_⟩<;>rfl
 refine ⟨WS S0 q (.bp q 0) v' y',⟨_,_,_,rfl,.inr rfl,h2⟩,?_⟩
 have key:=fun R=>@HI (.bp q 0) (.int .u8 (c.toNat:Int)) (WS S0 q a v y) R
 simp only [VZ hq a v y ha,zi,zu,zE,bind_some,Nat.zero_add,zn g,show zj [AV.bp q 0,v] 1 1 false=some v from rfl,zk,hh,h1,zX,hc1,hw,WS.out hq,map_some] at key
 exact key _ rfl
def esc (c:UInt8):B:=if c.toNat=39∨c.toNat=92∨c.toNat=125 then [92,c] else if c.toNat=10 then [92,110] else [c]
omit hq in
theorem VA (c:UInt8):(esc c).length≤2:=by
 unfold esc;split
 ·simp
 ·split<;>simp
theorem MG (s:B) (base:Nat) (hbase:base=S0.length):∀(r:B) (i:Nat) (b:B) (S:St),s.drop i=r→i≤s.length→s.length<400000000→Wr S0 q b S→b.length+2*r.length<800000000 →
  ∃S',Wr S0 q (b++r.flatMap esc++[39]) S'∧aw 59 base XR ⟨[(0,.bp q 0),(1,.str s),(11,.int .i64 (s.length:Int)),(12,.int .i64 (i:Int))],[]⟩ S=some (.ret (.tup []),S'):=by
 intro r
 induction r with
 |nil =>
  intro i b S hd hi hs hw hl
  have hi':i=s.length:=by
   have:=congrArg List.length hd
   simp at this;omega
  subst hi'
  obtain ⟨S',h1,h2⟩:=Zy hq hw (by simpa using (by simp at hl;omega)) 39
  refine ⟨S',by simpa using h1,IZ _ _ _ _ _ _ ?_⟩
  have h2':cw 56 [.bp q 0,.int .u8 39] S=_:=h2
  have hlen:S'.length=base:=by obtain ⟨a,v,y,rfl,_,_⟩:=h1.ex;rw [WS.len hq,hbase]
  rw [decide_eq_false (by omega),cond_false]
  simp only [zu,zE,bind_some,Nat.zero_add,h2',zi]
  rw [←hlen];exact zx _ _
 |cons c r ih =>
  intro i b S hd hi hs hw hl
  obtain ⟨gb,hd2,hlt⟩:=qa hd
  have hl':b.length+2*(r.length+1)<800000000:=hl
  have key:=fun R=>@IZ (.bp q 0) s (s.length:Int) (i:Int) base S R
  rw [decide_eq_true (show (i:Int)<(s.length:Int) by omega)] at key
  simp only [cond_true,zO,bind_some,jH gb,zu,zE,Nat.zero_add,e1i (show i<1000000000000 by omega)] at key
  have fin:∀(S1:St),Wr S0 q (b++esc c) S1→∃S',Wr S0 q (b++(c::r).flatMap esc++[39]) S'∧aw 59 base XR ⟨[(0,.bp q 0),(1,.str s),(11,.int .i64 (s.length:Int)),(12,.int .i64 ((i+1:Nat):Int))],[]⟩ S1=some (.ret (.tup []),S'):=by
   intro S1 h1
   have:=VA c
   have:=ih (i+1) (b++esc c) S1 hd2 (by omega) hs h1 (by simp;omega)
   simpa [List.append_assoc] using this
  have two:(c.toNat=39∨c.toNat=92∨c.toNat=125)→∃S1,Wr S0 q (b++esc c) S1∧∃S2,cw 56 [.bp q 0,.int .u8 92] S=some (.ret .nili,S2)∧cw 56 [.bp q 0,.int .u8 (c.toNat:Int)] S2=some (.ret .nili,S1):=by
   intro hc
   obtain ⟨S2,g1,g2⟩:=Zy hq hw (by omega) 92
   obtain ⟨S1,g3,g4⟩:=Zy hq g1 (by simp;omega) c
   refine ⟨S1,?_,S2,g2,g4⟩
   unfold esc;rw [if_pos hc]
   simpa using g3
  by_cases h10:c.toNat=10
  ·obtain ⟨S1,g1,g2⟩:=QI hq hw [92,110] (by simp;omega)
   have g2':cw 57 [.bp q 0,.str [ofNat 92,ofNat 110]] S=_:=g2
   rw [show (((c.toNat:Int))==10)=true by rw [h10];rfl] at key
   simp only [cond_true,g2',zi] at key
   have he:esc c=[92,110]:=by unfold esc;rw [if_neg (by omega),if_pos h10]
   obtain ⟨S',k1,k2⟩:=fin S1 (by rw [he];exact g1)
   exact ⟨S',k1,key _ k2⟩
  ·rw [show (((c.toNat:Int))==10)=false by rw [beq_eq_false_iff_ne];omega] at key
   by_cases h39:c.toNat=39
   ·obtain ⟨S1,g1,S2,g2,g3⟩:=two (.inl h39)
    rw [show (((c.toNat:Int))==39)=true by rw [h39];rfl] at key
    simp only [cond_true,cond_false,g2,g3,zi] at key
    obtain ⟨S',k1,k2⟩:=fin S1 g1
    exact ⟨S',k1,key _ k2⟩
   ·rw [show (((c.toNat:Int))==39)=false by rw [beq_eq_false_iff_ne];omega] at key
    by_cases h92:c.toNat=92
    ·obtain ⟨S1,g1,S2,g2,g3⟩:=two (.inr (.inl h92))
     rw [show (((c.toNat:Int))==92)=true by rw [h92];rfl] at key
     simp only [cond_true,cond_false,g2,g3,zi] at key
     obtain ⟨S',k1,k2⟩:=fin S1 g1
     exact ⟨S',k1,key _ k2⟩
    ·rw [show (((c.toNat:Int))==92)=false by rw [beq_eq_false_iff_ne];omega] at key
     by_cases h125:c.toNat=125
     ·obtain ⟨S1,g1,S2,g2,g3⟩:=two (.inr (.inr h125))
      rw [show (((c.toNat:Int))==125)=true by rw [h125];rfl] at key
      simp only [cond_true,cond_false,g2,g3,zi] at key
      obtain ⟨S',k1,k2⟩:=fin S1 g1
      exact ⟨S',k1,key _ k2⟩
     ·rw [show (((c.toNat:Int))==125)=false by rw [beq_eq_false_iff_ne];omega] at key
      obtain ⟨S1,g1,g2⟩:=Zy hq hw (by omega) c
      simp only [cond_false,g2,zi] at key
      have he:esc c=[c]:=by unfold esc;rw [if_neg (by omega),if_neg h10]
      obtain ⟨S',k1,k2⟩:=fin S1 (by rw [he];exact g1)
      exact ⟨S',k1,key _ k2⟩
theorem FO {b:B} {S:St} (h:Wr S0 q b S) (s:B) (hs:s.length<10000) (hl:b.length<700000000):∃S',Wr S0 q (b++X.quoted s) S'∧cw 59 [.bp q 0,.str s] S=some (.ret (.tup []),S'):=by
 obtain ⟨S1,g1,g2⟩:=Zy hq h (by omega) 39
 have hlen:S.length=S0.length:=by obtain ⟨a,v,y,rfl,_,_⟩:=h.ex;rw [WS.len hq]
 obtain ⟨S',g3,g4⟩:=MG hq s S.length hlen s 0 (b++[39]) S1 rfl (by omega) (by omega) g1 (by simp;omega)
 refine ⟨S',by have e:X.quoted s=[39]++s.flatMap esc++[39]:=rfl;rw [e];simpa [List.append_assoc] using g3,F59 _ _ _ ?_⟩
 have g2':cw 56 [.bp q 0,.int .u8 39] S=_:=g2
 simp only [zu,zE,bind_some,Nat.zero_add,g2',zi]
 exact g4
end
end Go.Abs
namespace Go.Abs
open Go Go.Proofs Go.IntWalk Go.Abs.X
def We:AV→Nat→AV
 | .ip r k,i=>.ip r (k+i)
 | .bp o k,i=>.bp o (k+i)
 |v,_=>v
def Pt (S0:St) (q:Nat) (p:AV) (cs:List AV):Prop:=p = .ip cs 0∨∃t,p = .bp t 0∧S0.get t=some (XB cs)∧t≠q∧t≠q+1
section
variable {S0:St} {q:Nat} {p:AV} {cs:List AV} (hp:Pt S0 q p cs)
include hp
theorem Pt.nil:zb p=some p:=by rcases hp with rfl | ⟨t,rfl,_⟩<;>rfl
theorem Pt.add (i:Nat):zc i p=some (We p i):=by rcases hp with rfl | ⟨t,rfl,_⟩<;>rfl
theorem Pt.closed {n:Nat} (hc:AV.closeds n cs=true) (hn:S0.length≤n):AV.closed n p=true:=by
 rcases hp with rfl | ⟨t,rfl,h,_⟩
 ·simpa [AV.closed] using hc
 ·have:=St.get_lt h
  simp [AV.closed];omega
theorem Pt.rd {b:B} {S:St} (hw:Wr S0 q b S) (i n:Nat) (ag:Bool):zf S (We p i) n ag=zj cs i n ag:=by
 rcases hp with rfl | ⟨t,rfl,h,h1,h2⟩
 ·simp [We]
 ·obtain ⟨a,v,y,rfl,_,_⟩:=hw.ex
  have:(WS S0 q a v y).get t=some (XB cs):=zD (zD h h1) h2
  simp [We,zn this]
theorem Pt.rd1 {b:B} {S:St} (hw:Wr S0 q b S) (x:zh) (i n:Nat) (ag:Bool):zf (x::S) (We p i) n ag=zj cs i n ag:=by
 rcases hp with rfl | ⟨t,rfl,h,h1,h2⟩
 ·simp [We]
 ·obtain ⟨a,v,y,rfl,_,_⟩:=hw.ex
  have:(WS S0 q a v y).get t=some (XB cs):=zD (zD h h1) h2
  have h3:St.get (x::WS S0 q a v y) t=some (XB cs):=zG this
  simp [We,zn h3]
end
theorem Wr.len {S0 S:St} {q:Nat} {b:B} (hq:q+1<S0.length) (h:Wr S0 q b S):S.length=S0.length:=by obtain ⟨a,v,y,rfl,_,_⟩:=h.ex;exact WS.len hq _ _ _
theorem Wr.cl {S0 S:St} {q:Nat} {b:B} (hc:Cl S0) (hq:q+1<S0.length) (h:Wr S0 q b S):Cl S:=by
 obtain ⟨a,v,y,rfl,ha,hv⟩:=h.ex
 unfold WS
 refine qL (qL hc ?_) ?_
 ·have h1:AV.closed S0.length a=true:=by rcases ha with rfl | rfl<;>simp [AV.closed];omega
  have h2:AV.closed S0.length v=true:=by
   rcases hv with ⟨_,rfl,_⟩ | ⟨_,ep,rfl,_⟩
   ·rfl
   ·simp [AV.closed,WZ];omega
  simp [zh.closed,AV.closeds,h1,h2]
 ·rcases hv with ⟨_,_,e,rfl⟩ | ⟨_,ep,_,rfl⟩<;>rfl
def Ee (op:Int) (i:Nat) (l:List (B×Int)) (acc:Nat×B):Nat×B:=l.foldl (fun acc p=>if p.2=op then (i+1,p.1) else acc) acc
def zad (op:Int):List (List (B×Int))→Nat→Nat×B→Nat×B
 |[],_,acc=>acc
 |l::lv,i,acc=>zad op lv (i+1) (Ee op i l acc)
theorem LvR.atK {R:Type} {a:AV} {lv:List (List (B×Int))} (h:LvR a lv) {i:Nat} {l:List (B×Int)} (hi:lv[i]?=some l) (S:St) (K:AV→Option R):((zt S 1 a i).bind fun v=>(zf S v 1 false).bind K)=K (lvC l):=by
 have:(lvR lv)[i]?=some [lvC l]:=by simp [lvR,hi]
 rw [h.1.at this];rfl
def EJ (w e:AV) (least:Int) (acc:Nat×B) (a:AV) (n i:Nat):Env:=[(0,w),(1,e),(2,.int .i64 least),(6,.int .i64 (acc.1:Int)),(7,.str acc.2),(12,a),(13,.int .i64 (n:Int)),(14,.int .i64 (i:Int))]
section
variable {S0:St} {q:Nat} (hS0:Cl S0) (hq:q+1<S0.length) {p:AV} {cs:List AV} (hp:Pt S0 q p cs) (hcc:∀n,AV.closeds n cs=true) {op:Int} (hop:zj cs 0 1 false=some (.int .i64 op)) {b:B} {S:St} (hw:Wr S0 q b S) {a:AV} {lv0:List (List (B×Int))} (ha:LvR a lv0) (hn:lv0.length<1000) (hm:∀l ∈ lv0,l.length<1000) (least:Int) (r:zd×St)
include hS0 hq hp hcc hop hw ha hn hm
theorem HS (i:Nat) (hi:i<1000) (l:List (B×Int)) (hl:l.length<1000):∀(rest:List (B×Int)) (k:Nat) (acc:Nat×B),l.drop k=rest→k≤l.length →
  aw 28 S.length XH ⟨EJ (.bp q 0) p least (Ee op i rest acc) a lv0.length (i+1),[]⟩ S=some r →
  ∀i8:Int,i8=(i:Int) →
  aw 28 S.length (Mt S.length) ⟨[(0,.bp q 0),(1,p),(2,.int .i64 least),(6,.int .i64 (acc.1:Int)),(7,.str acc.2),(8,.int .i64 i8),(12,a),(13,.int .i64 (lv0.length:Int)),(14,.int .i64 (i:Int)),(19,lvC l),(20,.int .i64 (l.length:Int)),(21,.int .i64 (k:Int))],[]⟩ S=some r:=by
 intro rest
 induction rest with
 |nil =>
  intro k acc hk hkl h i8 h8
  have:=List.drop_eq_nil_iff.1 hk
  refine IN _ _ _ _ _ _ _ _ _ _ _ _ _ _ _ ?_
  rw [decide_eq_false (by omega),cond_false,e1i (by omega),QQ,bind_some]
  exact h
 |cons x rest ih =>
  intro k acc hk hkl h i8 h8
  have hk2:k<l.length:=by have:=congrArg List.length hk;simp at this;omega
  have hx:l[k]?=some x:=by
   have:(l.drop k)[0]?=some x:=by rw [hk];rfl
   rw [List.getElem?_drop] at this;simpa using this
  have hrest:l.drop (k+1)=rest:=by rw [←List.drop_drop,hk];rfl
  have hrow:zj (qV x) 0 2 true=some (.agg (qV x)):=rfl
  have hcel:zq 2 (.agg (qV x))=some (qV x):=rfl
  have hnewp:zl (zh.box 93 [.str [],.int .i64 0]::S) (.bp S.length 0) (qV x)=some (zh.box 93 (qV x)::S):=by
   rw [zM (St.get_top _ _) (row':=qV x) rfl,St.put_top]
  have hrp0:zf (zh.box 93 (qV x)::S) (.bp S.length 0) 1 false=some (.str x.1):=zn (St.get_top _ _)
  have hrp1:zf (zh.box 93 (qV x)::S) (.bp S.length 1) 1 false=some (.int .i64 x.2):=zn (St.get_top _ _)
  refine IN _ _ _ _ _ _ _ _ _ _ _ _ _ _ _ ?_
  rw [decide_eq_true (by omega),cond_true]
  simp only [zO,bind_some,CU S hx,Zx,hrow,hcel,hnewp,hrp0,hrp1,zr,zk,hp.nil,hp.add,hp.rd1 hw,hop]
  have hlS:=hw.len hq
  have pop:∀(acc':Nat×B),Zl S.length ⟨[(0,.bp q 0),(1,p),(2,.int .i64 least),(6,.int .i64 (acc'.1:Int)),(7,.str acc'.2),(8,.int .i64 i8),(12,a),(13,.int .i64 (lv0.length:Int)),(14,.int .i64 (i:Int)),(19,lvC l),(20,.int .i64 (l.length:Int)),(21,.int .i64 ((k+1:Nat):Int))],[]⟩ (zh.box 93 (qV x)::S)=some (⟨[(0,.bp q 0),(1,p),(2,.int .i64 least),(6,.int .i64 (acc'.1:Int)),(7,.str acc'.2),(8,.int .i64 i8),(12,a),(13,.int .i64 (lv0.length:Int)),(14,.int .i64 (i:Int)),(19,lvC l),(20,.int .i64 (l.length:Int)),(21,.int .i64 ((k+1:Nat):Int))],[]⟩,S):=by
   intro acc'
   refine Kj (hw.cl hS0 hq) ?_ _
   intro z hz
   have h1:=hp.closed (n:=S.length) (hcc _) (by omega)
   have h2:=ha.2.closed (m:=S.length)
   have h3:=Ug S.length l
   simp only [List.mem_cons,List.not_mem_nil,or_false] at hz
   rcases hz with rfl | rfl | rfl | rfl | rfl | rfl | rfl | rfl | rfl | rfl | rfl | rfl<;>simp [AV.closed,h1,h2,h3]
   omega
  have hs:Ee op i (x::rest) acc=Ee op i rest (if x.2=op then (i+1,x.1) else acc):=rfl
  rw [hs] at h
  by_cases he:x.2=op
  ·rw [if_pos he] at h
   rw [show (x.2==op)=true by simp [he],cond_true,h8,e1i (by omega),e1i (by omega)]
   have:=pop (i+1,x.1)
   rw [h8] at this
   dsimp only at this
   rw [this,bind_some]
   exact ih (k+1) (i+1,x.1) hrest (by omega) h i rfl
  ·rw [if_neg he] at h
   rw [show (x.2==op)=false by simp [he],cond_false,e1i (by omega),pop acc,bind_some]
   exact ih (k+1) acc hrest (by omega) h i8 h8
theorem He:∀(rest:List (List (B×Int))) (i:Nat) (acc:Nat×B),lv0.drop i=rest→i≤lv0.length →
  aw 28 S.length XH ⟨EJ (.bp q 0) p least (zad op rest i acc) a lv0.length lv0.length,[]⟩ S=some r →
  aw 28 S.length XH ⟨EJ (.bp q 0) p least acc a lv0.length i,[]⟩ S=some r:=by
 intro rest
 induction rest with
 |nil =>
  intro i acc hk hkl h
  have:=List.drop_eq_nil_iff.1 hk
  have:i=lv0.length:=by omega
  subst this
  exact h
 |cons l rest ih =>
  intro i acc hk hkl h
  have hk2:i<lv0.length:=by have:=congrArg List.length hk;simp at this;omega
  have hx:lv0[i]?=some l:=by
   have:(lv0.drop i)[0]?=some l:=by rw [hk];rfl
   rw [List.getElem?_drop] at this;simpa using this
  have hrest:lv0.drop (i+1)=rest:=by rw [←List.drop_drop,hk];rfl
  refine jg _ _ _ _ _ _ _ _ _ _ ?_
  rw [decide_eq_true (by omega),cond_true,zO,bind_some,ha.atK hx]
  have hlen:zL (lvC l)=some (.int .i64 (l.length:Int)):=rfl
  rw [hlen,bind_some,zk,bind_some]
  have hml:l.length<1000:=hm l (List.mem_of_getElem? hx)
  exact HS hS0 hq hp hcc hop hw ha hn hm least r i (by omega) l hml l 0 acc rfl (by omega) (ih (i+1) _ hrest (by omega) h) i rfl
end
end Go.Abs
namespace Go.Abs
open Go Go.Proofs Go.IntWalk Go.Abs.X
theorem HW:∀k:Fin 32,1≤k.val→zad (k.val:Int) X.levels 0 (13,[])=(match qR (k.val:Int) with | some x=>(x.2,x.1) | none=>(13,[])):=by decide +kernel
theorem Fz:∀k:Fin 32,12≤k.val→k.val≤30→(match qR (k.val:Int) with | some x=>!x.1.isEmpty&&decide (1≤x.2)&&decide (x.2≤11)&&decide (x.1.length≤2) | none=>false)=true:=by decide +kernel
theorem NG (s:B):(X.quoted s).length≤2*s.length+2:=by
 have h:∀s:B,(s.flatMap esc).length≤2*s.length:=by
  intro s
  induction s with
  |nil=>simp
  |cons c s ih=>have:=VA c;simp only [List.flatMap_cons,List.length_append,List.length_cons];omega
 have e:X.quoted s=[39]++s.flatMap esc++[39]:=rfl
 have:=h s
 rw [e];simp only [List.length_append,List.length_cons,List.length_nil];omega
theorem NM (n:Nat):(digits n).length≤20:=by
 have h:∀f n,(qM f n).length≤f:=by
  intro f
  induction f with
  |zero=>intro n;simp [qM]
  |succ f ih =>
   intro n
   unfold qM
   split
   ·simp
   ·have:=ih (n / 10);simp;omega
 exact h 20 n
theorem ExRs.at {es:List Ex} {rows:List (List AV)} (h:ExRs es rows):∀(i:Nat) (e:Ex),es[i]?=some e→∃r,rows[i]?=some r∧ExR e r:=by
 intro i
 induction es generalizing rows i with
 |nil=>intro e he;simp at he
 |cons x es ih =>
  obtain ⟨r,rs,rfl,h1,h2⟩:=h
  intro e he
  cases i with
  |zero=>simp at he;subst he;exact ⟨r,rfl,h1⟩
  |succ i=>simpa using ih h2 i e (by simpa using he)
theorem zbn:Tryz.f28.results.toList=[]:=by kernel_rfl
section
variable {S0:St} {q:Nat} (hS0:Cl S0) (hq:q+1<S0.length)
include hS0 hq
theorem Vq {b:B} {S Sn:St} (hl:S.length=S0.length) (h:Wr S0 q b Sn):ze false S.length (.ret (.tup [])) Sn=some (.ret (.tup []),Sn):=by
 rw [hl,←h.len hq];exact zx _ _
theorem Mo {b:B} {S Sn:St} (hl:S.length=S0.length) (h:Wr S0 q b Sn) (hb:b.length<900000000):∃S',Wr S0 q (b++[41]) S' ∧
  ∀env,lvO Tryz.f28 S.length env [(56,[.bp q 0,.int .u8 41]++[])] .ret Sn=some (.ret (.tup []),S'):=by
 obtain ⟨S',h1,h2⟩:=Hf hq h hb 41
 have h2':zY Tryz.prog zz cw (qq Tryz.prog zz) 56 [.bp q 0,.int .u8 41] Sn .ret=some (.ret .nili,S',.ret):=h2
 refine ⟨S',h1,fun env=>?_⟩
 unfold lvO
 rw [List.append_nil,WJ h2',show VK .ret = .ret from rfl,Kt (vs:=[]) (by rw [zbn];rfl),bind_some]
 exact Vq hS0 hq hl h1
def Jx (S0:St) (q:Nat) (e:Ex):Prop:=∀p cs,Pt S0 q p cs→ExR e cs→∀(least:Nat) b S,least≤14→Wr S0 q b S→b.length+9000*e.size≤600000000 →
 ∃S',Wr S0 q (b++put e least) S'∧cw 28 [.bp q 0,p,.int .i64 (least:Int)] S=some (.ret (.tup []),S')∧(put e least).length≤8300*e.size
theorem GM {op n:Int} {s:B} {p ka:AV} (hp:Pt S0 q p [.int .i64 op,.int .i64 n,.str s,ka]) (hc:∀m,AV.closed m ka=true) (ho:1≤op∧op≤31) {least:Nat} {b:B} {S:St} (hw:Wr S0 q b S) {r:zd×St}
  (h:∀a,aw 28 S.length XH ⟨EJ (.bp q 0) p (least:Int) (match qR op with | some x=>(x.2,x.1) | none=>(13,[])) a 11 11,[]⟩ S=some r) :
  cw 28 [.bp q 0,p,.int .i64 (least:Int)] S=some r:=by
 obtain ⟨a,ha,hl⟩:=VT S
 refine F28 _ _ _ _ ?_
 rw [hl,zi,ha.len,bind_some,zk,bind_some]
 have hcc:∀m,AV.closeds m [.int .i64 op,.int .i64 n,.str s,ka]=true:=fun m=>by simp [AV.closeds,AV.closed,hc]
 have hs:=HW ⟨op.toNat,by omega⟩ (by show 1≤op.toNat;omega)
 have ho':((op.toNat:Nat):Int)=op:=by omega
 simp only [ho'] at hs
 refine He hS0 hq hp hcc (op:=op) rfl hw ha (by decide) (by decide) (least:Int) r X.levels 0 (13,[]) rfl (by decide) ?_
 rw [hs]
 exact h a
abbrev cs4 (op n:Int) (s:B) (ka:AV):List AV:=[.int .i64 op,.int .i64 n,.str s,ka]
abbrev YQ (op:Int):Nat×B:=match qR op with | some x=>(x.2,x.1) | none=>(13,[])
theorem qQ {op n:Int} {s:B} {kids:List Ex} {p ka:AV} (hp:Pt S0 q p (cs4 op n s ka)) (hfl:jh 4 ka) (ho:1≤op∧op≤31) {least:Nat} {b:B} {S:St} (hw:Wr S0 q b S)
  {sz:Nat} (chain:St→St→Prop) (hbl:b.length+9000*sz≤600000000) (hz:(body op n s (puts kids)).length+10≤8300*sz)
  (mid:∀S1 b1,Wr S0 q b1 S1→b1.length≤b.length+1→∃Sn,Wr S0 q (b1++body op n s (puts kids)) Sn∧chain S1 Sn)
  (plain:¬level op<least→∀Sn b',Wr S0 q b' Sn→chain S Sn→ze false S.length (.ret (.tup [])) Sn=some (.ret (.tup []),Sn)→∀a,
   aw 28 S.length XH ⟨EJ (.bp q 0) p (least:Int) (YQ op) a 11 11,[]⟩ S=some (.ret (.tup []),Sn))
  (paren:level op<least→∀S1 Sn b1 b' S',Wr S0 q b1 S1→Wr S0 q b' Sn→cw 56 [.bp q 0,.int .u8 40] S=some (.ret .nili,S1)→chain S1 Sn →
   (∀env,lvO Tryz.f28 S.length env [(56,[.bp q 0,.int .u8 41]++[])] .ret Sn=some (.ret (.tup []),S'))→∀a,
   aw 28 S.length XH ⟨EJ (.bp q 0) p (least:Int) (YQ op) a 11 11,[]⟩ S=some (.ret (.tup []),S')) :
  ∃S',Wr S0 q (b++put (.mk op n s kids) least) S'∧cw 28 [.bp q 0,p,.int .i64 (least:Int)] S=some (.ret (.tup []),S')∧(put (.mk op n s kids) least).length≤8300*sz:=by
 have hput:put (.mk op n s kids) least=if level op<least then [40]++body op n s (puts kids)++[41] else body op n s (puts kids):=by rw [put]
 by_cases hpar:level op<least
 ·obtain ⟨S1,g1,g2⟩:=Zy hq hw (by omega) 40
  obtain ⟨Sn,w4,hch⟩:=mid S1 _ g1 (by simp)
  obtain ⟨S',d1,d2⟩:=Mo hS0 hq (hw.len hq) w4 (by simp;omega)
  refine ⟨S',by rw [hput,if_pos hpar];simpa [List.append_assoc] using d1,GM hS0 hq hp (fun _=>hfl.closed) ho hw (paren hpar S1 Sn _ _ S' g1 w4 g2 hch d2),by rw [hput,if_pos hpar];simp;omega⟩
 ·obtain ⟨Sn,w4,hch⟩:=mid S b hw (by omega)
  exact ⟨Sn,by rw [hput,if_neg hpar];exact w4,GM hS0 hq hp (fun _=>hfl.closed) ho hw (plain hpar Sn _ w4 hch (Vq hS0 hq (hw.len hq) w4)),by rw [hput,if_neg hpar];omega⟩
end
end Go.Abs
namespace Go.Abs
open Go Go.Proofs Go.IntWalk Go.Abs.X
theorem LF {a b:B} (h:a.length+b.length≤1000000000):zQ .add a b=some (.str (a++b)):=by simp only [zQ];rw [if_pos (by omega)]
theorem Pt.ld {S0:St} {q:Nat} {p:AV} {cs:List AV} (hp:Pt S0 q p cs) {b:B} {S:St} (hw:Wr S0 q b S) (i:Nat):ldA Tryz.prog S 3 (We p i)=zj cs i 1 false:=by rw [VC,hp.rd hw]
theorem ML:Sl 1 (.sl 1 (qw X.calls) 0 8 .no) (qw X.calls):=.inr ⟨qw X.calls,0,.no,rfl,by decide,rfl⟩
theorem DJ {n:Int} (h:1≤n∧n≤8):X.calls[n.toNat - 1]?=some (X.calls.getD (n.toNat - 1) []):=by
 have:n.toNat - 1<X.calls.length:=by show _<8;omega
 simp [List.getD,List.getElem?_eq_getElem this]
theorem Hl (i:Nat):(X.calls.getD i []).length≤3:=by
 have:∀c ∈ X.calls,c.length≤3:=by decide
 by_cases h:i<X.calls.length
 ·simp only [List.getD,List.getElem?_eq_getElem h,Option.getD_some];exact this _ (List.getElem_mem h)
 ·simp [List.getD,List.getElem?_eq_none (Nat.le_of_not_lt h)]
section
variable {S0:St} {q:Nat} (hS0:Cl S0) (hq:q+1<S0.length)
include hS0 hq
theorem HG {op n:Int} {s:B} {k0 k1:Ex} {p ka:AV} {rows:List (List AV)} (hp:Pt S0 q p (cs4 op n s ka)) (hsl:Sl 4 ka rows) (hfl:jh 4 ka) (hks:ExRs [k0,k1] rows) (least:Nat) (hle:least≤14) {b:B} {S:St} (hw:Wr S0 q b S) {m:B} {l:Nat} (hb:qR op=some (m,l)) (hm:m≠[]) (hl1:1≤l) (hl:l≤11) (hml:m.length≤2) (ho:1≤op∧op≤31) (h31:op≠31) (h10:op≠10) (h11:op≠11) (h0:Jx S0 q k0) (h1:Jx S0 q k1) (hbl:b.length+9000*(1+k0.size+k1.size)≤600000000) :
  ∃S',Wr S0 q (b++put (.mk op n s [k0,k1]) least) S'∧cw 28 [.bp q 0,p,.int .i64 (least:Int)] S=some (.ret (.tup []),S')∧(put (.mk op n s [k0,k1]) least).length≤8300*(1+k0.size+k1.size):=by
 obtain ⟨r0,hr0,he0⟩:=hks.at 0 k0 rfl
 have i0:∀S,zt S 4 ka 0=some (.ip r0 0):=fun S=>hsl.at hr0
 obtain ⟨r1,hr1,he1⟩:=hks.at 1 k1 rfl
 have i1:∀S,zt S 4 ka 1=some (.ip r1 0):=fun S=>hsl.at hr1
 have hbody:body op n s (puts [k0,k1])=put k0 l++([32]++m++[32])++put k1 (l+1):=by unfold body;rw [hb];rfl
 have hlev:level op=l:=by unfold level;rw [hb]
 have hE:YQ op=(l,m):=by simp only [YQ,hb]
 have z0:(put k0 l).length≤8300*k0.size:=(h0 (.ip r0 0) r0 (.inl rfl) he0 l b S (by omega) hw (by omega)).choose_spec.2.2
 have z1:(put k1 (l+1)).length≤8300*k1.size:=(h1 (.ip r1 0) r1 (.inl rfl) he1 (l+1) b S (by omega) hw (by omega)).choose_spec.2.2
 have hx1:([32]++m++[32]:B).length≤4:=by simp;omega
 refine qQ hS0 hq hp hfl (by exact ho) hw (sz:=(1+k0.size+k1.size)) (fun A0 A3=>∃c1 A1 c2 A2,Wr S0 q c1 A1∧Wr S0 q c2 A2∧cw 28 [.bp q 0,.ip r0 0,.int .i64 (l:Int)] A0=some (.ret (.tup []),A1)∧cw 57 [.bp q 0,.str ([ofNat 32]++m++[ofNat 32])] A1=some (.ret (.tup [.int .i64 ((([32]++m++[32]):B).length:Int),.nili]),A2)∧cw 28 [.bp q 0,.ip r1 0,.int .i64 ((l+1:Nat):Int)] A2=some (.ret (.tup []),A3)) hbl (by rw [hbody];(try simp only [List.length_append,List.length_cons,List.length_nil]);omega) ?_ ?_ ?_
 ·intro A0 b1 v0 hb1
  obtain ⟨A1,v1,e1,_⟩:=h0 (.ip r0 0) r0 (.inl rfl) he0 l _ A0 (by omega) v0 (by (try simp only [List.length_append,List.length_cons,List.length_nil] at *);omega)
  obtain ⟨A2,v2,e2⟩:=QI hq v1 ([32]++m++[32]) (by (try simp only [List.length_append,List.length_cons,List.length_nil] at *);omega)
  obtain ⟨A3,v3,e3,_⟩:=h1 (.ip r1 0) r1 (.inl rfl) he1 (l+1) _ A2 (by omega) v2 (by (try simp only [List.length_append,List.length_cons,List.length_nil] at *);omega)
  exact ⟨A3,by rw [hbody];simpa only [List.append_assoc] using v3,_,A1,_,A2,v1,v2,e1,e2,e3⟩
 ·intro hpar A3 b' vn hch hfin a
  rw [hlev] at hpar
  obtain ⟨c1,A1,c2,A2,v1,v2,e1,e2,e3⟩:=hch
  rw [hE];refine jg _ _ _ _ _ _ _ _ _ _ ?_
  simp only [show decide (((11:Nat):Int)<((11:Nat):Int))=false from rfl,cond_false,cond_true,hp.nil,hp.add,bind_some,hp.rd hw,hp.rd v1,hp.rd v2,hp.rd vn,show zj (cs4 op n s ka) 0 1 false=some (.int .i64 op) from rfl,show zj (cs4 op n s ka) 1 1 false=some (.int .i64 n) from rfl,show zj (cs4 op n s ka) 2 1 false=some (.str s) from rfl,show zj (cs4 op n s ka) 3 1 false=some ka from rfl,zk,zr,show (op==31)=false by simp [h31],show (op==10)=false by simp [h10],show (op==11)=false by simp [h11],show (!(m==[]))=true by simp [hm],show IntKind.i64.wrap ((l:Int)+1)=((l+1:Nat):Int) from e1i (by omega),zu,zE,Nat.zero_add,zi,zV,LF (a:=[ofNat 32]) (b:=m) (by simp;omega),LF (a:=[ofNat 32]++m) (b:=[ofNat 32]) (by simp;omega),zp,i0,i1,e1,e2,e3,decide_eq_false (show ¬((l:Int)<(least:Int)) by omega),hfin]
 ·intro hpar A0 A3 b1 b' S' v0 vn e0 hch hfin a
  rw [hlev] at hpar
  obtain ⟨c1,A1,c2,A2,v1,v2,e1,e2,e3⟩:=hch
  rw [hE];refine jg _ _ _ _ _ _ _ _ _ _ ?_
  simp only [show decide (((11:Nat):Int)<((11:Nat):Int))=false from rfl,cond_false,cond_true,hp.nil,hp.add,bind_some,hp.rd hw,hp.rd v0,hp.rd v1,hp.rd v2,hp.rd vn,show zj (cs4 op n s ka) 0 1 false=some (.int .i64 op) from rfl,show zj (cs4 op n s ka) 1 1 false=some (.int .i64 n) from rfl,show zj (cs4 op n s ka) 2 1 false=some (.str s) from rfl,show zj (cs4 op n s ka) 3 1 false=some ka from rfl,zk,zr,show (op==31)=false by simp [h31],show (op==10)=false by simp [h10],show (op==11)=false by simp [h11],show (!(m==[]))=true by simp [hm],show IntKind.i64.wrap ((l:Int)+1)=((l+1:Nat):Int) from e1i (by omega),zu,zE,Nat.zero_add,zi,zV,LF (a:=[ofNat 32]) (b:=m) (by simp;omega),LF (a:=[ofNat 32]++m) (b:=[ofNat 32]) (by simp;omega),zp,i0,i1,e1,e2,e3,e0,decide_eq_true (show (l:Int)<(least:Int) by omega),hfin]
theorem zal {n:Int} {s:B} {k0 k1 k2:Ex} {p ka:AV} {rows:List (List AV)} (hp:Pt S0 q p (cs4 31 n s ka)) (hsl:Sl 4 ka rows) (hfl:jh 4 ka) (hks:ExRs [k0,k1,k2] rows) (least:Nat) (hle:least≤14) {b:B} {S:St} (hw:Wr S0 q b S)  (h0:Jx S0 q k0) (h1:Jx S0 q k1) (h2:Jx S0 q k2) (hbl:b.length+9000*(1+k0.size+k1.size+k2.size)≤600000000) :
  ∃S',Wr S0 q (b++put (.mk 31 n s [k0,k1,k2]) least) S'∧cw 28 [.bp q 0,p,.int .i64 (least:Int)] S=some (.ret (.tup []),S')∧(put (.mk 31 n s [k0,k1,k2]) least).length≤8300*(1+k0.size+k1.size+k2.size):=by
 obtain ⟨r0,hr0,he0⟩:=hks.at 0 k0 rfl
 have i0:∀S,zt S 4 ka 0=some (.ip r0 0):=fun S=>hsl.at hr0
 obtain ⟨r1,hr1,he1⟩:=hks.at 1 k1 rfl
 have i1:∀S,zt S 4 ka 1=some (.ip r1 0):=fun S=>hsl.at hr1
 obtain ⟨r2,hr2,he2⟩:=hks.at 2 k2 rfl
 have i2:∀S,zt S 4 ka 2=some (.ip r2 0):=fun S=>hsl.at hr2
 have hbody:body 31 n s (puts [k0,k1,k2])=put k0 1++[32,63,32]++put k1 0++[32,58,32]++put k2 0:=by unfold body;rw [show qR 31=none by decide];simp [puts]
 have hlev:level 31=0:=by decide
 have hE:YQ 31=(13,[]):=by decide
 have z0:(put k0 1).length≤8300*k0.size:=(h0 (.ip r0 0) r0 (.inl rfl) he0 1 b S (by omega) hw (by omega)).choose_spec.2.2
 have z1:(put k1 0).length≤8300*k1.size:=(h1 (.ip r1 0) r1 (.inl rfl) he1 0 b S (by omega) hw (by omega)).choose_spec.2.2
 have z2:(put k2 0).length≤8300*k2.size:=(h2 (.ip r2 0) r2 (.inl rfl) he2 0 b S (by omega) hw (by omega)).choose_spec.2.2
 refine qQ hS0 hq hp hfl (by omega) hw (sz:=(1+k0.size+k1.size+k2.size)) (fun A0 A5=>∃c1 A1 c2 A2 c3 A3 c4 A4,Wr S0 q c1 A1∧Wr S0 q c2 A2∧Wr S0 q c3 A3∧Wr S0 q c4 A4∧cw 28 [.bp q 0,.ip r0 0,.int .i64 1] A0=some (.ret (.tup []),A1)∧cw 57 [.bp q 0,.str [ofNat 32,ofNat 63,ofNat 32]] A1=some (.ret (.tup [.int .i64 (([32,63,32]:B).length:Int),.nili]),A2)∧cw 28 [.bp q 0,.ip r1 0,.int .i64 0] A2=some (.ret (.tup []),A3)∧cw 57 [.bp q 0,.str [ofNat 32,ofNat 58,ofNat 32]] A3=some (.ret (.tup [.int .i64 (([32,58,32]:B).length:Int),.nili]),A4)∧cw 28 [.bp q 0,.ip r2 0,.int .i64 0] A4=some (.ret (.tup []),A5)) hbl (by rw [hbody];(try simp only [List.length_append,List.length_cons,List.length_nil]);omega) ?_ ?_ ?_
 ·intro A0 b1 v0 hb1
  obtain ⟨A1,v1,e1,_⟩:=h0 (.ip r0 0) r0 (.inl rfl) he0 1 _ A0 (by omega) v0 (by (try simp only [List.length_append,List.length_cons,List.length_nil] at *);omega)
  obtain ⟨A2,v2,e2⟩:=QI hq v1 [32,63,32] (by (try simp only [List.length_append,List.length_cons,List.length_nil] at *);omega)
  obtain ⟨A3,v3,e3,_⟩:=h1 (.ip r1 0) r1 (.inl rfl) he1 0 _ A2 (by omega) v2 (by (try simp only [List.length_append,List.length_cons,List.length_nil] at *);omega)
  obtain ⟨A4,v4,e4⟩:=QI hq v3 [32,58,32] (by (try simp only [List.length_append,List.length_cons,List.length_nil] at *);omega)
  obtain ⟨A5,v5,e5,_⟩:=h2 (.ip r2 0) r2 (.inl rfl) he2 0 _ A4 (by omega) v4 (by (try simp only [List.length_append,List.length_cons,List.length_nil] at *);omega)
  exact ⟨A5,by rw [hbody];simpa only [List.append_assoc] using v5,_,A1,_,A2,_,A3,_,A4,v1,v2,v3,v4,e1,e2,e3,e4,e5⟩
 ·intro hpar A5 b' vn hch hfin a
  rw [hlev] at hpar
  obtain ⟨c1,A1,c2,A2,c3,A3,c4,A4,v1,v2,v3,v4,e1,e2,e3,e4,e5⟩:=hch
  rw [hE];refine jg _ _ _ _ _ _ _ _ _ _ ?_
  simp only [show decide (((11:Nat):Int)<((11:Nat):Int))=false from rfl,cond_false,cond_true,hp.nil,hp.add,bind_some,hp.rd hw,hp.rd v1,hp.rd v2,hp.rd v3,hp.rd v4,hp.rd vn,show zj (cs4 31 n s ka) 0 1 false=some (.int .i64 31) from rfl,show zj (cs4 31 n s ka) 1 1 false=some (.int .i64 n) from rfl,show zj (cs4 31 n s ka) 2 1 false=some (.str s) from rfl,show zj (cs4 31 n s ka) 3 1 false=some ka from rfl,zk,zr,Int.reduceBEq,show (!(([]:B)==[]))=false from rfl,zu,zE,Nat.zero_add,zi,zV,zp,i0,i1,i2,e1,e2,e3,e4,e5,decide_eq_false (show ¬((0:Int)<(least:Int)) by omega),hfin]
 ·intro hpar A0 A5 b1 b' S' v0 vn e0 hch hfin a
  rw [hlev] at hpar
  obtain ⟨c1,A1,c2,A2,c3,A3,c4,A4,v1,v2,v3,v4,e1,e2,e3,e4,e5⟩:=hch
  rw [hE];refine jg _ _ _ _ _ _ _ _ _ _ ?_
  simp only [show decide (((11:Nat):Int)<((11:Nat):Int))=false from rfl,cond_false,cond_true,hp.nil,hp.add,bind_some,hp.rd hw,hp.rd v0,hp.rd v1,hp.rd v2,hp.rd v3,hp.rd v4,hp.rd vn,show zj (cs4 31 n s ka) 0 1 false=some (.int .i64 31) from rfl,show zj (cs4 31 n s ka) 1 1 false=some (.int .i64 n) from rfl,show zj (cs4 31 n s ka) 2 1 false=some (.str s) from rfl,show zj (cs4 31 n s ka) 3 1 false=some ka from rfl,zk,zr,Int.reduceBEq,show (!(([]:B)==[]))=false from rfl,zu,zE,Nat.zero_add,zi,zV,zp,i0,i1,i2,e1,e2,e3,e4,e5,e0,decide_eq_true (show (0:Int)<(least:Int) by omega),hfin]
theorem IG {n:Int} {s:B} {k0:Ex} {p ka:AV} {rows:List (List AV)} (hp:Pt S0 q p (cs4 10 n s ka)) (hsl:Sl 4 ka rows) (hfl:jh 4 ka) (hks:ExRs [k0] rows) (least:Nat) (hle:least≤14) {b:B} {S:St} (hw:Wr S0 q b S)  (h0:Jx S0 q k0) (hbl:b.length+9000*(1+k0.size)≤600000000) :
  ∃S',Wr S0 q (b++put (.mk 10 n s [k0]) least) S'∧cw 28 [.bp q 0,p,.int .i64 (least:Int)] S=some (.ret (.tup []),S')∧(put (.mk 10 n s [k0]) least).length≤8300*(1+k0.size):=by
 obtain ⟨r0,hr0,he0⟩:=hks.at 0 k0 rfl
 have i0:∀S,zt S 4 ka 0=some (.ip r0 0):=fun S=>hsl.at hr0
 have hbody:body 10 n s (puts [k0])=[45]++put k0 12:=by unfold body;rw [show qR 10=none by decide];simp [puts]
 have hlev:level 10=12:=by decide
 have hE:YQ 10=(13,[]):=by decide
 have z0:(put k0 12).length≤8300*k0.size:=(h0 (.ip r0 0) r0 (.inl rfl) he0 12 b S (by omega) hw (by omega)).choose_spec.2.2
 refine qQ hS0 hq hp hfl (by omega) hw (sz:=(1+k0.size)) (fun A0 A2=>∃c1 A1,Wr S0 q c1 A1∧cw 56 [.bp q 0,.int .u8 45] A0=some (.ret .nili,A1)∧cw 28 [.bp q 0,.ip r0 0,.int .i64 12] A1=some (.ret (.tup []),A2)) hbl (by rw [hbody];(try simp only [List.length_append,List.length_cons,List.length_nil]);omega) ?_ ?_ ?_
 ·intro A0 b1 v0 hb1
  obtain ⟨A1,v1,e1⟩:=Zy hq v0 (by (try simp only [List.length_append,List.length_cons,List.length_nil] at *);omega) 45
  obtain ⟨A2,v2,e2,_⟩:=h0 (.ip r0 0) r0 (.inl rfl) he0 12 _ A1 (by omega) v1 (by (try simp only [List.length_append,List.length_cons,List.length_nil] at *);omega)
  exact ⟨A2,by rw [hbody];simpa only [List.append_assoc] using v2,_,A1,v1,e1,e2⟩
 ·intro hpar A2 b' vn hch hfin a
  rw [hlev] at hpar
  obtain ⟨c1,A1,v1,e1,e2⟩:=hch
  rw [hE];refine jg _ _ _ _ _ _ _ _ _ _ ?_
  simp only [show decide (((11:Nat):Int)<((11:Nat):Int))=false from rfl,cond_false,cond_true,hp.nil,hp.add,bind_some,hp.rd hw,hp.rd v1,hp.rd vn,show zj (cs4 10 n s ka) 0 1 false=some (.int .i64 10) from rfl,show zj (cs4 10 n s ka) 1 1 false=some (.int .i64 n) from rfl,show zj (cs4 10 n s ka) 2 1 false=some (.str s) from rfl,show zj (cs4 10 n s ka) 3 1 false=some ka from rfl,zk,zr,Int.reduceBEq,show (!(([]:B)==[]))=false from rfl,zu,zE,Nat.zero_add,zi,zV,zp,i0,e1,e2,decide_eq_false (show ¬((12:Int)<(least:Int)) by omega),hfin]
 ·intro hpar A0 A2 b1 b' S' v0 vn e0 hch hfin a
  rw [hlev] at hpar
  obtain ⟨c1,A1,v1,e1,e2⟩:=hch
  rw [hE];refine jg _ _ _ _ _ _ _ _ _ _ ?_
  simp only [show decide (((11:Nat):Int)<((11:Nat):Int))=false from rfl,cond_false,cond_true,hp.nil,hp.add,bind_some,hp.rd hw,hp.rd v0,hp.rd v1,hp.rd vn,show zj (cs4 10 n s ka) 0 1 false=some (.int .i64 10) from rfl,show zj (cs4 10 n s ka) 1 1 false=some (.int .i64 n) from rfl,show zj (cs4 10 n s ka) 2 1 false=some (.str s) from rfl,show zj (cs4 10 n s ka) 3 1 false=some ka from rfl,zk,zr,Int.reduceBEq,show (!(([]:B)==[]))=false from rfl,zu,zE,Nat.zero_add,zi,zV,zp,i0,e1,e2,e0,decide_eq_true (show (12:Int)<(least:Int) by omega),hfin]
theorem Ij {n:Int} {s:B} {k0:Ex} {p ka:AV} {rows:List (List AV)} (hp:Pt S0 q p (cs4 11 n s ka)) (hsl:Sl 4 ka rows) (hfl:jh 4 ka) (hks:ExRs [k0] rows) (least:Nat) (hle:least≤14) {b:B} {S:St} (hw:Wr S0 q b S)  (h0:Jx S0 q k0) (hbl:b.length+9000*(1+k0.size)≤600000000) :
  ∃S',Wr S0 q (b++put (.mk 11 n s [k0]) least) S'∧cw 28 [.bp q 0,p,.int .i64 (least:Int)] S=some (.ret (.tup []),S')∧(put (.mk 11 n s [k0]) least).length≤8300*(1+k0.size):=by
 obtain ⟨r0,hr0,he0⟩:=hks.at 0 k0 rfl
 have i0:∀S,zt S 4 ka 0=some (.ip r0 0):=fun S=>hsl.at hr0
 have hbody:body 11 n s (puts [k0])=[33]++put k0 12:=by unfold body;rw [show qR 11=none by decide];simp [puts]
 have hlev:level 11=12:=by decide
 have hE:YQ 11=(13,[]):=by decide
 have z0:(put k0 12).length≤8300*k0.size:=(h0 (.ip r0 0) r0 (.inl rfl) he0 12 b S (by omega) hw (by omega)).choose_spec.2.2
 refine qQ hS0 hq hp hfl (by omega) hw (sz:=(1+k0.size)) (fun A0 A2=>∃c1 A1,Wr S0 q c1 A1∧cw 56 [.bp q 0,.int .u8 33] A0=some (.ret .nili,A1)∧cw 28 [.bp q 0,.ip r0 0,.int .i64 12] A1=some (.ret (.tup []),A2)) hbl (by rw [hbody];(try simp only [List.length_append,List.length_cons,List.length_nil]);omega) ?_ ?_ ?_
 ·intro A0 b1 v0 hb1
  obtain ⟨A1,v1,e1⟩:=Zy hq v0 (by (try simp only [List.length_append,List.length_cons,List.length_nil] at *);omega) 33
  obtain ⟨A2,v2,e2,_⟩:=h0 (.ip r0 0) r0 (.inl rfl) he0 12 _ A1 (by omega) v1 (by (try simp only [List.length_append,List.length_cons,List.length_nil] at *);omega)
  exact ⟨A2,by rw [hbody];simpa only [List.append_assoc] using v2,_,A1,v1,e1,e2⟩
 ·intro hpar A2 b' vn hch hfin a
  rw [hlev] at hpar
  obtain ⟨c1,A1,v1,e1,e2⟩:=hch
  rw [hE];refine jg _ _ _ _ _ _ _ _ _ _ ?_
  simp only [show decide (((11:Nat):Int)<((11:Nat):Int))=false from rfl,cond_false,cond_true,hp.nil,hp.add,bind_some,hp.rd hw,hp.rd v1,hp.rd vn,show zj (cs4 11 n s ka) 0 1 false=some (.int .i64 11) from rfl,show zj (cs4 11 n s ka) 1 1 false=some (.int .i64 n) from rfl,show zj (cs4 11 n s ka) 2 1 false=some (.str s) from rfl,show zj (cs4 11 n s ka) 3 1 false=some ka from rfl,zk,zr,Int.reduceBEq,show (!(([]:B)==[]))=false from rfl,zu,zE,Nat.zero_add,zi,zV,zp,i0,e1,e2,decide_eq_false (show ¬((12:Int)<(least:Int)) by omega),hfin]
 ·intro hpar A0 A2 b1 b' S' v0 vn e0 hch hfin a
  rw [hlev] at hpar
  obtain ⟨c1,A1,v1,e1,e2⟩:=hch
  rw [hE];refine jg _ _ _ _ _ _ _ _ _ _ ?_
  simp only [show decide (((11:Nat):Int)<((11:Nat):Int))=false from rfl,cond_false,cond_true,hp.nil,hp.add,bind_some,hp.rd hw,hp.rd v0,hp.rd v1,hp.rd vn,show zj (cs4 11 n s ka) 0 1 false=some (.int .i64 11) from rfl,show zj (cs4 11 n s ka) 1 1 false=some (.int .i64 n) from rfl,show zj (cs4 11 n s ka) 2 1 false=some (.str s) from rfl,show zj (cs4 11 n s ka) 3 1 false=some ka from rfl,zk,zr,Int.reduceBEq,show (!(([]:B)==[]))=false from rfl,zu,zE,Nat.zero_add,zi,zV,zp,i0,e1,e2,e0,decide_eq_true (show (12:Int)<(least:Int) by omega),hfin]
theorem EI {n:Int} {s:B} {k0:Ex} {p ka:AV} {rows:List (List AV)} (hp:Pt S0 q p (cs4 7 n s ka)) (hsl:Sl 4 ka rows) (hfl:jh 4 ka) (hks:ExRs [k0] rows) (least:Nat) (hle:least≤14) {b:B} {S:St} (hw:Wr S0 q b S) (hsl7:s.length≤4096) (h0:Jx S0 q k0) (hbl:b.length+9000*(1+k0.size)≤600000000) :
  ∃S',Wr S0 q (b++put (.mk 7 n s [k0]) least) S'∧cw 28 [.bp q 0,p,.int .i64 (least:Int)] S=some (.ret (.tup []),S')∧(put (.mk 7 n s [k0]) least).length≤8300*(1+k0.size):=by
 obtain ⟨r0,hr0,he0⟩:=hks.at 0 k0 rfl
 have i0:∀S,zt S 4 ka 0=some (.ip r0 0):=fun S=>hsl.at hr0
 have hbody:body 7 n s (puts [k0])=put k0 13++([46]++s):=by unfold body;rw [show qR 7=none by decide];simp [puts]
 have hlev:level 7=13:=by decide
 have hE:YQ 7=(13,[]):=by decide
 have z0:(put k0 13).length≤8300*k0.size:=(h0 (.ip r0 0) r0 (.inl rfl) he0 13 b S (by omega) hw (by omega)).choose_spec.2.2
 refine qQ hS0 hq hp hfl (by omega) hw (sz:=(1+k0.size)) (fun A0 A2=>∃c1 A1,Wr S0 q c1 A1∧cw 28 [.bp q 0,.ip r0 0,.int .i64 13] A0=some (.ret (.tup []),A1)∧cw 57 [.bp q 0,.str ([ofNat 46]++s)] A1=some (.ret (.tup [.int .i64 ((([46]++s):B).length:Int),.nili]),A2)) hbl (by rw [hbody];(try simp only [List.length_append,List.length_cons,List.length_nil]);omega) ?_ ?_ ?_
 ·intro A0 b1 v0 hb1
  obtain ⟨A1,v1,e1,_⟩:=h0 (.ip r0 0) r0 (.inl rfl) he0 13 _ A0 (by omega) v0 (by (try simp only [List.length_append,List.length_cons,List.length_nil] at *);omega)
  obtain ⟨A2,v2,e2⟩:=QI hq v1 ([46]++s) (by (try simp only [List.length_append,List.length_cons,List.length_nil] at *);omega)
  exact ⟨A2,by rw [hbody];simpa only [List.append_assoc] using v2,_,A1,v1,e1,e2⟩
 ·intro hpar A2 b' vn hch hfin a
  rw [hlev] at hpar
  obtain ⟨c1,A1,v1,e1,e2⟩:=hch
  rw [hE];refine jg _ _ _ _ _ _ _ _ _ _ ?_
  simp only [show decide (((11:Nat):Int)<((11:Nat):Int))=false from rfl,cond_false,cond_true,hp.nil,hp.add,bind_some,hp.rd hw,hp.rd v1,hp.rd vn,show zj (cs4 7 n s ka) 0 1 false=some (.int .i64 7) from rfl,show zj (cs4 7 n s ka) 1 1 false=some (.int .i64 n) from rfl,show zj (cs4 7 n s ka) 2 1 false=some (.str s) from rfl,show zj (cs4 7 n s ka) 3 1 false=some ka from rfl,zk,zr,Int.reduceBEq,show (!(([]:B)==[]))=false from rfl,zu,zE,Nat.zero_add,zi,zV,LF (a:=[ofNat 46]) (b:=s) (by simp;omega),zp,i0,e1,e2,decide_eq_false (show ¬(((13:Nat):Int)<(least:Int)) by omega),hfin]
 ·intro hpar A0 A2 b1 b' S' v0 vn e0 hch hfin a
  rw [hlev] at hpar
  obtain ⟨c1,A1,v1,e1,e2⟩:=hch
  rw [hE];refine jg _ _ _ _ _ _ _ _ _ _ ?_
  simp only [show decide (((11:Nat):Int)<((11:Nat):Int))=false from rfl,cond_false,cond_true,hp.nil,hp.add,bind_some,hp.rd hw,hp.rd v0,hp.rd v1,hp.rd vn,show zj (cs4 7 n s ka) 0 1 false=some (.int .i64 7) from rfl,show zj (cs4 7 n s ka) 1 1 false=some (.int .i64 n) from rfl,show zj (cs4 7 n s ka) 2 1 false=some (.str s) from rfl,show zj (cs4 7 n s ka) 3 1 false=some ka from rfl,zk,zr,Int.reduceBEq,show (!(([]:B)==[]))=false from rfl,zu,zE,Nat.zero_add,zi,zV,LF (a:=[ofNat 46]) (b:=s) (by simp;omega),zp,i0,e1,e2,e0,decide_eq_true (show ((13:Nat):Int)<(least:Int) by omega),hfin]
theorem Bf {n:Int} {s:B} {k0 k1:Ex} {p ka:AV} {rows:List (List AV)} (hp:Pt S0 q p (cs4 8 n s ka)) (hsl:Sl 4 ka rows) (hfl:jh 4 ka) (hks:ExRs [k0,k1] rows) (least:Nat) (hle:least≤14) {b:B} {S:St} (hw:Wr S0 q b S)  (h0:Jx S0 q k0) (h1:Jx S0 q k1) (hbl:b.length+9000*(1+k0.size+k1.size)≤600000000) :
  ∃S',Wr S0 q (b++put (.mk 8 n s [k0,k1]) least) S'∧cw 28 [.bp q 0,p,.int .i64 (least:Int)] S=some (.ret (.tup []),S')∧(put (.mk 8 n s [k0,k1]) least).length≤8300*(1+k0.size+k1.size):=by
 obtain ⟨r0,hr0,he0⟩:=hks.at 0 k0 rfl
 have i0:∀S,zt S 4 ka 0=some (.ip r0 0):=fun S=>hsl.at hr0
 obtain ⟨r1,hr1,he1⟩:=hks.at 1 k1 rfl
 have i1:∀S,zt S 4 ka 1=some (.ip r1 0):=fun S=>hsl.at hr1
 have hbody:body 8 n s (puts [k0,k1])=put k0 13++[91]++put k1 0++[93]:=by unfold body;rw [show qR 8=none by decide];simp [puts]
 have hlev:level 8=13:=by decide
 have hE:YQ 8=(13,[]):=by decide
 have z0:(put k0 13).length≤8300*k0.size:=(h0 (.ip r0 0) r0 (.inl rfl) he0 13 b S (by omega) hw (by omega)).choose_spec.2.2
 have z1:(put k1 0).length≤8300*k1.size:=(h1 (.ip r1 0) r1 (.inl rfl) he1 0 b S (by omega) hw (by omega)).choose_spec.2.2
 refine qQ hS0 hq hp hfl (by omega) hw (sz:=(1+k0.size+k1.size)) (fun A0 A4=>∃c1 A1 c2 A2 c3 A3,Wr S0 q c1 A1∧Wr S0 q c2 A2∧Wr S0 q c3 A3∧cw 28 [.bp q 0,.ip r0 0,.int .i64 13] A0=some (.ret (.tup []),A1)∧cw 56 [.bp q 0,.int .u8 91] A1=some (.ret .nili,A2)∧cw 28 [.bp q 0,.ip r1 0,.int .i64 0] A2=some (.ret (.tup []),A3)∧cw 56 [.bp q 0,.int .u8 93] A3=some (.ret .nili,A4)) hbl (by rw [hbody];(try simp only [List.length_append,List.length_cons,List.length_nil]);omega) ?_ ?_ ?_
 ·intro A0 b1 v0 hb1
  obtain ⟨A1,v1,e1,_⟩:=h0 (.ip r0 0) r0 (.inl rfl) he0 13 _ A0 (by omega) v0 (by (try simp only [List.length_append,List.length_cons,List.length_nil] at *);omega)
  obtain ⟨A2,v2,e2⟩:=Zy hq v1 (by (try simp only [List.length_append,List.length_cons,List.length_nil] at *);omega) 91
  obtain ⟨A3,v3,e3,_⟩:=h1 (.ip r1 0) r1 (.inl rfl) he1 0 _ A2 (by omega) v2 (by (try simp only [List.length_append,List.length_cons,List.length_nil] at *);omega)
  obtain ⟨A4,v4,e4⟩:=Zy hq v3 (by (try simp only [List.length_append,List.length_cons,List.length_nil] at *);omega) 93
  exact ⟨A4,by rw [hbody];simpa only [List.append_assoc] using v4,_,A1,_,A2,_,A3,v1,v2,v3,e1,e2,e3,e4⟩
 ·intro hpar A4 b' vn hch hfin a
  rw [hlev] at hpar
  obtain ⟨c1,A1,c2,A2,c3,A3,v1,v2,v3,e1,e2,e3,e4⟩:=hch
  rw [hE];refine jg _ _ _ _ _ _ _ _ _ _ ?_
  simp only [show decide (((11:Nat):Int)<((11:Nat):Int))=false from rfl,cond_false,cond_true,hp.nil,hp.add,bind_some,hp.rd hw,hp.rd v1,hp.rd v2,hp.rd v3,hp.rd vn,show zj (cs4 8 n s ka) 0 1 false=some (.int .i64 8) from rfl,show zj (cs4 8 n s ka) 1 1 false=some (.int .i64 n) from rfl,show zj (cs4 8 n s ka) 2 1 false=some (.str s) from rfl,show zj (cs4 8 n s ka) 3 1 false=some ka from rfl,zk,zr,Int.reduceBEq,show (!(([]:B)==[]))=false from rfl,zu,zE,Nat.zero_add,zi,zV,zp,i0,i1,e1,e2,e3,e4,decide_eq_false (show ¬(((13:Nat):Int)<(least:Int)) by omega),hfin]
 ·intro hpar A0 A4 b1 b' S' v0 vn e0 hch hfin a
  rw [hlev] at hpar
  obtain ⟨c1,A1,c2,A2,c3,A3,v1,v2,v3,e1,e2,e3,e4⟩:=hch
  rw [hE];refine jg _ _ _ _ _ _ _ _ _ _ ?_
  simp only [show decide (((11:Nat):Int)<((11:Nat):Int))=false from rfl,cond_false,cond_true,hp.nil,hp.add,bind_some,hp.rd hw,hp.rd v0,hp.rd v1,hp.rd v2,hp.rd v3,hp.rd vn,show zj (cs4 8 n s ka) 0 1 false=some (.int .i64 8) from rfl,show zj (cs4 8 n s ka) 1 1 false=some (.int .i64 n) from rfl,show zj (cs4 8 n s ka) 2 1 false=some (.str s) from rfl,show zj (cs4 8 n s ka) 3 1 false=some ka from rfl,zk,zr,Int.reduceBEq,show (!(([]:B)==[]))=false from rfl,zu,zE,Nat.zero_add,zi,zV,zp,i0,i1,e1,e2,e3,e4,e0,decide_eq_true (show ((13:Nat):Int)<(least:Int) by omega),hfin]
theorem BR {n:Int} {s:B} {k0:Ex} {p ka:AV} {rows:List (List AV)} (hp:Pt S0 q p (cs4 9 n s ka)) (hsl:Sl 4 ka rows) (hfl:jh 4 ka) (hks:ExRs [k0] rows) (least:Nat) (hle:least≤14) {b:B} {S:St} (hw:Wr S0 q b S) (hn9:1≤n∧n≤8) (h0:Jx S0 q k0) (hbl:b.length+9000*(1+k0.size)≤600000000) :
  ∃S',Wr S0 q (b++put (.mk 9 n s [k0]) least) S'∧cw 28 [.bp q 0,p,.int .i64 (least:Int)] S=some (.ret (.tup []),S')∧(put (.mk 9 n s [k0]) least).length≤8300*(1+k0.size):=by
 obtain ⟨r0,hr0,he0⟩:=hks.at 0 k0 rfl
 have i0:∀S,zt S 4 ka 0=some (.ip r0 0):=fun S=>hsl.at hr0
 have hbody:body 9 n s (puts [k0])=(calls.getD (n.toNat - 1) []++[40])++put k0 0++[41]:=by unfold body;rw [show qR 9=none by decide];simp [puts]
 have hlev:level 9=13:=by decide
 have hE:YQ 9=(13,[]):=by decide
 have z0:(put k0 0).length≤8300*k0.size:=(h0 (.ip r0 0) r0 (.inl rfl) he0 0 b S (by omega) hw (by omega)).choose_spec.2.2
 have hx1:=Hl (n.toNat - 1)
 refine qQ hS0 hq hp hfl (by omega) hw (sz:=(1+k0.size)) (fun A0 A3=>∃c1 A1 c2 A2,Wr S0 q c1 A1∧Wr S0 q c2 A2∧cw 57 [.bp q 0,.str (calls.getD (n.toNat - 1) []++[ofNat 40])] A0=some (.ret (.tup [.int .i64 (((calls.getD (n.toNat - 1) []++[40]):B).length:Int),.nili]),A1)∧cw 28 [.bp q 0,.ip r0 0,.int .i64 0] A1=some (.ret (.tup []),A2)∧cw 56 [.bp q 0,.int .u8 41] A2=some (.ret .nili,A3)) hbl (by rw [hbody];(try simp only [List.length_append,List.length_cons,List.length_nil]);omega) ?_ ?_ ?_
 ·intro A0 b1 v0 hb1
  obtain ⟨A1,v1,e1⟩:=QI hq v0 (calls.getD (n.toNat - 1) []++[40]) (by (try simp only [List.length_append,List.length_cons,List.length_nil] at *);omega)
  obtain ⟨A2,v2,e2,_⟩:=h0 (.ip r0 0) r0 (.inl rfl) he0 0 _ A1 (by omega) v1 (by (try simp only [List.length_append,List.length_cons,List.length_nil] at *);omega)
  obtain ⟨A3,v3,e3⟩:=Zy hq v2 (by (try simp only [List.length_append,List.length_cons,List.length_nil] at *);omega) 41
  exact ⟨A3,by rw [hbody];simpa only [List.append_assoc] using v3,_,A1,_,A2,v1,v2,e1,e2,e3⟩
 ·intro hpar A3 b' vn hch hfin a
  rw [hlev] at hpar
  obtain ⟨c1,A1,c2,A2,v1,v2,e1,e2,e3⟩:=hch
  have hcall:∀T:St,zt T 1 (.sl 1 (qw X.calls) 0 8 .no) (n.toNat - 1)=some (.ip [.str (X.calls.getD (n.toNat - 1) [])] 0):=fun T=>Sl.at ML (by show (X.calls.map _)[_]?=_;rw [List.getElem?_map,DJ hn9];rfl)
  have v0:=hw
  rw [hE];refine jg _ _ _ _ _ _ _ _ _ _ ?_
  simp only [show decide (((11:Nat):Int)<((11:Nat):Int))=false from rfl,cond_false,cond_true,hp.nil,hp.add,bind_some,hp.rd hw,hp.rd v1,hp.rd v2,hp.rd vn,show zj (cs4 9 n s ka) 0 1 false=some (.int .i64 9) from rfl,show zj (cs4 9 n s ka) 1 1 false=some (.int .i64 n) from rfl,show zj (cs4 9 n s ka) 2 1 false=some (.str s) from rfl,show zj (cs4 9 n s ka) 3 1 false=some ka from rfl,zk,zr,Int.reduceBEq,show (!(([]:B)==[]))=false from rfl,jz _ (v0.cl hS0 hq),show IntKind.i64.wrap (n - 1)=((n.toNat - 1:Nat):Int) by rw [i64_in _ (by omega)];omega,zO,hcall,Zx,show ∀x:AV,zj [x] 0 1 false=some x from fun _=>rfl,zu,zE,Nat.zero_add,zi,zV,LF (a:=X.calls.getD (n.toNat - 1) []) (b:=[ofNat 40]) (by simp only [List.length_cons,List.length_nil];omega),zp,i0,e1,e2,e3,decide_eq_false (show ¬(((13:Nat):Int)<(least:Int)) by omega),hp.ld hw,hp.ld v1]
  simp [rkA,List.range.loop,hp.ld hw,hp.ld v1,AV.beq_refl,e2,e3,zi,i0,hfin,hp.rd v1,zj]
 ·intro hpar A0 A3 b1 b' S' v0 vn e0 hch hfin a
  rw [hlev] at hpar
  obtain ⟨c1,A1,c2,A2,v1,v2,e1,e2,e3⟩:=hch
  have hcall:∀T:St,zt T 1 (.sl 1 (qw X.calls) 0 8 .no) (n.toNat - 1)=some (.ip [.str (X.calls.getD (n.toNat - 1) [])] 0):=fun T=>Sl.at ML (by show (X.calls.map _)[_]?=_;rw [List.getElem?_map,DJ hn9];rfl)
  rw [hE];refine jg _ _ _ _ _ _ _ _ _ _ ?_
  simp only [show decide (((11:Nat):Int)<((11:Nat):Int))=false from rfl,cond_false,cond_true,hp.nil,hp.add,bind_some,hp.rd hw,hp.rd v0,hp.rd v1,hp.rd v2,hp.rd vn,show zj (cs4 9 n s ka) 0 1 false=some (.int .i64 9) from rfl,show zj (cs4 9 n s ka) 1 1 false=some (.int .i64 n) from rfl,show zj (cs4 9 n s ka) 2 1 false=some (.str s) from rfl,show zj (cs4 9 n s ka) 3 1 false=some ka from rfl,zk,zr,Int.reduceBEq,show (!(([]:B)==[]))=false from rfl,jz _ (v0.cl hS0 hq),show IntKind.i64.wrap (n - 1)=((n.toNat - 1:Nat):Int) by rw [i64_in _ (by omega)];omega,zO,hcall,Zx,show ∀x:AV,zj [x] 0 1 false=some x from fun _=>rfl,zu,zE,Nat.zero_add,zi,zV,LF (a:=X.calls.getD (n.toNat - 1) []) (b:=[ofNat 40]) (by simp only [List.length_cons,List.length_nil];omega),zp,i0,e1,e2,e3,e0,decide_eq_true (show ((13:Nat):Int)<(least:Int) by omega)]
  simp [rkA,List.range.loop,hp.ld v0,hp.ld v1,AV.beq_refl,e2,e3,zi,i0,hp.rd v1,zj]
  exact hfin _
theorem IC {n:Int} {s:B} {p ka:AV} {rows:List (List AV)} (hp:Pt S0 q p (cs4 4 n s ka)) (hsl:Sl 4 ka rows) (hfl:jh 4 ka) (hks:ExRs [] rows) (least:Nat) (hle:least≤14) {b:B} {S:St} (hw:Wr S0 q b S) (hn4:0≤n∧n≤9223372036854775807)  (hbl:b.length+9000*(1)≤600000000) :
  ∃S',Wr S0 q (b++put (.mk 4 n s []) least) S'∧cw 28 [.bp q 0,p,.int .i64 (least:Int)] S=some (.ret (.tup []),S')∧(put (.mk 4 n s []) least).length≤8300*(1):=by
 have hbody:body 4 n s (puts [])=(digits n.toNat):=by unfold body;rw [show qR 4=none by decide];simp [puts]
 have hlev:level 4=13:=by decide
 have hE:YQ 4=(13,[]):=by decide
 have hx1:=NM n.toNat
 refine qQ hS0 hq hp hfl (by omega) hw (sz:=(1)) (fun A0 A1=>cw 57 [.bp q 0,.str (digits n.toNat)] A0=some (.ret (.tup [.int .i64 (((digits n.toNat):B).length:Int),.nili]),A1)) hbl (by rw [hbody];(try simp only [List.length_append,List.length_cons,List.length_nil]);omega) ?_ ?_ ?_
 ·intro A0 b1 v0 hb1
  obtain ⟨A1,v1,e1⟩:=QI hq v0 (digits n.toNat) (by (try simp only [List.length_append,List.length_cons,List.length_nil] at *);omega)
  exact ⟨A1,by rw [hbody];simpa only [List.append_assoc] using v1,e1⟩
 ·intro hpar A1 b' vn hch hfin a
  rw [hlev] at hpar
  have e1:=hch
  rw [hE];refine jg _ _ _ _ _ _ _ _ _ _ ?_
  simp only [show decide (((11:Nat):Int)<((11:Nat):Int))=false from rfl,cond_false,cond_true,hp.nil,hp.add,bind_some,hp.rd hw,hp.rd vn,show zj (cs4 4 n s ka) 0 1 false=some (.int .i64 4) from rfl,show zj (cs4 4 n s ka) 1 1 false=some (.int .i64 n) from rfl,show zj (cs4 4 n s ka) 2 1 false=some (.str s) from rfl,show zj (cs4 4 n s ka) 3 1 false=some ka from rfl,zk,zr,Int.reduceBEq,show (!(([]:B)==[]))=false from rfl,UB _ n hn4.1 hn4.2,zu,zE,Nat.zero_add,zi,zV,zp,e1,decide_eq_false (show ¬(((13:Nat):Int)<(least:Int)) by omega),hfin]
 ·intro hpar A0 A1 b1 b' S' v0 vn e0 hch hfin a
  rw [hlev] at hpar
  have e1:=hch
  rw [hE];refine jg _ _ _ _ _ _ _ _ _ _ ?_
  simp only [show decide (((11:Nat):Int)<((11:Nat):Int))=false from rfl,cond_false,cond_true,hp.nil,hp.add,bind_some,hp.rd hw,hp.rd v0,hp.rd vn,show zj (cs4 4 n s ka) 0 1 false=some (.int .i64 4) from rfl,show zj (cs4 4 n s ka) 1 1 false=some (.int .i64 n) from rfl,show zj (cs4 4 n s ka) 2 1 false=some (.str s) from rfl,show zj (cs4 4 n s ka) 3 1 false=some ka from rfl,zk,zr,Int.reduceBEq,show (!(([]:B)==[]))=false from rfl,UB _ n hn4.1 hn4.2,zu,zE,Nat.zero_add,zi,zV,zp,e1,e0,decide_eq_true (show ((13:Nat):Int)<(least:Int) by omega),hfin]
theorem CD {n:Int} {s:B} {p ka:AV} {rows:List (List AV)} (hp:Pt S0 q p (cs4 5 n s ka)) (hsl:Sl 4 ka rows) (hfl:jh 4 ka) (hks:ExRs [] rows) (least:Nat) (hle:least≤14) {b:B} {S:St} (hw:Wr S0 q b S) (hs5:s.length≤4096)  (hbl:b.length+9000*(1)≤600000000) :
  ∃S',Wr S0 q (b++put (.mk 5 n s []) least) S'∧cw 28 [.bp q 0,p,.int .i64 (least:Int)] S=some (.ret (.tup []),S')∧(put (.mk 5 n s []) least).length≤8300*(1):=by
 have hbody:body 5 n s (puts [])=X.quoted s:=by unfold body;rw [show qR 5=none by decide];simp [puts]
 have hlev:level 5=13:=by decide
 have hE:YQ 5=(13,[]):=by decide
 have hx1:=NG s
 refine qQ hS0 hq hp hfl (by omega) hw (sz:=(1)) (fun A0 A1=>cw 59 [.bp q 0,.str s] A0=some (.ret (.tup []),A1)) hbl (by rw [hbody];(try simp only [List.length_append,List.length_cons,List.length_nil]);omega) ?_ ?_ ?_
 ·intro A0 b1 v0 hb1
  obtain ⟨A1,v1,e1⟩:=FO hq v0 s (by omega) (by omega)
  exact ⟨A1,by rw [hbody];simpa only [List.append_assoc] using v1,e1⟩
 ·intro hpar A1 b' vn hch hfin a
  rw [hlev] at hpar
  have e1:=hch
  rw [hE];refine jg _ _ _ _ _ _ _ _ _ _ ?_
  simp only [show decide (((11:Nat):Int)<((11:Nat):Int))=false from rfl,cond_false,cond_true,hp.nil,hp.add,bind_some,hp.rd hw,hp.rd vn,show zj (cs4 5 n s ka) 0 1 false=some (.int .i64 5) from rfl,show zj (cs4 5 n s ka) 1 1 false=some (.int .i64 n) from rfl,show zj (cs4 5 n s ka) 2 1 false=some (.str s) from rfl,show zj (cs4 5 n s ka) 3 1 false=some ka from rfl,zk,zr,Int.reduceBEq,show (!(([]:B)==[]))=false from rfl,zu,zE,Nat.zero_add,zi,zV,zp,e1,decide_eq_false (show ¬(((13:Nat):Int)<(least:Int)) by omega),hfin]
 ·intro hpar A0 A1 b1 b' S' v0 vn e0 hch hfin a
  rw [hlev] at hpar
  have e1:=hch
  rw [hE];refine jg _ _ _ _ _ _ _ _ _ _ ?_
  simp only [show decide (((11:Nat):Int)<((11:Nat):Int))=false from rfl,cond_false,cond_true,hp.nil,hp.add,bind_some,hp.rd hw,hp.rd v0,hp.rd vn,show zj (cs4 5 n s ka) 0 1 false=some (.int .i64 5) from rfl,show zj (cs4 5 n s ka) 1 1 false=some (.int .i64 n) from rfl,show zj (cs4 5 n s ka) 2 1 false=some (.str s) from rfl,show zj (cs4 5 n s ka) 3 1 false=some ka from rfl,zk,zr,Int.reduceBEq,show (!(([]:B)==[]))=false from rfl,zu,zE,Nat.zero_add,zi,zV,zp,e1,e0,decide_eq_true (show ((13:Nat):Int)<(least:Int) by omega),hfin]
theorem Ix {n:Int} {s:B} {p ka:AV} {rows:List (List AV)} (hp:Pt S0 q p (cs4 6 n s ka)) (hsl:Sl 4 ka rows) (hfl:jh 4 ka) (hks:ExRs [] rows) (least:Nat) (hle:least≤14) {b:B} {S:St} (hw:Wr S0 q b S) (hs6:s.length≤4096)  (hbl:b.length+9000*(1)≤600000000) :
  ∃S',Wr S0 q (b++put (.mk 6 n s []) least) S'∧cw 28 [.bp q 0,p,.int .i64 (least:Int)] S=some (.ret (.tup []),S')∧(put (.mk 6 n s []) least).length≤8300*(1):=by
 have hbody:body 6 n s (puts [])=s:=by unfold body;rw [show qR 6=none by decide];simp [puts]
 have hlev:level 6=13:=by decide
 have hE:YQ 6=(13,[]):=by decide
 refine qQ hS0 hq hp hfl (by omega) hw (sz:=(1)) (fun A0 A1=>cw 57 [.bp q 0,.str s] A0=some (.ret (.tup [.int .i64 ((s:B).length:Int),.nili]),A1)) hbl (by rw [hbody];(try simp only [List.length_append,List.length_cons,List.length_nil]);omega) ?_ ?_ ?_
 ·intro A0 b1 v0 hb1
  obtain ⟨A1,v1,e1⟩:=QI hq v0 s (by (try simp only [List.length_append,List.length_cons,List.length_nil] at *);omega)
  exact ⟨A1,by rw [hbody];simpa only [List.append_assoc] using v1,e1⟩
 ·intro hpar A1 b' vn hch hfin a
  rw [hlev] at hpar
  have e1:=hch
  rw [hE];refine jg _ _ _ _ _ _ _ _ _ _ ?_
  simp only [show decide (((11:Nat):Int)<((11:Nat):Int))=false from rfl,cond_false,cond_true,hp.nil,hp.add,bind_some,hp.rd hw,hp.rd vn,show zj (cs4 6 n s ka) 0 1 false=some (.int .i64 6) from rfl,show zj (cs4 6 n s ka) 1 1 false=some (.int .i64 n) from rfl,show zj (cs4 6 n s ka) 2 1 false=some (.str s) from rfl,show zj (cs4 6 n s ka) 3 1 false=some ka from rfl,zk,zr,Int.reduceBEq,show (!(([]:B)==[]))=false from rfl,zu,zE,Nat.zero_add,zi,zV,zp,e1,decide_eq_false (show ¬(((13:Nat):Int)<(least:Int)) by omega),hfin]
 ·intro hpar A0 A1 b1 b' S' v0 vn e0 hch hfin a
  rw [hlev] at hpar
  have e1:=hch
  rw [hE];refine jg _ _ _ _ _ _ _ _ _ _ ?_
  simp only [show decide (((11:Nat):Int)<((11:Nat):Int))=false from rfl,cond_false,cond_true,hp.nil,hp.add,bind_some,hp.rd hw,hp.rd v0,hp.rd vn,show zj (cs4 6 n s ka) 0 1 false=some (.int .i64 6) from rfl,show zj (cs4 6 n s ka) 1 1 false=some (.int .i64 n) from rfl,show zj (cs4 6 n s ka) 2 1 false=some (.str s) from rfl,show zj (cs4 6 n s ka) 3 1 false=some ka from rfl,zk,zr,Int.reduceBEq,show (!(([]:B)==[]))=false from rfl,zu,zE,Nat.zero_add,zi,zV,zp,e1,e0,decide_eq_true (show ((13:Nat):Int)<(least:Int) by omega),hfin]
theorem Bw {n:Int} {s:B} {p ka:AV} {rows:List (List AV)} (hp:Pt S0 q p (cs4 1 n s ka)) (hsl:Sl 4 ka rows) (hfl:jh 4 ka) (hks:ExRs [] rows) (least:Nat) (hle:least≤14) {b:B} {S:St} (hw:Wr S0 q b S)   (hbl:b.length+9000*(1)≤600000000) :
  ∃S',Wr S0 q (b++put (.mk 1 n s []) least) S'∧cw 28 [.bp q 0,p,.int .i64 (least:Int)] S=some (.ret (.tup []),S')∧(put (.mk 1 n s []) least).length≤8300*(1):=by
 have hbody:body 1 n s (puts [])=[110,117,108,108]:=by unfold body;rw [show qR 1=none by decide];simp [puts]
 have hlev:level 1=13:=by decide
 have hE:YQ 1=(13,[]):=by decide
 refine qQ hS0 hq hp hfl (by omega) hw (sz:=(1)) (fun A0 A1=>cw 57 [.bp q 0,.str [ofNat 110,ofNat 117,ofNat 108,ofNat 108]] A0=some (.ret (.tup [.int .i64 (([110,117,108,108]:B).length:Int),.nili]),A1)) hbl (by rw [hbody];(try simp only [List.length_append,List.length_cons,List.length_nil]);omega) ?_ ?_ ?_
 ·intro A0 b1 v0 hb1
  obtain ⟨A1,v1,e1⟩:=QI hq v0 [110,117,108,108] (by (try simp only [List.length_append,List.length_cons,List.length_nil] at *);omega)
  exact ⟨A1,by rw [hbody];simpa only [List.append_assoc] using v1,e1⟩
 ·intro hpar A1 b' vn hch hfin a
  rw [hlev] at hpar
  have e1:=hch
  rw [hE];refine jg _ _ _ _ _ _ _ _ _ _ ?_
  simp only [show decide (((11:Nat):Int)<((11:Nat):Int))=false from rfl,cond_false,cond_true,hp.nil,hp.add,bind_some,hp.rd hw,hp.rd vn,show zj (cs4 1 n s ka) 0 1 false=some (.int .i64 1) from rfl,show zj (cs4 1 n s ka) 1 1 false=some (.int .i64 n) from rfl,show zj (cs4 1 n s ka) 2 1 false=some (.str s) from rfl,show zj (cs4 1 n s ka) 3 1 false=some ka from rfl,zk,zr,Int.reduceBEq,show (!(([]:B)==[]))=false from rfl,zu,zE,Nat.zero_add,zi,zV,zp,e1,decide_eq_false (show ¬(((13:Nat):Int)<(least:Int)) by omega),hfin]
 ·intro hpar A0 A1 b1 b' S' v0 vn e0 hch hfin a
  rw [hlev] at hpar
  have e1:=hch
  rw [hE];refine jg _ _ _ _ _ _ _ _ _ _ ?_
  simp only [show decide (((11:Nat):Int)<((11:Nat):Int))=false from rfl,cond_false,cond_true,hp.nil,hp.add,bind_some,hp.rd hw,hp.rd v0,hp.rd vn,show zj (cs4 1 n s ka) 0 1 false=some (.int .i64 1) from rfl,show zj (cs4 1 n s ka) 1 1 false=some (.int .i64 n) from rfl,show zj (cs4 1 n s ka) 2 1 false=some (.str s) from rfl,show zj (cs4 1 n s ka) 3 1 false=some ka from rfl,zk,zr,Int.reduceBEq,show (!(([]:B)==[]))=false from rfl,zu,zE,Nat.zero_add,zi,zV,zp,e1,e0,decide_eq_true (show ((13:Nat):Int)<(least:Int) by omega),hfin]
theorem EH {n:Int} {s:B} {p ka:AV} {rows:List (List AV)} (hp:Pt S0 q p (cs4 2 n s ka)) (hsl:Sl 4 ka rows) (hfl:jh 4 ka) (hks:ExRs [] rows) (least:Nat) (hle:least≤14) {b:B} {S:St} (hw:Wr S0 q b S)   (hbl:b.length+9000*(1)≤600000000) :
  ∃S',Wr S0 q (b++put (.mk 2 n s []) least) S'∧cw 28 [.bp q 0,p,.int .i64 (least:Int)] S=some (.ret (.tup []),S')∧(put (.mk 2 n s []) least).length≤8300*(1):=by
 have hbody:body 2 n s (puts [])=[102,97,108,115,101]:=by unfold body;rw [show qR 2=none by decide];simp [puts]
 have hlev:level 2=13:=by decide
 have hE:YQ 2=(13,[]):=by decide
 refine qQ hS0 hq hp hfl (by omega) hw (sz:=(1)) (fun A0 A1=>cw 57 [.bp q 0,.str [ofNat 102,ofNat 97,ofNat 108,ofNat 115,ofNat 101]] A0=some (.ret (.tup [.int .i64 (([102,97,108,115,101]:B).length:Int),.nili]),A1)) hbl (by rw [hbody];(try simp only [List.length_append,List.length_cons,List.length_nil]);omega) ?_ ?_ ?_
 ·intro A0 b1 v0 hb1
  obtain ⟨A1,v1,e1⟩:=QI hq v0 [102,97,108,115,101] (by (try simp only [List.length_append,List.length_cons,List.length_nil] at *);omega)
  exact ⟨A1,by rw [hbody];simpa only [List.append_assoc] using v1,e1⟩
 ·intro hpar A1 b' vn hch hfin a
  rw [hlev] at hpar
  have e1:=hch
  rw [hE];refine jg _ _ _ _ _ _ _ _ _ _ ?_
  simp only [show decide (((11:Nat):Int)<((11:Nat):Int))=false from rfl,cond_false,cond_true,hp.nil,hp.add,bind_some,hp.rd hw,hp.rd vn,show zj (cs4 2 n s ka) 0 1 false=some (.int .i64 2) from rfl,show zj (cs4 2 n s ka) 1 1 false=some (.int .i64 n) from rfl,show zj (cs4 2 n s ka) 2 1 false=some (.str s) from rfl,show zj (cs4 2 n s ka) 3 1 false=some ka from rfl,zk,zr,Int.reduceBEq,show (!(([]:B)==[]))=false from rfl,zu,zE,Nat.zero_add,zi,zV,zp,e1,decide_eq_false (show ¬(((13:Nat):Int)<(least:Int)) by omega),hfin]
 ·intro hpar A0 A1 b1 b' S' v0 vn e0 hch hfin a
  rw [hlev] at hpar
  have e1:=hch
  rw [hE];refine jg _ _ _ _ _ _ _ _ _ _ ?_
  simp only [show decide (((11:Nat):Int)<((11:Nat):Int))=false from rfl,cond_false,cond_true,hp.nil,hp.add,bind_some,hp.rd hw,hp.rd v0,hp.rd vn,show zj (cs4 2 n s ka) 0 1 false=some (.int .i64 2) from rfl,show zj (cs4 2 n s ka) 1 1 false=some (.int .i64 n) from rfl,show zj (cs4 2 n s ka) 2 1 false=some (.str s) from rfl,show zj (cs4 2 n s ka) 3 1 false=some ka from rfl,zk,zr,Int.reduceBEq,show (!(([]:B)==[]))=false from rfl,zu,zE,Nat.zero_add,zi,zV,zp,e1,e0,decide_eq_true (show ((13:Nat):Int)<(least:Int) by omega),hfin]
theorem Hd {n:Int} {s:B} {p ka:AV} {rows:List (List AV)} (hp:Pt S0 q p (cs4 3 n s ka)) (hsl:Sl 4 ka rows) (hfl:jh 4 ka) (hks:ExRs [] rows) (least:Nat) (hle:least≤14) {b:B} {S:St} (hw:Wr S0 q b S)   (hbl:b.length+9000*(1)≤600000000) :
  ∃S',Wr S0 q (b++put (.mk 3 n s []) least) S'∧cw 28 [.bp q 0,p,.int .i64 (least:Int)] S=some (.ret (.tup []),S')∧(put (.mk 3 n s []) least).length≤8300*(1):=by
 have hbody:body 3 n s (puts [])=[116,114,117,101]:=by unfold body;rw [show qR 3=none by decide];simp [puts]
 have hlev:level 3=13:=by decide
 have hE:YQ 3=(13,[]):=by decide
 refine qQ hS0 hq hp hfl (by omega) hw (sz:=(1)) (fun A0 A1=>cw 57 [.bp q 0,.str [ofNat 116,ofNat 114,ofNat 117,ofNat 101]] A0=some (.ret (.tup [.int .i64 (([116,114,117,101]:B).length:Int),.nili]),A1)) hbl (by rw [hbody];(try simp only [List.length_append,List.length_cons,List.length_nil]);omega) ?_ ?_ ?_
 ·intro A0 b1 v0 hb1
  obtain ⟨A1,v1,e1⟩:=QI hq v0 [116,114,117,101] (by (try simp only [List.length_append,List.length_cons,List.length_nil] at *);omega)
  exact ⟨A1,by rw [hbody];simpa only [List.append_assoc] using v1,e1⟩
 ·intro hpar A1 b' vn hch hfin a
  rw [hlev] at hpar
  have e1:=hch
  rw [hE];refine jg _ _ _ _ _ _ _ _ _ _ ?_
  simp only [show decide (((11:Nat):Int)<((11:Nat):Int))=false from rfl,cond_false,cond_true,hp.nil,hp.add,bind_some,hp.rd hw,hp.rd vn,show zj (cs4 3 n s ka) 0 1 false=some (.int .i64 3) from rfl,show zj (cs4 3 n s ka) 1 1 false=some (.int .i64 n) from rfl,show zj (cs4 3 n s ka) 2 1 false=some (.str s) from rfl,show zj (cs4 3 n s ka) 3 1 false=some ka from rfl,zk,zr,Int.reduceBEq,show (!(([]:B)==[]))=false from rfl,zu,zE,Nat.zero_add,zi,zV,zp,e1,decide_eq_false (show ¬(((13:Nat):Int)<(least:Int)) by omega),hfin]
 ·intro hpar A0 A1 b1 b' S' v0 vn e0 hch hfin a
  rw [hlev] at hpar
  have e1:=hch
  rw [hE];refine jg _ _ _ _ _ _ _ _ _ _ ?_
  simp only [show decide (((11:Nat):Int)<((11:Nat):Int))=false from rfl,cond_false,cond_true,hp.nil,hp.add,bind_some,hp.rd hw,hp.rd v0,hp.rd vn,show zj (cs4 3 n s ka) 0 1 false=some (.int .i64 3) from rfl,show zj (cs4 3 n s ka) 1 1 false=some (.int .i64 n) from rfl,show zj (cs4 3 n s ka) 2 1 false=some (.str s) from rfl,show zj (cs4 3 n s ka) 3 1 false=some ka from rfl,zk,zr,Int.reduceBEq,show (!(([]:B)==[]))=false from rfl,zu,zE,Nat.zero_add,zi,zV,zp,e1,e0,decide_eq_true (show ((13:Nat):Int)<(least:Int) by omega),hfin]
end
end Go.Abs
namespace Go.Abs
open Go Go.Proofs Go.IntWalk Go.Abs.X
mutual
def inR:Ex→Bool
 | .mk _ n _ ks=>decide (n≤9223372036854775807)&&inRs ks
termination_by structural x=>x
def inRs:List Ex→Bool
 |[]=>true
 |e::r=>inR e&&inRs r
termination_by structural x=>x
end
theorem Ej {op:Int} {k:Nat} (h:zZ op=(k:Int)):1≤op∧op≤31 ∧
  ((op=31∧k=3)∨(op=10∧k=1)∨(op=11∧k=1)∨(op=7∧k=1)∨(op=8∧k=2)∨(op=9∧k=1)∨(op=4∧k=0)∨(op=5∧k=0)∨(op=6∧k=0)∨(op=1∧k=0)∨(op=2∧k=0)∨(op=3∧k=0)∨(12≤op∧op≤30∧k=2)):=by
 unfold zZ at h
 by_cases c0:1≤op∧op≤6
 ·rw [if_pos c0] at h
  have hk:k=0:=by omega
  subst hk
  refine ⟨c0.1,by omega,?_⟩
  have h6:op=1∨op=2∨op=3∨op=4∨op=5∨op=6:=by omega
  rcases h6 with rfl | rfl | rfl | rfl | rfl | rfl<;>decide
 ·rw [if_neg c0] at h
  by_cases c1:op=7∨op=9∨op=10∨op=11
  ·rw [if_pos c1] at h
   have hk:k=1:=by omega
   subst hk
   rcases c1 with rfl | rfl | rfl | rfl<;>decide
  ·rw [if_neg c1] at h
   by_cases c2:op=31
   ·rw [if_pos c2] at h
    have hk:k=3:=by omega
    subst hk;subst c2
    decide
   ·rw [if_neg c2] at h
    by_cases c3:op=8∨12≤op∧op≤30
    ·rw [if_pos c3] at h
     have hk:k=2:=by omega
     subst hk
     rcases c3 with rfl | c3
     ·decide
     ·exact ⟨by omega,by omega,.inr (.inr (.inr (.inr (.inr (.inr (.inr (.inr (.inr (.inr (.inr (.inr ⟨c3.1,c3.2,rfl⟩)))))))))))⟩
    ·rw [if_neg c3] at h;omega
theorem Wh {s:B} (h:qf s=true):s.length≤32:=by
 unfold qf at h
 split at h
 ·cases h
 ·simp at h;simp;omega
theorem Nc {s:B} (h:Ju s=true):s.length≤4096:=by
 simp [Ju,XG] at h;exact h.1.2
section
variable {S0:St} {q:Nat} (hS0:Cl S0) (hq:q+1<S0.length)
include hS0 hq
mutual
theorem KX (e:Ex) (h1:Ex.all e=true) (h2:inR e=true):Jx S0 q e:=by
 match e with
 | .mk op n s kids =>
  simp only [Ex.all,Bool.and_eq_true] at h1
  simp only [inR,Bool.and_eq_true,decide_eq_true_eq] at h2
  obtain ⟨ha,hk⟩:=h1
  have hks:=puts_all kids hk h2.2
  simp only [qo,Bool.and_eq_true,beq_iff_eq] at ha
  obtain ⟨hko,ha⟩:=ha
  intro p cs hp he least b S hle hw hbl
  obtain ⟨ka,rows,rfl,hsl,hfl,hrs⟩:=he
  obtain ⟨o1,o2,hcase⟩:=Ej hko
  have hsz:(Ex.mk op n s kids).size=1+Ex.sizes kids:=by simp only [Ex.size]
  rw [hsz] at hbl ⊢
  rcases hcase with ⟨rfl,hl⟩ | ⟨rfl,hl⟩ | ⟨rfl,hl⟩ | ⟨rfl,hl⟩ | ⟨rfl,hl⟩ | ⟨rfl,hl⟩ | ⟨rfl,hl⟩ | ⟨rfl,hl⟩ | ⟨rfl,hl⟩ | ⟨rfl,hl⟩ | ⟨rfl,hl⟩ | ⟨rfl,hl⟩ | ⟨g1,g2,hl⟩
  ·match kids,hl with
   |[k0,k1,k2],_ =>
    have:=zal hS0 hq hp hsl hfl hrs least hle hw (hks _ (by simp)) (hks _ (by simp)) (hks _ (by simp)) (by simp only [Ex.sizes] at hbl;omega)
    simpa only [Ex.sizes,Nat.add_zero,Nat.add_assoc] using this
  ·match kids,hl with
   |[k0],_ =>
    have:=IG hS0 hq hp hsl hfl hrs least hle hw (hks _ (by simp)) (by simp only [Ex.sizes] at hbl;omega)
    simpa only [Ex.sizes,Nat.add_zero,Nat.add_assoc] using this
  ·match kids,hl with
   |[k0],_ =>
    have:=Ij hS0 hq hp hsl hfl hrs least hle hw (hks _ (by simp)) (by simp only [Ex.sizes] at hbl;omega)
    simpa only [Ex.sizes,Nat.add_zero,Nat.add_assoc] using this
  ·match kids,hl with
   |[k0],_ =>
    have hnm:qf s=true:=by simp at ha;exact ha.2
    have:=Wh hnm
    have:=EI hS0 hq hp hsl hfl hrs least hle hw (by omega) (hks _ (by simp)) (by simp only [Ex.sizes] at hbl;omega)
    simpa only [Ex.sizes,Nat.add_zero,Nat.add_assoc] using this
  ·match kids,hl with
   |[k0,k1],_ =>
    have:=Bf hS0 hq hp hsl hfl hrs least hle hw (hks _ (by simp)) (hks _ (by simp)) (by simp only [Ex.sizes] at hbl;omega)
    simpa only [Ex.sizes,Nat.add_zero,Nat.add_assoc] using this
  ·match kids,hl with
   |[k0],_ =>
    have hn9:1≤n∧n≤8:=by simp at ha;exact ha.1
    have:=BR hS0 hq hp hsl hfl hrs least hle hw hn9 (hks _ (by simp)) (by simp only [Ex.sizes] at hbl;omega)
    simpa only [Ex.sizes,Nat.add_zero,Nat.add_assoc] using this
  ·match kids,hl with
   |[],_ =>
    have hn4:0≤n:=by simp at ha;exact ha.1
    have:=IC hS0 hq hp hsl hfl hrs least hle hw ⟨hn4,h2.1⟩ (by simp only [Ex.sizes] at hbl;omega)
    simpa only [Ex.sizes,Nat.add_zero,Nat.add_assoc] using this
  ·match kids,hl with
   |[],_ =>
    have hsd:Ju s=true:=by simp at ha;exact ha.2
    have:=CD hS0 hq hp hsl hfl hrs least hle hw (Nc hsd) (by simp only [Ex.sizes] at hbl;omega)
    simpa only [Ex.sizes,Nat.add_zero,Nat.add_assoc] using this
  ·match kids,hl with
   |[],_ =>
    have hnm:qf s=true:=by simp at ha;exact ha.1.2
    have:=Wh hnm
    have:=Ix hS0 hq hp hsl hfl hrs least hle hw (by omega) (by simp only [Ex.sizes] at hbl;omega)
    simpa only [Ex.sizes,Nat.add_zero,Nat.add_assoc] using this
  ·match kids,hl with
   |[],_ =>
    have:=Bw hS0 hq hp hsl hfl hrs least hle hw (by simp only [Ex.sizes] at hbl;omega)
    simpa only [Ex.sizes,Nat.add_zero,Nat.add_assoc] using this
  ·match kids,hl with
   |[],_ =>
    have:=EH hS0 hq hp hsl hfl hrs least hle hw (by simp only [Ex.sizes] at hbl;omega)
    simpa only [Ex.sizes,Nat.add_zero,Nat.add_assoc] using this
  ·match kids,hl with
   |[],_ =>
    have:=Hd hS0 hq hp hsl hfl hrs least hle hw (by simp only [Ex.sizes] at hbl;omega)
    simpa only [Ex.sizes,Nat.add_zero,Nat.add_assoc] using this
  ·match kids,hl with
   |[k0,k1],_ =>
    have hbb:=Fz ⟨op.toNat,by omega⟩ (by show 12≤op.toNat;omega) (by show op.toNat≤30;omega)
    have ho':((op.toNat:Nat):Int)=op:=by omega
    simp only [ho'] at hbb
    cases hb:qR op with
    |none=>rw [hb] at hbb;cases hbb
    |some x =>
     obtain ⟨m,l⟩:=x
     rw [hb] at hbb
     simp only [Bool.and_eq_true,decide_eq_true_eq,Bool.not_eq_true',List.isEmpty_eq_false_iff] at hbb
     have:=HG hS0 hq hp hsl hfl hrs least hle hw hb hbb.1.1.1 hbb.1.1.2 hbb.1.2 hbb.2 ⟨o1,o2⟩ (by omega) (by omega) (by omega) (hks _ (by simp)) (hks _ (by simp)) (by simp only [Ex.sizes] at hbl;omega)
     simpa only [Ex.sizes,Nat.add_zero,Nat.add_assoc] using this
termination_by structural e
theorem puts_all (es:List Ex) (h1:Ex.alls es=true) (h2:inRs es=true):∀e ∈ es,Jx S0 q e:=by
 match es with
 |[]=>intro e he;simp at he
 |x::r =>
  simp only [Ex.alls,Bool.and_eq_true] at h1
  simp only [inRs,Bool.and_eq_true] at h2
  have g1:=KX x h1.1 h2.1
  have g2:=puts_all r h1.2 h2.2
  intro e he
  rcases List.mem_cons.1 he with rfl | he
  ·exact g1
  ·exact g2 e he
termination_by structural es
end
end
end Go.Abs
namespace Go.Abs
open Go Go.Proofs Go.IntWalk Go.Abs.X
def jG (op n:Int) (s:B):Bool :=
 if op=4 then decide (0≤n)&&s.isEmpty
 else if op=5 then n==0&&Ju s
 else if op=6 then n==0&&qf s&&qy s==0
 else if op=7 then n==0&&qf s
 else if op=9 then decide (1≤n)&&decide (n≤8)&&s.isEmpty
 else n==0&&s.isEmpty
mutual
def vis:Ex→Nat→Bool×Nat
 | .mk op n s ks,c=>if c+1>512∨zZ op≠(ks.length:Int) then (false,c+1) else viss ks (jG op n s) (c+1)
termination_by structural x=>x
def viss:List Ex→Bool→Nat→Bool×Nat
 |[],f,c=>(f,c)
 |e::r,f,c=>if f then viss r (vis e c).1 (vis e c).2 else (false,c)
termination_by structural x=>x
end
def jN (s:B) (ks:List Ex):Bool:=decide (s.length<1000000000)&&decide (ks.length<1000000000)
mutual
def Zr:Ex→Bool
 | .mk _ _ s ks=>jN s ks&&sanes ks
termination_by structural x=>x
def sanes:List Ex→Bool
 |[]=>true
 |e::r=>Zr e&&sanes r
termination_by structural x=>x
end
theorem JM (es:List Ex) (c:Nat):viss es false c=(false,c):=by cases es<;>rfl
mutual
theorem NL (e:Ex) (c:Nat) (hc:c≤512):((vis e c).1=true↔Ex.all e=true∧c+e.size≤512)∧((vis e c).1=true→(vis e c).2=c+e.size)∧(vis e c).2≤513∧((vis e c).1=true→(vis e c).2≤512):=by
 match e with
 | .mk op n s ks =>
  simp only [vis,Ex.all,Ex.size]
  by_cases h:c+1>512∨zZ op≠(ks.length:Int)
  ·rw [if_pos h]
   refine ⟨⟨(fun h=>by cases h),fun ⟨h1,h2⟩=>?_⟩,(fun h=>by cases h),by show c+1≤513;omega,(fun h=>by cases h)⟩
   rcases h with h | h
   ·omega
   ·exfalso
    simp only [qo,Bool.and_eq_true,beq_iff_eq] at h1
    exact h h1.1.1
  ·rw [if_neg h]
   obtain ⟨h1,h2,h3,h4⟩:=viss_is ks (jG op n s) (c+1) (by omega)
   have ha:qo op n s ks.length=jG op n s:=by
    have:zZ op=(ks.length:Int):=Classical.byContradiction fun hn=>h (.inr hn)
    simp only [qo,this,beq_self_eq_true,Bool.true_and,jG]
   rw [Bool.and_eq_true,ha]
   refine ⟨?_,fun h=>by rw [h2 h];omega,h3,h4⟩
   rw [h1]
   constructor
   ·rintro ⟨g1,g2,g3⟩;exact ⟨⟨g1,g2⟩,by omega⟩
   ·rintro ⟨⟨g1,g2⟩,g3⟩;exact ⟨g1,g2,by omega⟩
termination_by structural e
theorem viss_is (es:List Ex) (f:Bool) (c:Nat) (hc:c≤512):((viss es f c).1=true↔f=true∧Ex.alls es=true∧c+Ex.sizes es≤512)∧((viss es f c).1=true→(viss es f c).2=c+Ex.sizes es)∧(viss es f c).2≤513∧((viss es f c).1=true→(viss es f c).2≤512):=by
 match es with
 |[] =>
  simp only [viss,Ex.alls,Ex.sizes]
  exact ⟨⟨fun h=>⟨h,trivial,by omega⟩,fun h=>h.1⟩,fun _=>by omega,by omega,fun _=>hc⟩
 |e::r =>
  cases f with
  |false=>rw [JM];exact ⟨⟨(fun h=>by cases h),(fun h=>by cases h.1)⟩,(fun h=>by cases h),by show c≤513;omega,(fun h=>by cases h)⟩
  |true =>
   obtain ⟨h1,h2,h3,h4⟩:=NL e c hc
   simp only [viss,if_true,Ex.alls,Ex.sizes]
   cases hb:(vis e c).1 with
   |false =>
    rw [JM]
    refine ⟨⟨(fun h=>by cases h),fun ⟨_,g1,g2⟩=>?_⟩,(fun h=>by cases h),h3,(fun h=>by cases h)⟩
    rw [Bool.and_eq_true] at g1
    have:=h1.2 ⟨g1.1,by omega⟩
    rw [hb] at this;cases this
   |true =>
    obtain ⟨k1,k2,k3,k4⟩:=viss_is r true (vis e c).2 (h4 hb)
    have h5:=h2 hb
    have h6:=h1.1 hb
    refine ⟨?_,fun h=>by rw [k2 h,h5];omega,k3,k4⟩
    rw [k1,h5,Bool.and_eq_true]
    constructor
    ·rintro ⟨_,g1,g2⟩;exact ⟨trivial,⟨h6.1,g1⟩,by omega⟩
    ·rintro ⟨_,⟨g0,g1⟩,g2⟩;exact ⟨rfl,g1,by omega⟩
termination_by structural es
end
theorem Ii (e:Ex):(vis e 0).1=may e:=by
 have:=(NL e 0 (by omega)).1
 unfold may
 cases h:(vis e 0).1 with
 |true=>have:=this.1 h;simp [this.1];omega
 |false =>
  symm
  rw [Bool.and_eq_false_iff]
  by_cases ha:Ex.all e=true
  ·right
   rw [decide_eq_false_iff_not]
   intro hs
   have:=this.2 ⟨ha,by omega⟩
   rw [h] at this;cases this
  ·left;simpa using ha
end Go.Abs
namespace Go.Abs
open Go Go.Proofs Go.IntWalk Go.Abs.X
structure Fm (m r c f:Nat) (S:St) (k:Int):Prop where
 most:S.get m=some (NB 512)
 res:S.get r=some (.box 4 [.bool false])
 cnt:S.get c=some (NB k)
 fn:S.get f=some (.box 86 [.fn 49 [.bp c 0,.bp m 0,.bp r 0,.bp f 0]])
 ne:m≠c∧r≠c∧f≠c
 cl:Cl S
theorem Fm.put {m r c f:Nat} {S:St} {k:Int} (h:Fm m r c f S k) (k':Int):Fm m r c f (S.put c (NB k')) k' :=
 ⟨zD h.most h.ne.1,zD h.res h.ne.2.1,St.get_put_same (St.get_lt h.cnt),zD h.fn h.ne.2.2,h.ne,qL h.cl rfl⟩
def Pe (c:Nat) (S:St) (p:AV) (cs:List AV):Prop:=p = .ip cs 0∨∃t,p = .bp t 0∧S.get t=some (XB cs)∧t≠c
section
variable {c:Nat} {S:St} {p:AV} {cs:List AV} (h:Pe c S p cs)
include h
theorem Pe.put (y:zh):Pe c (S.put c y) p cs:=by
 rcases h with rfl | ⟨t,rfl,h1,h2⟩
 ·exact .inl rfl
 ·exact .inr ⟨t,rfl,zD h1 h2,h2⟩
theorem Pe.nil:zb p=some p:=by rcases h with rfl | ⟨t,rfl,_⟩<;>rfl
theorem Pe.add (i:Nat):zc i p=some (We p i):=by rcases h with rfl | ⟨t,rfl,_⟩<;>rfl
theorem Pe.rd (i n:Nat) (ag:Bool):zf S (We p i) n ag=zj cs i n ag:=by
 rcases h with rfl | ⟨t,rfl,h1,_⟩
 ·simp [We]
 ·simp [We,zn h1]
theorem Pe.ld (i:Nat):ldA Tryz.prog S 3 (We p i)=zj cs i 1 false:=by rw [VC,h.rd]
theorem Pe.ldk (i:Nat):ldA Tryz.prog S 22 (We p i)=zj cs i 1 false:=by
 have h1:Ji Tryz.prog 22=some false:=by kernel_rfl
 have h2:qv Tryz.prog 22=some 1:=by kernel_rfl
 rw [←h.rd]
 unfold ldA zf
 rw [h1,h2];rfl
end
theorem Xs {a:AV} (h:jh 4 a):GV a=true:=by rcases h with rfl | ⟨R,off,len,tok,rfl,_⟩<;>rfl
theorem jM {a:AV} {rows:List (List AV)} (h:Sl 4 a rows):zL a=some (.int .i64 (rows.length:Int)):=h.len
section
variable {m r c f:Nat} {S:St} {k:Nat} (hF:Fm m r c f S (k:Int)) (hk:k≤512) {op n:Int} {s:B} {kids:List Ex} {p ka:AV} {rows:List (List AV)} (hp:Pe c S p (cs4 op n s ka)) (hsl:Sl 4 ka rows) (hfl:jh 4 ka) (hks:ExRs kids rows) (hsm:jN s kids=true)
include hF hk hp hsl hfl hks hsm
theorem Ik (h:k+1>512∨zZ op≠(kids.length:Int)) :
  cw 49 [p,.bp c 0,.bp m 0,.bp r 0,.bp f 0] S=some (.ret (.bool false),S.put c (NB ((k+1:Nat):Int))):=by
 have key:=fun R=>@F49 p (.bp c 0) (.bp m 0) (.bp r 0) (.bp f 0) S R
 have w1:zl S (.bp c 0) [.int .i64 ((k+1:Nat):Int)]=some (S.put c (NB ((k+1:Nat):Int))):=zM hF.cnt rfl
 simp only [zn hF.cnt,show ∀x:AV,zj [x] 0 1 false=some x from fun _=>rfl,bind_some,zk,e1i (show k<1000000000000 by omega),w1] at key
 have hF1:=hF.put ((k+1:Nat):Int)
 have hp1:=hp.put (NB ((k+1:Nat):Int))
 have hlen:(S.put c (NB ((k+1:Nat):Int))).length=S.length:=by simp
 generalize hS1:S.put c (NB ((k+1:Nat):Int))=S1 at key hF1 hp1 hlen ⊢
 have ho:∀v,ze false S.length v S1=some (v,S1):=fun v=>by rw [←hlen];exact zx _ _
 simp only [zn hF1.cnt,zn hF1.most,show ∀x:AV,zj [x] 0 1 false=some x from fun _=>rfl,bind_some,zk,ho] at key
 by_cases h1:k+1>512
 ·rw [decide_eq_true (show ((k+1:Nat):Int)>512 by omega),cond_true] at key
  exact key _ rfl
 ·have h2:zZ op≠(kids.length:Int):=by rcases h with h | h;exact absurd h h1;exact h
  rw [decide_eq_false (show ¬((k+1:Nat):Int)>512 by omega),cond_false] at key
  have hr:rows.length=kids.length:=hks.len
  simp only [hp1.nil,hp1.add,hp1.rd,show zj (cs4 op n s ka) 0 1 false=some (.int .i64 op) from rfl,show zj (cs4 op n s ka) 3 1 false=some ka from rfl,bind_some,zk,DX,zi,jM hsl,hr,
   show (zZ op != (kids.length:Int))=true by simp [h2],cond_true,ho] at key
  refine key _ ?_
  simp [rkA,List.range.loop,hp1.ldk,show zj (cs4 op n s ka) 3 1 false=some ka from rfl,AV.beq_refl,Xs hfl]
theorem Ci (h1:¬(k+1>512∨zZ op≠(kids.length:Int))) {R:zd×St}
  (hgo:aw 49 S.length qB ⟨[(0,p),(4,.bp f 0),(7,.bool (jG op n s)),(150,.int .i64 (kids.length:Int)),(151,.int .i64 0)],[]⟩ (S.put c (NB ((k+1:Nat):Int)))=some R) :
  cw 49 [p,.bp c 0,.bp m 0,.bp r 0,.bp f 0] S=some R:=by
 have key:=fun R=>@F49 p (.bp c 0) (.bp m 0) (.bp r 0) (.bp f 0) S R
 have w1:zl S (.bp c 0) [.int .i64 ((k+1:Nat):Int)]=some (S.put c (NB ((k+1:Nat):Int))):=zM hF.cnt rfl
 simp only [zn hF.cnt,show ∀x:AV,zj [x] 0 1 false=some x from fun _=>rfl,bind_some,zk,e1i (show k<1000000000000 by omega),w1] at key
 have hF1:=hF.put ((k+1:Nat):Int)
 have hp1:=hp.put (NB ((k+1:Nat):Int))
 generalize hS1:S.put c (NB ((k+1:Nat):Int))=S1 at key hF1 hp1 hgo ⊢
 simp only [zn hF1.cnt,zn hF1.most,show ∀x:AV,zj [x] 0 1 false=some x from fun _=>rfl,bind_some,zk] at key
 have h2:zZ op=(kids.length:Int):=Classical.byContradiction fun h=>h1 (.inr h)
 have h3:k+1≤512:=Nat.le_of_not_lt fun h=>h1 (.inl h)
 have hr:rows.length=kids.length:=hks.len
 have hsm':s.length<1000000000∧kids.length<1000000000:=by simpa [jN] using hsm
 have hs9:=hsm'.1
 have hs12:s.length<1000000000000:=by omega
 rw [decide_eq_false (show ¬((k+1:Nat):Int)>512 by omega),cond_false] at key
 simp only [hp1.nil,hp1.add,hp1.rd,show zj (cs4 op n s ka) 0 1 false=some (.int .i64 op) from rfl,show zj (cs4 op n s ka) 3 1 false=some ka from rfl,bind_some,zk,DX,zi,jM hsl,hr,
   show (zZ op != (kids.length:Int))=false by simp [h2],cond_false] at key
 refine key _ ?_
 refine Eq.trans (if_pos ?hc) ?_
 case hc=>simp [rkA,List.range.loop,hp1.ldk,show zj (cs4 op n s ka) 3 1 false=some ka from rfl,AV.beq_refl,Xs hfl]
 have hem:s.isEmpty=(s==[]):=by cases s<;>rfl
 have bt:∀{a b:Int},a=b→(a==b)=true:=fun h=>by simp [h]
 have bf:∀{a b:Int},a≠b→(a==b)=false:=fun h=>by simp [h]
 by_cases o4:op=4
 ·have hf:jG op n s=(decide (0≤n)&&(s==[])):=by unfold jG;rw [if_pos o4,hem]
  rw [hf] at hgo
  have e4:=bt o4
  by_cases np:0≤n
  ·rw [decide_eq_true np,Bool.true_and] at hgo
   cases hn:(n==0)<;>(simp only [hp1.nil,hp1.add,hp1.rd,show zj (cs4 op n s ka) 0 1 false=some (.int .i64 op) from rfl,show zj (cs4 op n s ka) 1 1 false=some (.int .i64 n) from rfl,show zj (cs4 op n s ka) 2 1 false=some (.str s) from rfl,show zj (cs4 op n s ka) 3 1 false=some ka from rfl,bind_some,zk,zr,zp,qr,cond_true,cond_false,zi,jM hsl,hr,zn hF1.res,show ∀x:AV,zj [x] 0 1 false=some x from fun _=>rfl,jz _ hF1.cl,show zL (.sl 1 (qw X.calls) 0 8 .no)=some (.int .i64 8) from rfl,Qn _ hF1.cl s hs9,Ql _ s hs12,ja,hn,e4,decide_eq_true (show n≥0 from np)];exact hgo)
  ·rw [decide_eq_false np,Bool.false_and] at hgo
   cases hn:(n==0)<;>(simp only [hp1.nil,hp1.add,hp1.rd,show zj (cs4 op n s ka) 0 1 false=some (.int .i64 op) from rfl,show zj (cs4 op n s ka) 1 1 false=some (.int .i64 n) from rfl,show zj (cs4 op n s ka) 2 1 false=some (.str s) from rfl,show zj (cs4 op n s ka) 3 1 false=some ka from rfl,bind_some,zk,zr,zp,qr,cond_true,cond_false,zi,jM hsl,hr,zn hF1.res,show ∀x:AV,zj [x] 0 1 false=some x from fun _=>rfl,jz _ hF1.cl,show zL (.sl 1 (qw X.calls) 0 8 .no)=some (.int .i64 8) from rfl,Qn _ hF1.cl s hs9,Ql _ s hs12,ja,hn,e4,decide_eq_false (show ¬n≥0 from np)];exact hgo)
 have e4:=bf o4
 by_cases o5:op=5
 ·have hf:jG op n s=(n==0&&Ju s):=by unfold jG;rw [if_neg o4,if_pos o5]
  rw [hf] at hgo
  have e5:=bt o5
  have e9:(op==9)=false:=bf (by omega)
  cases hn:(n==0)<;>(rw [hn] at hgo;simp only [hp1.nil,hp1.add,hp1.rd,show zj (cs4 op n s ka) 0 1 false=some (.int .i64 op) from rfl,show zj (cs4 op n s ka) 1 1 false=some (.int .i64 n) from rfl,show zj (cs4 op n s ka) 2 1 false=some (.str s) from rfl,show zj (cs4 op n s ka) 3 1 false=some ka from rfl,bind_some,zk,zr,zp,qr,cond_true,cond_false,zi,jM hsl,hr,zn hF1.res,show ∀x:AV,zj [x] 0 1 false=some x from fun _=>rfl,jz _ hF1.cl,show zL (.sl 1 (qw X.calls) 0 8 .no)=some (.int .i64 8) from rfl,Qn _ hF1.cl s hs9,Ql _ s hs12,ja,hn,e4,e5,e9];exact hgo)
 have e5:=bf o5
 by_cases o6:op=6
 ·have hf:jG op n s=(n==0&&qf s&&qy s==0):=by unfold jG;rw [if_neg o4,if_neg o5,if_pos o6]
  rw [hf] at hgo
  have e6:=bt o6
  have e9:(op==9)=false:=bf (by omega)
  cases hn:(n==0)<;>cases hm:qf s<;>(rw [hn,hm] at hgo;simp only [hp1.nil,hp1.add,hp1.rd,show zj (cs4 op n s ka) 0 1 false=some (.int .i64 op) from rfl,show zj (cs4 op n s ka) 1 1 false=some (.int .i64 n) from rfl,show zj (cs4 op n s ka) 2 1 false=some (.str s) from rfl,show zj (cs4 op n s ka) 3 1 false=some ka from rfl,bind_some,zk,zr,zp,qr,cond_true,cond_false,zi,jM hsl,hr,zn hF1.res,show ∀x:AV,zj [x] 0 1 false=some x from fun _=>rfl,jz _ hF1.cl,show zL (.sl 1 (qw X.calls) 0 8 .no)=some (.int .i64 8) from rfl,Qn _ hF1.cl s hs9,Ql _ s hs12,ja,hn,hm,e4,e5,e6,e9];exact hgo)
 have e6:=bf o6
 by_cases o7:op=7
 ·have hf:jG op n s=(n==0&&qf s):=by unfold jG;rw [if_neg o4,if_neg o5,if_neg o6,if_pos o7]
  rw [hf] at hgo
  have e7:=bt o7
  have e9:(op==9)=false:=bf (by omega)
  cases hn:(n==0)<;>(rw [hn] at hgo;simp only [hp1.nil,hp1.add,hp1.rd,show zj (cs4 op n s ka) 0 1 false=some (.int .i64 op) from rfl,show zj (cs4 op n s ka) 1 1 false=some (.int .i64 n) from rfl,show zj (cs4 op n s ka) 2 1 false=some (.str s) from rfl,show zj (cs4 op n s ka) 3 1 false=some ka from rfl,bind_some,zk,zr,zp,qr,cond_true,cond_false,zi,jM hsl,hr,zn hF1.res,show ∀x:AV,zj [x] 0 1 false=some x from fun _=>rfl,jz _ hF1.cl,show zL (.sl 1 (qw X.calls) 0 8 .no)=some (.int .i64 8) from rfl,Qn _ hF1.cl s hs9,Ql _ s hs12,ja,hn,e4,e5,e6,e7,e9];exact hgo)
 have e7:=bf o7
 by_cases o9:op=9
 ·have hf:jG op n s=(decide (1≤n)&&decide (n≤8)&&(s==[])):=by unfold jG;rw [if_neg o4,if_neg o5,if_neg o6,if_neg o7,if_pos o9,hem]
  rw [hf] at hgo
  have e9:=bt o9
  by_cases n1:1≤n
  ·by_cases n8:n≤8
   ·rw [decide_eq_true n1,decide_eq_true n8,Bool.true_and,Bool.true_and] at hgo
    cases hn:(n==0)<;>(simp only [hp1.nil,hp1.add,hp1.rd,show zj (cs4 op n s ka) 0 1 false=some (.int .i64 op) from rfl,show zj (cs4 op n s ka) 1 1 false=some (.int .i64 n) from rfl,show zj (cs4 op n s ka) 2 1 false=some (.str s) from rfl,show zj (cs4 op n s ka) 3 1 false=some ka from rfl,bind_some,zk,zr,zp,qr,cond_true,cond_false,zi,jM hsl,hr,zn hF1.res,show ∀x:AV,zj [x] 0 1 false=some x from fun _=>rfl,jz _ hF1.cl,show zL (.sl 1 (qw X.calls) 0 8 .no)=some (.int .i64 8) from rfl,Qn _ hF1.cl s hs9,Ql _ s hs12,ja,hn,e4,e9,decide_eq_true (show n≥1 from n1),decide_eq_true n8];refine Eq.trans (if_pos ?_) hgo;simp [rkA,List.range.loop,hp1.ld,show zj (cs4 op n s ka) 1 1 false=some (.int .i64 n) from rfl,AV.beq_refl])
   ·rw [decide_eq_false n8,Bool.and_false,Bool.false_and] at hgo
    cases hn:(n==0)<;>(simp only [hp1.nil,hp1.add,hp1.rd,show zj (cs4 op n s ka) 0 1 false=some (.int .i64 op) from rfl,show zj (cs4 op n s ka) 1 1 false=some (.int .i64 n) from rfl,show zj (cs4 op n s ka) 2 1 false=some (.str s) from rfl,show zj (cs4 op n s ka) 3 1 false=some ka from rfl,bind_some,zk,zr,zp,qr,cond_true,cond_false,zi,jM hsl,hr,zn hF1.res,show ∀x:AV,zj [x] 0 1 false=some x from fun _=>rfl,jz _ hF1.cl,show zL (.sl 1 (qw X.calls) 0 8 .no)=some (.int .i64 8) from rfl,Qn _ hF1.cl s hs9,Ql _ s hs12,ja,hn,e4,e9,decide_eq_true (show n≥1 from n1),decide_eq_false n8];refine Eq.trans (if_pos ?_) hgo;simp [rkA,List.range.loop,hp1.ld,show zj (cs4 op n s ka) 1 1 false=some (.int .i64 n) from rfl,AV.beq_refl])
  ·rw [decide_eq_false n1,Bool.false_and,Bool.false_and] at hgo
   cases hn:(n==0)<;>(simp only [hp1.nil,hp1.add,hp1.rd,show zj (cs4 op n s ka) 0 1 false=some (.int .i64 op) from rfl,show zj (cs4 op n s ka) 1 1 false=some (.int .i64 n) from rfl,show zj (cs4 op n s ka) 2 1 false=some (.str s) from rfl,show zj (cs4 op n s ka) 3 1 false=some ka from rfl,bind_some,zk,zr,zp,qr,cond_true,cond_false,zi,jM hsl,hr,zn hF1.res,show ∀x:AV,zj [x] 0 1 false=some x from fun _=>rfl,jz _ hF1.cl,show zL (.sl 1 (qw X.calls) 0 8 .no)=some (.int .i64 8) from rfl,Qn _ hF1.cl s hs9,Ql _ s hs12,ja,hn,e4,e9,decide_eq_false (show ¬n≥1 from n1)];exact hgo)
 have e9:=bf o9
 have hf:jG op n s=(n==0&&(s==[])):=by unfold jG;rw [if_neg o4,if_neg o5,if_neg o6,if_neg o7,if_neg o9,hem]
 rw [hf] at hgo
 cases hn:(n==0)<;>(rw [hn] at hgo;simp only [hp1.nil,hp1.add,hp1.rd,show zj (cs4 op n s ka) 0 1 false=some (.int .i64 op) from rfl,show zj (cs4 op n s ka) 1 1 false=some (.int .i64 n) from rfl,show zj (cs4 op n s ka) 2 1 false=some (.str s) from rfl,show zj (cs4 op n s ka) 3 1 false=some ka from rfl,bind_some,zk,zr,zp,qr,cond_true,cond_false,zi,jM hsl,hr,zn hF1.res,show ∀x:AV,zj [x] 0 1 false=some x from fun _=>rfl,jz _ hF1.cl,show zL (.sl 1 (qw X.calls) 0 8 .no)=some (.int .i64 8) from rfl,Qn _ hF1.cl s hs9,Ql _ s hs12,ja,hn,e4,e5,e6,e7,e9];exact hgo)
end
end Go.Abs
namespace Go.Abs
open Go Go.Proofs Go.IntWalk Go.Abs.X
section
variable {m r c f:Nat}
def No (m r c f:Nat) (e:Ex):Prop:=∀(S:St) (k:Nat) (p:AV) (cs:List AV),Fm m r c f S (k:Int)→k≤512→Pe c S p cs→ExR e cs →
 cw 49 [p,.bp c 0,.bp m 0,.bp r 0,.bp f 0] S=some (.ret (.bool (vis e k).1),S.put c (NB ((vis e k).2:Int)))
theorem Fe {op n:Int} {s:B} {kids:List Ex} {p ka:AV} {rows:List (List AV)} (hsl:Sl 4 ka rows) (hks:ExRs kids rows) (hlen:kids.length<1000000000) (base:Nat):∀(rest:List Ex) (j:Nat) (fine:Bool) (S:St) (k:Nat),kids.drop j=rest→j≤kids.length→(∀e ∈ rest,No m r c f e)→Fm m r c f S (k:Int)→Pe c S p (cs4 op n s ka)→(fine=true→k≤512)→base=S.length →
  aw 49 base qB ⟨[(0,p),(4,.bp f 0),(7,.bool fine),(150,.int .i64 (kids.length:Int)),(151,.int .i64 (j:Int))],[]⟩ S=some (.ret (.bool (viss rest fine k).1),S.put c (NB ((viss rest fine k).2:Int))):=by
 intro rest
 induction rest with
 |nil =>
  intro j fine S k hd hj hok hF hp hk hb
  have:=List.drop_eq_nil_iff.1 hd
  refine za8 _ _ _ _ _ _ _ ?_
  rw [decide_eq_false (by omega),cond_false]
  simp only [viss]
  rw [St.put_same hF.cnt,hb,zx]
 |cons e rest ih =>
  intro j fine S k hd hj hok hF hp hk hb
  have hk2:j<kids.length:=by have:=congrArg List.length hd;simp at this;omega
  have hx:kids[j]?=some e:=by
   have:(kids.drop j)[0]?=some e:=by rw [hd];rfl
   rw [List.getElem?_drop] at this;simpa using this
  have hrest:kids.drop (j+1)=rest:=by rw [←List.drop_drop,hd];rfl
  refine za8 _ _ _ _ _ _ _ ?_
  rw [decide_eq_true (by omega),cond_true]
  cases fine with
  |false =>
   rw [cond_false,e1i (by omega),QQ,bind_some,JM]
   have:=ih (j+1) false S k hrest (by omega) (fun x hx=>hok x (List.mem_cons_of_mem _ hx)) hF hp (fun h=>by cases h) hb
   rw [JM] at this
   exact this
  |true =>
   obtain ⟨row,hr,he⟩:=hks.at j e hx
   have hcall:=hok e List.mem_cons_self S k (.ip row 0) row hF (hk rfl) (.inl rfl) he
   simp only [cond_true,zn hF.fn,show ∀x:AV,zj [x] 0 1 false=some x from fun _=>rfl,bind_some,hp.nil,hp.add,hp.rd,show zj (cs4 op n s ka) 3 1 false=some ka from rfl,zO,hsl.at hr,fnV,
    show (if 49=103 then some JA else if 49=91 then some ZN else none).isSome=false from rfl,Bool.false_eq_true,if_false,List.cons_append,List.nil_append,hcall,zi,zp,e1i (show j<1000000000000 by omega)]
   rw [show S.length=(S.put c (NB ((vis e k).2:Int))).length by simp,QQ,bind_some]
   have h4:=NL e k (hk rfl)
   have:=ih (j+1) (vis e k).1 (S.put c (NB ((vis e k).2:Int))) (vis e k).2 hrest (by omega) (fun x hx=>hok x (List.mem_cons_of_mem _ hx)) (hF.put _) (hp.put _) (fun h=>h4.2.2.2 h) (by simp [hb])
   rw [St.put_put] at this
   simp only [viss,if_true]
   exact this
mutual
theorem MU (e:Ex) (hs:Zr e=true):No m r c f e:=by
 match e with
 | .mk op n s kids =>
  simp only [Zr,Bool.and_eq_true] at hs
  have hall:=forms_all kids hs.2
  intro S k p cs hF hk hp he
  obtain ⟨ka,rows,rfl,hsl,hfl,hks⟩:=he
  simp only [vis]
  by_cases h:k+1>512∨zZ op≠(kids.length:Int)
  ·rw [if_pos h]
   exact Ik hF hk hp hsl hfl hks hs.1 h
  ·rw [if_neg h]
   have h3:k+1≤512:=Nat.le_of_not_lt fun h'=>h (.inl h')
   refine Ci hF hk hp hsl hfl hks hs.1 h ?_
   have hl:kids.length<1000000000:=by
    have:=hs.1
    simp [jN] at this;exact this.2
   have:=Fe (m:=m) (r:=r) (c:=c) (f:=f) (op:=op) (n:=n) (s:=s) hsl hks hl (S.put c (NB ((k+1:Nat):Int))).length kids 0 (jG op n s) (S.put c (NB ((k+1:Nat):Int))) (k+1) rfl (by omega) hall (hF.put _) (hp.put _) (fun _=>h3) rfl
   rw [St.put_put] at this
   rw [←this]
   simp
termination_by structural e
theorem forms_all (es:List Ex) (hs:sanes es=true):∀e ∈ es,No m r c f e:=by
 match es with
 |[]=>intro e he;simp at he
 |x::rest =>
  simp only [sanes,Bool.and_eq_true] at hs
  have g1:=MU x hs.1
  have g2:=forms_all rest hs.2
  intro e he
  rcases List.mem_cons.1 he with rfl | he
  ·exact g1
  ·exact g2 e he
termination_by structural es
end
end
theorem Ha {S:St} (hS:Cl S) {t:Nat} {cs:List AV} (ht:S.get t=some (XB cs)) {e:Ex} (he:ExR e cs) (hs:Zr e=true):cw 27 [.bp t 0,.int .i64 512,.bool false] S=some (.ret (.bool (may e)),S):=by
 have key:=fun R=>@F27 (.bp t 0) 512 false S R
 have htl:=St.get_lt ht
 simp only [List.length_cons] at key
 generalize hS1:(zh.box 3 [.int .i64 0]::zh.box 4 [.bool false]::zh.box 3 [.int .i64 512]::S:St)=S1 at key
 have g1:St.get S1 (S.length+1+1)=some (NB 0):=by rw [←hS1];exact qz rfl
 have g2:St.get S1 (S.length+1)=some (.box 4 [.bool false]):=by rw [←hS1];exact zG (qz rfl)
 have g3:St.get S1 S.length=some (NB 512):=by rw [←hS1];exact zG (zG (qz rfl))
 have g4:St.get S1 t=some (XB cs):=by rw [←hS1];exact zG (zG (zG ht))
 have hl1:S1.length=S.length+3:=by rw [←hS1];simp
 have hc1:Cl S1:=by rw [←hS1];exact ((hS.cons rfl).cons rfl).cons rfl
 have hu1:Up S S1:=by rw [←hS1];exact ((Up.refl S).push _).push _ |>.push _
 have w1:zl S1 (.bp (S.length+1+1) 0) [.int .i64 0]=some (St.put S1 (S.length+1+1) (NB 0)):=zM g1 rfl
 rw [w1,bind_some,St.put_same g1] at key
 have g5:St.get (zh.box 86 [.nilf]::S1) S1.length=some (.box 86 [.nilf]):=qz rfl
 have w2:zl (zh.box 86 [.nilf]::S1) (.bp S1.length 0) [.fn 49 [.bp (S.length+1+1) 0,.bp S.length 0,.bp (S.length+1) 0,.bp S1.length 0]]=some (zh.box 86 [.fn 49 [.bp (S.length+1+1) 0,.bp S.length 0,.bp (S.length+1) 0,.bp S1.length 0]]::S1):=by
  rw [zM g5 rfl,St.put_top]
 rw [w2,bind_some] at key
 have hF:Fm S.length (S.length+1) (S.length+1+1) S1.length (zh.box 86 [.fn 49 [.bp (S.length+1+1) 0,.bp S.length 0,.bp (S.length+1) 0,.bp S1.length 0]]::S1) ((0:Nat):Int) :=
  ⟨zG g3,zG g2,zG g1,qz rfl,⟨by omega,by omega,by omega⟩,hc1.cons (by simp [zh.closed,AV.closeds,AV.closed,hl1];omega)⟩
 have hp:Pe (S.length+1+1) (zh.box 86 [.fn 49 [.bp (S.length+1+1) 0,.bp S.length 0,.bp (S.length+1) 0,.bp S1.length 0]]::S1) (.bp t 0) cs:=.inr ⟨t,rfl,zG g4,by omega⟩
 have hu2:Up S (zh.box 86 [.fn 49 [.bp (S.length+1+1) 0,.bp S.length 0,.bp (S.length+1) 0,.bp S1.length 0]]::S1):=hu1.push _
 have hrun:=MU e hs _ 0 (.bp t 0) cs hF (by omega) hp he
 simp only [zn hF.fn,show ∀x:AV,zj [x] 0 1 false=some x from fun _=>rfl,bind_some,fnV,
    show (if 49=103 then some JA else if 49=91 then some ZN else none).isSome=false from rfl,Bool.false_eq_true,if_false,List.cons_append,List.nil_append,hrun,zi,zp,Ii] at key
 refine key _ ?_
 exact zU (hu2.put (by omega) _) hS rfl rfl
theorem MI {S:St} (hS:Cl S) {cs:List AV} {e:Ex} (he:ExR e cs) (hs:Zr e=true) (hn:inR e=true) :
  cw 13 [.agg cs] S=some (.ret (.tup [.str ((JT e).getD []),.int .i64 (if may e then 0 else 1003)]),S):=by
 have hcl:=he.closeds
 have hlen:=he.len
 have hcell:=he.cells
 have hev:=he
 obtain ⟨op,n,s,kids⟩:=e
 obtain ⟨ka,rows,rfl,hsl,hfl,hks⟩:=he
 have key:=fun R=>@F13 op n s ka S R
 rw [hcell,bind_some] at key
 generalize hS1:(zh.free 0::XB [.int .i64 op,.int .i64 n,.str s,ka]::S:St)=S1 at key
 have g1:St.get S1 S.length=some (XB [.int .i64 op,.int .i64 n,.str s,ka]):=by rw [←hS1];exact zG (qz rfl)
 have hc1:Cl S1:=by rw [←hS1];exact (hS.cons (x:=XB [.int .i64 op,.int .i64 n,.str s,ka]) (hcl _)).cons rfl
 have hu1:Up S S1:=by rw [←hS1];exact ((Up.refl S).push _).push _
 have hl1:S1.length=S.length+2:=by rw [←hS1];simp
 rw [Ha hc1 g1 hev hs,zi,zp,bind_some] at key
 cases hm:may (.mk op n s kids) with
 |false =>
  rw [hm] at key
  simp only [Bool.not_false,cond_true] at key
  refine key _ ?_
  have hp:JT (.mk op n s kids)=none:=by unfold JT;rw [hm];rfl
  rw [hp]
  simp only [Bool.false_eq_true,if_false,Option.getD_none]
  exact zU hu1 hS rfl rfl
 |true =>
  rw [hm] at key
  simp only [Bool.not_true,cond_false,show zq 2 (.agg [.nilp,.nils])=some [.nilp,.nils] from rfl,bind_some] at key
  generalize hS2:(zh.free 0::zh.box 70 [.nilp,.nils]::S1:St)=S2 at key
  have gq:St.get S2 S1.length=some (WB .nilp .nils):=by rw [←hS2];exact zG (qz rfl)
  have gh:St.get S2 (S1.length+1)=some (.free 0):=by rw [←hS2];exact qz rfl
  have ge:St.get S2 S.length=some (XB [.int .i64 op,.int .i64 n,.str s,ka]):=by rw [←hS2];exact zG (zG g1)
  have hc2:Cl S2:=by rw [←hS2];exact (hc1.cons rfl).cons rfl
  have hq:S1.length+1<S2.length:=by rw [←hS2];simp
  have hu2:Up S S2:=by rw [←hS2];exact (hu1.push _).push _
  have hw:Wr S2 S1.length [] S2:=⟨.nilp,.nils,.free 0,by unfold WS;rw [St.put_same gq,St.put_same gh],.inl rfl,.inl ⟨rfl,rfl,0,rfl⟩⟩
  have hall:Ex.all (.mk op n s kids)=true∧(Ex.mk op n s kids).size≤512:=by simpa [may] using hm
  obtain ⟨S',w1,w2,w3⟩:=KX hc2 hq (.mk op n s kids) hall.1 hn (.bp S.length 0) _ (.inr ⟨S.length,rfl,ge,by omega,by omega⟩) hev 0 [] S2 (by omega) hw (by simp only [List.length_nil];omega)
  have w2':cw 28 [.bp S1.length 0,.bp S.length 0,.int .i64 0] S2=_:=w2
  rw [w2',zi,FW hq w1 (by simp only [List.nil_append];omega),zi,zr,bind_some] at key
  refine key _ ?_
  have hp:JT (.mk op n s kids)=some (put (.mk op n s kids) 0):=by unfold JT;rw [hm];rfl
  rw [hp]
  simp only [if_true,Option.getD_some,List.nil_append]
  obtain ⟨a,v,y,rfl,_,_⟩:=w1.ex
  exact zU ((hu2.put (by omega) _).put (by omega) _) hS rfl rfl
end Go.Abs
namespace Go.Abs.X
theorem Qm (s:B):zI s≤s.length:=by
 match s with
 |[]=>simp [zI]
 |[c]=>simp only [zI];split<;>simp
 |[c,d] =>
  simp only [zI]
  repeat' split
  all_goals simp
 |[c,d,e] =>
  simp only [zI]
  repeat' split
  all_goals simp
 |c::d::e::f::r =>
  simp only [zI]
  repeat' split
  all_goals simp
  all_goals omega
theorem UY (a b:B) (h:zI a≠0):zI (a++b)=zI a:=by
 match a with
 |[]=>exact absurd rfl h
 |[c] =>
  simp only [zI] at h ⊢
  by_cases h1:c.toNat<128
  ·simp only [List.cons_append,List.nil_append,zI,if_pos h1]
  ·rw [if_neg h1] at h;exact absurd rfl h
 |[c,d] =>
  simp only [zI] at h ⊢
  simp only [List.cons_append,List.nil_append,zI]
  split
  ·rfl
  ·rename_i h1
   rw [if_neg h1] at h
   split
   ·rfl
   ·rename_i h2;rw [if_neg h2] at h;exact absurd rfl h
 |[c,d,e] =>
  simp only [zI] at h ⊢
  simp only [List.cons_append,List.nil_append,zI]
  split
  ·rfl
  ·rename_i h1
   rw [if_neg h1] at h
   split
   ·rfl
   ·rename_i h2
    rw [if_neg h2] at h
    split
    ·rfl
    ·rename_i h3;rw [if_neg h3] at h;exact absurd rfl h
 |c::d::e::f::r=>rfl
theorem WU (r:B) (h:zI r≠0):zI (r.take (zI r))=zI r:=by
 have hle:=Qm r
 match r with
 |[]=>rfl
 |[c] =>
  have:zI [c]=1:=by simp only [List.length_cons,List.length_nil] at hle;omega
  rw [this];exact this
 |[c,d] =>
  revert h
  simp only [zI]
  by_cases h1:c.toNat<128
  ·simp [h1,zI]
  ·by_cases h2:(decide (194≤c.toNat)&&decide (c.toNat<224)&&tl d)=true
   ·simp only [if_neg h1,if_pos h2];intro _;simp only [List.take_succ_cons,List.take_zero,zI,if_neg h1,if_pos h2]
   ·simp only [if_neg h1,if_neg h2];intro h;exact absurd rfl h
 |[c,d,e] =>
  revert h
  simp only [zI]
  by_cases h1:c.toNat<128
  ·simp [h1,zI]
  ·by_cases h2:(decide (194≤c.toNat)&&decide (c.toNat<224)&&tl d)=true
   ·simp only [if_neg h1,if_pos h2];intro _;simp only [List.take_succ_cons,List.take_zero,zI,if_neg h1,if_pos h2]
   ·by_cases h3:(decide (224≤c.toNat)&&decide (c.toNat<240)&&tl d&&tl e)=true
    ·by_cases h4:(c.toNat==224&&decide (d.toNat<160)||c.toNat==237&&decide (160≤d.toNat))=true
     ·simp only [if_neg h1,if_neg h2,if_pos h3,if_pos h4];intro h;exact absurd rfl h
     ·simp only [if_neg h1,if_neg h2,if_pos h3,if_neg h4];intro _;simp only [List.take_succ_cons,List.take_zero,zI,if_neg h1,if_neg h2,if_pos h3,if_neg h4]
    ·simp only [if_neg h1,if_neg h2,if_neg h3];intro h;exact absurd rfl h
 |c::d::e::f::r =>
  revert h
  simp only [zI]
  by_cases h1:c.toNat<128
  ·simp [h1,zI]
  ·by_cases h2:(decide (194≤c.toNat)&&decide (c.toNat<224)&&tl d)=true
   ·simp only [if_neg h1,if_pos h2];intro _;simp only [List.take_succ_cons,List.take_zero,zI,if_neg h1,if_pos h2]
   ·by_cases h3:(decide (224≤c.toNat)&&decide (c.toNat<240)&&tl d&&tl e)=true
    ·by_cases h4:(c.toNat==224&&decide (d.toNat<160)||c.toNat==237&&decide (160≤d.toNat))=true
     ·simp only [if_neg h1,if_neg h2,if_pos h3,if_pos h4];intro h;exact absurd rfl h
     ·simp only [if_neg h1,if_neg h2,if_pos h3,if_neg h4];intro _;simp only [List.take_succ_cons,List.take_zero,zI,if_neg h1,if_neg h2,if_pos h3,if_neg h4]
    ·by_cases h5:(decide (240≤c.toNat)&&decide (c.toNat<245)&&tl d&&tl e&&tl f)=true
     ·by_cases h6:(c.toNat==240&&decide (d.toNat<144)||c.toNat==244&&decide (144≤d.toNat))=true
      ·simp only [if_neg h1,if_neg h2,if_neg h3,if_pos h5,if_pos h6];intro h;exact absurd rfl h
      ·simp only [if_neg h1,if_neg h2,if_neg h3,if_pos h5,if_neg h6];intro _;simp only [List.take_succ_cons,List.take_zero,zI,if_neg h1,if_neg h2,if_neg h3,if_pos h5,if_neg h6]
     ·simp only [if_neg h1,if_neg h2,if_neg h3,if_neg h5];intro h;exact absurd rfl h
theorem qZ (n:Nat) (s:B) (hs:s≠[]):qI (n+1) s=(if zI s=0 then false else qI n (s.drop (zI s))):=by
 match s,hs with
 |c::r,_ =>
  simp only [qI]
  split
  ·rename_i h;rw [if_pos h]
  ·rename_i h;rw [if_neg h]
theorem WD (n:Nat):qI n []=true:=by cases n<;>rfl
theorem UO:∀(n m:Nat) (s:B),n≤m→qI n s=true→qI m s=true:=by
 intro n
 induction n with
 |zero =>
  intro m s _ h
  have:s=[]:=by simpa [qI] using h
  subst this;exact WD m
 |succ n ih =>
  intro m s hm h
  by_cases hs:s=[]
  ·subst hs;exact WD m
  ·cases m with
   |zero=>omega
   |succ m =>
    rw [qZ n s hs] at h
    rw [qZ m s hs]
    split at h
    ·cases h
    ·rename_i h0
     rw [if_neg h0];exact ih m _ (by omega) h
theorem Xk:∀(n:Nat) (s:B),qI n s=true→qI s.length s=true:=by
 intro n
 induction n with
 |zero =>
  intro s h
  have:s=[]:=by simpa [qI] using h
  subst this;rfl
 |succ n ih =>
  intro s h
  by_cases hs:s=[]
  ·subst hs;rfl
  ·rw [qZ n s hs] at h
   split at h
   ·cases h
   ·rename_i h0
    have:=ih _ h
    have hl:0<s.length:=List.length_pos_iff.2 hs
    have h2:=UO _ (s.length - 1) _ (by simp;omega) this
    rw [show s.length=s.length - 1+1 by omega,qZ _ s hs,if_neg h0]
    exact h2
theorem Fh:∀(n:Nat) (a b:B),qI n a=true→qI b.length b=true→qI (n+b.length) (a++b)=true:=by
 intro n
 induction n with
 |zero =>
  intro a b h hb
  have:a=[]:=by simpa [qI] using h
  subst this;simpa using hb
 |succ n ih =>
  intro a b h hb
  by_cases ha:a=[]
  ·subst ha;exact UO _ _ _ (by omega) hb
  ·rw [qZ n a ha] at h
   split at h
   ·cases h
   ·rename_i h0
    have:=ih _ _ h hb
    rw [show n+1+b.length=n+b.length+1 by omega,qZ _ _ (by simp [ha]),UY a b h0,if_neg h0,List.drop_append_of_le_length (Qm a)]
    exact this
theorem LX (r:B) (h:zI r≠0):qI (r.take (zI r)).length (r.take (zI r))=true:=by
 have hl:=Qm r
 have he:(r.take (zI r)).length=zI r:=by simp;omega
 have hne:r.take (zI r)≠[]:=by intro h';rw [h'] at he;simp at he;omega
 rw [he,show zI r=zI r - 1+1 by omega]
 conv=>lhs;rw [show zI r - 1+1=zI r by omega]
 rw [show qI (zI r) (r.take (zI r))=qI (zI r - 1+1) (r.take (zI r)) by rw [show zI r - 1+1=zI r by omega],qZ _ _ hne,WU r h,if_neg h,List.drop_eq_nil_of_le (by rw [he];omega)]
 exact WD _
theorem VN (r:B) (h:2≤zI r):∀c ∈ r.take (zI r),128≤c.toNat:=by
 have hl:=Qm r
 match r with
 |[]=>simp [zI] at h
 |[c]=>simp at hl;omega
 |[c,d] =>
  revert h
  simp only [zI]
  by_cases h1:c.toNat<128
  ·simp [h1]
  ·by_cases h2:(decide (194≤c.toNat)&&decide (c.toNat<224)&&tl d)=true
   ·simp only [if_neg h1,if_pos h2]
    simp [tl] at h2
    intro _ x hx
    simp at hx
    rcases hx with rfl | rfl<;>omega
   ·simp only [if_neg h1,if_neg h2];omega
 |[c,d,e] =>
  revert h
  simp only [zI]
  by_cases h1:c.toNat<128
  ·simp [h1]
  ·by_cases h2:(decide (194≤c.toNat)&&decide (c.toNat<224)&&tl d)=true
   ·simp only [if_neg h1,if_pos h2]
    simp [tl] at h2
    intro _ x hx
    simp at hx
    rcases hx with rfl | rfl<;>omega
   ·by_cases h3:(decide (224≤c.toNat)&&decide (c.toNat<240)&&tl d&&tl e)=true
    ·simp only [if_neg h1,if_neg h2,if_pos h3]
     split
     ·omega
     ·simp [tl] at h3
      intro _ x hx
      simp at hx
      rcases hx with rfl | rfl | rfl<;>omega
    ·simp only [if_neg h1,if_neg h2,if_neg h3];omega
 |c::d::e::f::r =>
  revert h
  simp only [zI]
  by_cases h1:c.toNat<128
  ·simp [h1]
  ·by_cases h2:(decide (194≤c.toNat)&&decide (c.toNat<224)&&tl d)=true
   ·simp only [if_neg h1,if_pos h2]
    simp [tl] at h2
    intro _ x hx
    simp at hx
    rcases hx with rfl | rfl<;>omega
   ·by_cases h3:(decide (224≤c.toNat)&&decide (c.toNat<240)&&tl d&&tl e)=true
    ·simp only [if_neg h1,if_neg h2,if_pos h3]
     split
     ·omega
     ·simp [tl] at h3
      intro _ x hx
      simp at hx
      rcases hx with rfl | rfl | rfl<;>omega
    ·by_cases h5:(decide (240≤c.toNat)&&decide (c.toNat<245)&&tl d&&tl e&&tl f)=true
     ·simp only [if_neg h1,if_neg h2,if_neg h3,if_pos h5]
      split
      ·omega
      ·simp [tl] at h5
       intro _ x hx
       simp at hx
       rcases hx with rfl | rfl | rfl | rfl<;>omega
     ·simp only [if_neg h1,if_neg h2,if_neg h3,if_neg h5];omega
end Go.Abs.X
namespace Go.Abs.X
def okc (c:UInt8):Bool:=decide (32≤c.toNat)||c.toNat==10
def Vd (s:B):Prop:=qI s.length s=true∧s.all okc=true
theorem Vd.app {a b:B} (h1:Vd a) (h2:Vd b):Vd (a++b) :=
 ⟨Xk _ _ (Fh _ a b h1.1 h2.1),by rw [List.all_append,h1.2,h2.2];rfl⟩
theorem Vd.one {c:UInt8} (h:c.toNat<128) (h2:okc c=true):Vd [c]:=by
 refine ⟨?_,by simp [h2]⟩
 have:zI [c]=1:=by simp [zI,h]
 show qI (0+1) [c]=true
 rw [qZ 0 [c] (by simp),this];rfl
theorem Vd.chunk {c:UInt8} {r:B} (hc:32≤c.toNat) (h:zI (c::r)≠0):Vd ((c::r).take (zI (c::r))):=by
 refine ⟨LX _ h,?_⟩
 rw [List.all_eq_true]
 intro x hx
 by_cases h1:zI (c::r)=1
 ·rw [h1] at hx
  simp at hx;subst hx
  simp [okc,hc]
 ·have:=VN (c::r) (by omega) x hx
  simp [okc];omega
theorem Dy:∀(f:Nat) (r:B) (i:Nat) (out o q:B) (j:Nat),Vd out→zH f r i out = .ok (o,q,j)→Vd o:=by
 intro f
 induction f with
 |zero=>intro r i out o q j _ h;simp [zH] at h
 |succ f ih =>
  intro r i out o q j hv h
  match r with
  |[]=>simp [zH] at h
  |c::r =>
   simp only [zH] at h
   split at h
   ·cases h
   ·rename_i hc
    split at h
    ·cases h;exact hv
    ·rename_i h39
     split at h
     ·cases r with
      |nil=>cases h
      |cons d r =>
       simp only at h
       split at h
       ·rename_i hd
        refine ih _ _ _ _ _ _ (hv.app (Vd.one ?_ ?_)) h
        ·omega
        ·simp [okc];omega
       ·split at h
        ·exact ih _ _ _ _ _ _ (hv.app (Vd.one (by decide) (by decide))) h
        ·cases h
     ·split at h
      ·cases h
      ·rename_i hm
       exact ih _ _ _ _ _ _ (hv.app (Vd.chunk (by omega) (by intro h0;exact hm h0))) h
theorem Mn:∀(f:Nat) (r:B) (i:Nat) (out:B) (e:F),zH f r i out = .error e→e.2≤i+r.length:=by
 intro f
 induction f with
 |zero=>intro r i out e h;simp [zH] at h;subst h;simp
 |succ f ih =>
  intro r i out e h
  match r with
  |[]=>simp [zH] at h;subst h;simp
  |c::r =>
   simp only [zH] at h
   split at h
   ·cases h;simp
   ·split at h
    ·cases h
    ·split at h
     ·cases r with
      |nil=>cases h;simp
      |cons d r =>
       simp only at h
       split at h
       ·have:=ih _ _ _ _ h;simp only [List.length_cons];omega
       ·split at h
        ·have:=ih _ _ _ _ h;simp only [List.length_cons];omega
        ·cases h;simp only [List.length_cons];omega
     ·split at h
      ·cases h;simp
      ·rename_i hm
       have:=ih _ _ _ _ h
       have hl:=Qm (c::r)
       simp only [List.length_drop] at this
       simp only [List.length_cons] at this hl ⊢
       omega
theorem Gn:∀(f:Nat) (r:B) (i:Nat) (out o q:B) (j:Nat),zH f r i out = .ok (o,q,j)→j+q.length=i+r.length:=by
 intro f
 induction f with
 |zero=>intro r i out o q j h;simp [zH] at h
 |succ f ih =>
  intro r i out o q j h
  match r with
  |[]=>simp [zH] at h
  |c::r =>
   simp only [zH] at h
   split at h
   ·cases h
   ·split at h
    ·cases h;simp only [List.length_cons];omega
    ·split at h
     ·cases r with
      |nil=>cases h
      |cons d r =>
       simp only at h
       split at h
       ·have:=ih _ _ _ _ _ _ h;simp only [List.length_cons];omega
       ·split at h
        ·have:=ih _ _ _ _ _ _ h;simp only [List.length_cons];omega
        ·cases h
     ·split at h
      ·cases h
      ·rename_i hm
       have:=ih _ _ _ _ _ _ h
       have hl:=Qm (c::r)
       simp only [List.length_drop] at this
       simp only [List.length_cons] at this hl ⊢
       omega
theorem Zh {p:UInt8→Bool} (l:B):(l.takeWhile p).length+(l.dropWhile p).length=l.length:=by
 rw [←List.length_append,List.takeWhile_append_dropWhile]
theorem all_takeWhile {p:UInt8→Bool} (l:B):(l.takeWhile p).all p=true:=by
 induction l with
 |nil=>rfl
 |cons c l ih =>
  by_cases h:p c=true
  ·simp [List.takeWhile_cons,h,ih]
  ·simp [List.takeWhile_cons,h]
theorem Ip (c:UInt8) (r:B) (i L:Nat) (hL:i+(c::r).length=L):zb0 L ⟨(ZG (c::r) i).1,i⟩∧((∀e p,(ZG (c::r) i).1≠.bad e p)→(ZG (c::r) i).2.2+(ZG (c::r) i).2.1.length=L):=by
 have hi:i≤L:=by simp at hL;omega
 simp only [List.length_cons] at hL
 unfold ZG
 split
 ·rename_i h;cases h
 ·rename_i c' r' h
  cases h
  split
  ·split
   ·rename_i f hf
    have:=Mn _ _ _ _ _ hf
    exact ⟨⟨hi,by show f.2≤L;omega⟩,fun h=>absurd rfl (h _ _)⟩
   ·rename_i out q k ho
    split
    ·exact ⟨⟨hi,hi⟩,fun h=>absurd rfl (h _ _)⟩
    ·rename_i hlen
     have hv:=Dy _ _ _ _ _ _ _ ⟨rfl,rfl⟩ ho
     have hl:=Gn _ _ _ _ _ _ _ ho
     refine ⟨⟨hi,?_⟩,fun _=>by show k+q.length=L;omega⟩
     show Ju out=true
     have:XG out=true:=by unfold XG;rw [hv.1];simpa using hlen
     unfold Ju;rw [this];simpa [okc] using hv.2
  ·split
   ·split
    ·exact ⟨⟨hi,by show (0:Nat)≤_;omega⟩,fun _=>by show i+1+r.length=L;omega⟩
    ·dsimp only
     split
     ·rename_i hd
      refine ⟨⟨hi,hd⟩,fun _=>?_⟩
      show i+(c::r.takeWhile dig).length+(r.dropWhile dig).length=L
      have:=Zh (p:=dig) r
      simp only [List.length_cons];omega
     ·exact ⟨⟨hi,hi⟩,fun h=>absurd rfl (h _ _)⟩
   ·split
    ·rename_i hs
     dsimp only
     split
     ·exact ⟨⟨hi,hi⟩,fun h=>absurd rfl (h _ _)⟩
     ·rename_i hn
      refine ⟨⟨hi,?_⟩,fun _=>?_⟩
      ·show qf (c::r.takeWhile nam)=true
       simp only [qf,hs,all_takeWhile,Bool.true_and,Bool.and_self,decide_eq_true_eq];omega
      ·show i+(c::r.takeWhile nam).length+(r.dropWhile nam).length=L
       have:=Zh (p:=nam) r
       simp only [List.length_cons];omega
    ·split
     ·rename_i s hs
      refine ⟨⟨hi,trivial⟩,fun _=>?_⟩
      have hp:=List.find?_some hs
      have hl:s.length≤(c::r).length:=(List.isPrefixOf_iff_prefix.1 hp).length_le
      show i+s.length+((c::r).drop s.length).length=L
      simp only [List.length_drop,List.length_cons] at hl ⊢;omega
     ·exact ⟨⟨hi,hi⟩,fun h=>absurd rfl (h _ _)⟩
theorem Ie:∀(n:Nat) (r:B) (i c L:Nat),i+r.length=L→jD L (toks n r i c):=by
 intro n
 induction n with
 |zero=>intro r i c L _ t ht;simp [toks] at ht
 |succ n ih =>
  intro r i c L hL
  unfold toks
  dsimp only
  have htw:=Zh (p:=blk) r
  have hL':(i+(r.takeWhile blk).length)+(r.dropWhile blk).length=L:=by omega
  generalize i+(r.takeWhile blk).length=i' at hL'
  generalize r.dropWhile blk=r' at hL'
  match r' with
  |[]=>intro t ht;simp at ht;subst ht;exact ⟨by show i'≤L;omega,trivial⟩
  |d::r' =>
   have h1:=Ip d r' i' L hL'
   dsimp only
   generalize hx:ZG (d::r') i'=x at h1
   obtain ⟨k,q,j⟩:=x
   cases k with
   |bad e p=>intro t ht;simp at ht;subst ht;exact h1.1
   |_ =>
    dsimp only
    by_cases hc:c≥512
    ·rw [if_pos hc]
     intro t ht;simp at ht;subst ht
     exact ⟨h1.1.1,h1.1.1⟩
    ·rw [if_neg hc]
     intro t ht
     rcases List.mem_cons.1 ht with rfl | ht
     ·exact h1.1
     ·exact ih q j (c+1) L (h1.2 (by simp)) t ht
mutual
theorem Md (e:Ex) (h:Ex.fine e=true):Ex.all e=true:=by
 match e with
 | .mk op n s k =>
  rw [Zd,Bool.and_eq_true,Bool.and_eq_true] at h
  show (qo op n s k.length&&Ex.alls k)=true
  rw [Bool.and_eq_true]
  exact ⟨h.1.1,fines_alls k h.2⟩
termination_by structural e
theorem fines_alls (es:List Ex) (h:Ex.fines es=true):Ex.alls es=true:=by
 match es with
 |[]=>rfl
 |x::r =>
  rw [qT,Bool.and_eq_true] at h
  show (Ex.all x&&Ex.alls r)=true
  rw [Bool.and_eq_true]
  exact ⟨Md x h.1,fines_alls r h.2⟩
termination_by structural es
end
end Go.Abs.X
namespace Go.Abs
open Go Go.Proofs Go.IntWalk Go.Abs.X
theorem Hh (n:Int) (st:St):cw 7 [.int .i64 n] st=some (.ret (.int .i64 n),st):=F7 _ _ (zx _ _)
mutual
theorem Nb (e:Ex) (h:Ex.fine e=true):inR e=true:=by
 match e with
 | .mk op n s k =>
  rw [Zd,Bool.and_eq_true,Bool.and_eq_true] at h
  show (decide (n≤9223372036854775807)&&inRs k)=true
  rw [Bool.and_eq_true]
  exact ⟨h.1.2,fines_inR k h.2⟩
termination_by structural e
theorem fines_inR (es:List Ex) (h:Ex.fines es=true):inRs es=true:=by
 match es with
 |[]=>rfl
 |x::r =>
  rw [qT,Bool.and_eq_true] at h
  show (inR x&&inRs r)=true
  rw [Bool.and_eq_true]
  exact ⟨Nb x h.1,fines_inR r h.2⟩
termination_by structural es
end
theorem LM {op n:Int} {s:B} {ks:List Ex} (h:qo op n s ks.length=true):jN s ks=true:=by
 simp only [qo,Bool.and_eq_true,beq_iff_eq] at h
 obtain ⟨h1,h2⟩:=h
 obtain ⟨o1,o2,hc⟩:=Ej h1
 have hs:s.length≤4096:=by
  by_cases o4:op=4
  ·rw [if_pos o4] at h2;simp at h2;rw [h2.2];simp
  ·rw [if_neg o4] at h2
   by_cases o5:op=5
   ·rw [if_pos o5] at h2;simp at h2;exact Nc h2.2
   ·rw [if_neg o5] at h2
    by_cases o6:op=6
    ·rw [if_pos o6] at h2;simp at h2;have:=Wh h2.1.2;omega
    ·rw [if_neg o6] at h2
     by_cases o7:op=7
     ·rw [if_pos o7] at h2;simp at h2;have:=Wh h2.2;omega
     ·rw [if_neg o7] at h2
      by_cases o9:op=9
      ·rw [if_pos o9] at h2;simp at h2;rw [h2.2];simp
      ·rw [if_neg o9] at h2;simp at h2;rw [h2.2];simp
 have hk:ks.length≤3:=by
  rcases hc with h | h | h | h | h | h | h | h | h | h | h | h | h<;>omega
 simp [jN];omega
mutual
theorem MR (e:Ex) (h:Ex.all e=true):Zr e=true:=by
 match e with
 | .mk op n s k =>
  have h:(qo op n s k.length&&Ex.alls k)=true:=h
  rw [Bool.and_eq_true] at h
  show (jN s k&&sanes k)=true
  rw [Bool.and_eq_true]
  exact ⟨LM h.1,alls_sane k h.2⟩
termination_by structural e
theorem alls_sane (es:List Ex) (h:Ex.alls es=true):sanes es=true:=by
 match es with
 |[]=>rfl
 |x::r =>
  have h:(Ex.all x&&Ex.alls r)=true:=h
  rw [Bool.and_eq_true] at h
  show (Zr x&&sanes r)=true
  rw [Bool.and_eq_true]
  exact ⟨MR x h.1,alls_sane r h.2⟩
termination_by structural es
end
theorem FG {s:B} {x:Except F Ex} (h:Yk s=some x):match x with
 | .ok e=>Ex.fine e=true∧e.size≤512
 | .error (c,p)=>p≤s.length:=by
 have hto:jD s.length (QJ s):=Ie _ s 0 0 s.length (by simp)
 have hfew:(QJ s).length≤513:=UW _ _ _ 0 (by omega)
 unfold Yk DA at h
 split at h
 ·rename_i c p a r heq
  cases h
  have:=hto _ (by rw [heq];exact List.mem_cons_self)
  exact this.2
 ·have hi:=zbj s.length 11000 .whole 1 (QJ s) trivial hto
  split at h
  ·rename_i e ts hP
   have:=hi _ hP
   simp only [bnd] at this
   split at h
   ·rename_i hf
    cases h
    have h1:1≤ts.length:=by
     cases ts with
     |nil=>cases hf
     |cons=>simp
    exact ⟨this.1,by omega⟩
   ·cases h;exact this.2.2.at
  ·rename_i f hP
   cases h
   exact hi _ hP
  ·cases h
end Go.Abs
namespace Go.Abs
open Go Go.Proofs Go.IntWalk Go.Abs.X
def zb9:B:=[45,40,97,126,39,120,39,41,32,63,32,33,98,32,58,32,40,40,99,41,41]
def Ch:B:=[45,40,97,32,126,32,39,120,39,41,32,63,32,33,98,32,58,32,99]
def Hs:Bool:=(match Yk zb9 with | some (.ok e)=>JT e==some Ch | _=>false)&&(match Yk [97,32,98] with | some (.error (c,p))=>c==1000&&p==2 | _=>false)
theorem Mg:Hs=true:=by decide +kernel
theorem HC {st:St} (hst:Cl st):cw 10 [] st=some (.ret (.bool true),st):=by
 have hb:=Mg
 unfold Hs at hb
 rw [Bool.and_eq_true] at hb
 obtain ⟨hb1,hb2⟩:=hb
 have key:=fun R=>@F10 st R
 obtain ⟨x,hx,hx2⟩:=My hst (s:=zb9) (by decide)
 rw [hx] at hb1
 cases x with
 |error f=>cases hb1
 |ok e =>
  have hpr:JT e=some Ch:=by simpa using hb1
  obtain ⟨cs,he,hc1⟩:=hx2
  have hc1':cw 5 [.str [ofNat 45,ofNat 40,ofNat 97,ofNat 126,ofNat 39,ofNat 120,ofNat 39,ofNat 41,ofNat 32,ofNat 63,ofNat 32,ofNat 33,ofNat 98,ofNat 32,ofNat 58,ofNat 32,ofNat 40,ofNat 40,ofNat 99,ofNat 41,ofNat 41]] st=_:=hc1
  have hinv:=FG hx
  have hm:may e=true:=by
   cases hm:may e with
   |true=>rfl
   |false=>unfold JT at hpr;rw [hm] at hpr;cases hpr
  simp only [hc1',zi,zT,List.getElem?_cons_zero,List.getElem?_cons_succ,bind_some,zk,he.cells] at key
  have hn:zl (zh.free 0::zh.box 24 [.int .i64 0,.int .i64 0,.str [],.nils]::st) (.bp st.length 0) cs=_:=MP he
  simp only [hn,bind_some] at key
  generalize hS:(zh.free 0::XB cs::st:St)=S at key
  have ga:St.get S st.length=some (XB cs):=by rw [←hS];exact zG (qz rfl)
  have hu:Up st S:=by rw [←hS];exact ((Up.refl st).push _).push _
  have hc:Cl S:=by rw [←hS];exact (hst.cons (x:=XB cs) (he.closeds _)).cons rfl
  have hprn:=MI hc he (MR e (Md e hinv.1)) (Nb e hinv.1)
  rw [hpr,hm] at hprn
  simp only [zn ga,he.row,bind_some,hprn,zi,zT,List.getElem?_cons_zero,List.getElem?_cons_succ,zr,zk,Option.getD_some,if_true] at key
  obtain ⟨y,hy,hy2⟩:=My hc (s:=[97,32,98]) (by decide)
  rw [hy] at hb2
  cases y with
  |ok e=>cases hb2
  |error f =>
   obtain ⟨c,p⟩:=f
   simp only [Bool.and_eq_true,beq_iff_eq] at hb2
   obtain ⟨rfl,rfl⟩:=hb2
   have hy2:cw 5 [.str [97,32,98]] S=_:=hy2
   have hy2':cw 5 [.str [ofNat 97,ofNat 32,ofNat 98]] S=_:=hy2
   simp only [hy2',zi,zT,List.getElem?_cons_zero,List.getElem?_cons_succ,bind_some,zk,Hn.cells] at key
   have hn2:zl (zh.free 0::zh.box 24 [.int .i64 0,.int .i64 0,.str [],.nils]::S) (.bp S.length 0) ex0=_:=MP Hn
   simp only [hn2,bind_some,Hh,zi,zk,Int.reduceBEq,cond_true,qr,zp] at key
   refine key _ ?_
   rw [show (Ch==[ofNat 45,ofNat 40,ofNat 97,ofNat 32,ofNat 126,ofNat 32,ofNat 39,ofNat 120,ofNat 39,ofNat 41,ofNat 32,ofNat 63,ofNat 32,ofNat 33,ofNat 98,ofNat 32,ofNat 58,ofNat 32,ofNat 99])=true from rfl]
   simp only [cond_true]
   have hu2:Up st (zh.free 0::XB ex0::S):=(hu.push _).push _
   exact zU hu2 hst rfl rfl
end Go.Abs
namespace Go.Abs
open Go Go.Proofs Go.IntWalk Go.Abs.X
mutual
def CZ:Ex→Nat→Bool
 | .mk _ _ _ ks,n=>match n with | 0=>false | n+1=>shals ks n
termination_by structural x=>x
def shals:List Ex→Nat→Bool
 |[],_=>true
 |e::r,n=>CZ e n&&shals r n
termination_by structural x=>x
end
def Dj (e:Ex):Prop:=∀(cs:List AV) (n:Nat) (st:St),ExR e cs→n≤5000→Cl st→cw 25 [.agg cs,.int .i64 (n:Int)] st=some (.ret (.bool (CZ e n)),st)
theorem FV {t:Nat} {op n:Int} {s:B} {ka:AV} {rows:List (List AV)} {kids:List Ex} (hsl:Sl 4 ka rows) (hks:ExRs kids rows) (hl:kids.length<1000000000) (l:Nat) (hl2:l<5000) (base:Nat) (st S:St) (hu:Up st S) (hst:Cl st) (hS:Cl S) (hb:base=st.length) (ht:S.get t=some (XB (cs4 op n s ka))):∀(rest:List Ex) (i:Nat),kids.drop i=rest→i≤kids.length→(∀e ∈ rest,Dj e) →
  aw 25 base Ed ⟨[(1,.int .i64 ((l+1:Nat):Int)),(2,.bp t 0),(5,.int .i64 (i:Int))],[]⟩ S=some (.ret (.bool (shals rest l)),st):=by
 subst hb
 have ho:∀b:Bool,ze false st.length (.ret (.bool b)) S=some (.ret (.bool b),st):=fun b=>zU hu hst rfl rfl
 intro rest
 induction rest with
 |nil =>
  intro i hd hi _
  have:=List.drop_eq_nil_iff.1 hd
  refine IX _ _ _ _ _ ?_
  simp only [zE,bind_some,Nat.zero_add,zn ht,show zj (cs4 op n s ka) 3 1 false=some ka from rfl,hsl.len,hks.len,zk]
  rw [decide_eq_false (by omega),cond_false,ho]
  rfl
 |cons e rest ih =>
  intro i hd hi hok
  have h1:i<kids.length:=by have:=congrArg List.length hd;simp at this;omega
  have hxi:kids[i]?=some e:=by
   have:(kids.drop i)[0]?=some e:=by rw [hd];rfl
   rw [List.getElem?_drop] at this;simpa using this
  have hr:kids.drop (i+1)=rest:=by rw [←List.drop_drop,hd];rfl
  obtain ⟨row,g1,g2⟩:=hks.at i e hxi
  have hc:=hok e List.mem_cons_self row l S g2 (by omega) hS
  refine IX _ _ _ _ _ ?_
  simp only [zE,bind_some,Nat.zero_add,zn ht,show zj (cs4 op n s ka) 3 1 false=some ka from rfl,hsl.len,hks.len,zk]
  rw [decide_eq_true (by omega),cond_true]
  have el:IntKind.i64.wrap (((l+1:Nat):Int) - 1)=(l:Int):=by rw [i64_in _ (by omega)];omega
  simp only [zO,bind_some,hsl.at g1,Zx,VF _ 4 g2.len,el,hc,zi,zp]
  simp only [shals]
  cases hb:CZ e l with
  |false=>simp only [Bool.not_false,cond_true,ho,Bool.false_and]
  |true =>
   simp only [Bool.not_true,cond_false,Bool.true_and,e1i (show i<1000000000000 by omega)]
   exact ih (i+1) hr (by omega) fun x hx=>hok x (List.mem_cons_of_mem _ hx)
mutual
theorem MD (e:Ex) (hs:Zr e=true):Dj e:=by
 match e with
 | .mk op n s kids =>
  have hs:(jN s kids&&sanes kids)=true:=hs
  rw [Bool.and_eq_true] at hs
  have hall:=shals_all kids hs.2
  intro cs l st he hl hst
  have hcl:=he.closeds
  obtain ⟨ka,rows,rfl,hsl,hfl,hks⟩:=he
  have key:=fun R=>@F25 op n s ka (l:Int) st R
  simp only [show ∀a b c d:AV,zq 4 (.agg [a,b,c,d])=some [a,b,c,d] from fun _ _ _ _=>rfl,bind_some] at key
  generalize hS:(zh.free 0::XB [.int .i64 op,.int .i64 n,.str s,ka]::st:St)=S at key
  have ga:St.get S st.length=some (XB [.int .i64 op,.int .i64 n,.str s,ka]):=by rw [←hS];exact zG (qz rfl)
  have hu:Up st S:=by rw [←hS];exact ((Up.refl st).push _).push _
  have hc:Cl S:=by rw [←hS];exact (hst.cons (x:=XB [.int .i64 op,.int .i64 n,.str s,ka]) (hcl _)).cons rfl
  have hk:kids.length<1000000000:=by have:=hs.1;simp [jN] at this;exact this.2
  cases l with
  |zero =>
   refine key _ ?_
   rw [show (((0:Nat):Int)==0)=true from rfl,cond_true]
   exact zU hu hst rfl rfl
  |succ l =>
   refine key _ ?_
   rw [show (((l+1:Nat):Int)==0)=false by rw [beq_eq_false_iff_ne];omega,cond_false]
   exact FV hsl hks hk l (by omega) st.length st S hu hst hc rfl ga kids 0 rfl (by omega) hall
termination_by structural e
theorem shals_all (es:List Ex) (hs:sanes es=true):∀e ∈ es,Dj e:=by
 match es with
 |[]=>intro e he;simp at he
 |x::r =>
  have hs:(Zr x&&sanes r)=true:=hs
  rw [Bool.and_eq_true] at hs
  have g1:=MD x hs.1
  have g2:=shals_all r hs.2
  intro e he
  rcases List.mem_cons.1 he with rfl | he
  ·exact g1
  ·exact g2 e he
termination_by structural es
end
theorem NC {e:Ex} (hs:Zr e=true) {cs:List AV} (he:ExR e cs) {st:St} (hst:Cl st):cw 11 [.agg cs] st=some (.ret (.bool (CZ e 4096)),st):=by
 obtain ⟨op,n,s,kids⟩:=e
 have hev:=he
 have hcl:=he.closeds
 obtain ⟨ka,rows,rfl,hsl,hfl,hks⟩:=he
 have key:=fun R=>@F11 op n s ka st R
 simp only [show ∀a b c d:AV,zq 4 (.agg [a,b,c,d])=some [a,b,c,d] from fun _ _ _ _=>rfl,bind_some] at key
 generalize hS:(zh.free 0::XB [.int .i64 op,.int .i64 n,.str s,ka]::st:St)=S at key
 have ga:St.get S st.length=some (XB [.int .i64 op,.int .i64 n,.str s,ka]):=by rw [←hS];exact zG (qz rfl)
 have hu:Up st S:=by rw [←hS];exact ((Up.refl st).push _).push _
 have hc:Cl S:=by rw [←hS];exact (hst.cons (x:=XB [.int .i64 op,.int .i64 n,.str s,ka]) (hcl _)).cons rfl
 have h:=MD _ hs _ 4096 S hev (by omega) hc
 have h':cw 25 [.agg [.int .i64 op,.int .i64 n,.str s,ka],.int .i64 4096] S=_:=h
 simp only [zn ga,show zj [AV.int .i64 op,.int .i64 n,.str s,ka] 0 4 true=some (.agg [.int .i64 op,.int .i64 n,.str s,ka]) from rfl,bind_some,h',zi,zp] at key
 exact key _ (zU hu hst rfl rfl)
end Go.Abs
namespace Go.Abs
open Go Go.Proofs Go.IntWalk Go.Abs.X
theorem Fw {ka kb:AV} {ra rb:List (List AV)} (ha:Sl 4 ka ra) (hb:Sl 4 kb rb) (xa bs:List Ex) (hla:ra.length=xa.length) (hlb:rb.length=bs.length) (hl:xa.length=bs.length) (hl2:xa.length<1000000000) (st:St)
  (hab:∀(i:Nat) (a b:Ex),xa[i]?=some a→bs[i]?=some b→∃ca cb,ra[i]?=some ca∧rb[i]?=some cb∧ca.length=4∧cb.length=4∧cw 8 [.agg ca,.agg cb] st=some (.ret (.bool (Ex.beq a b)),st)) :
  ∀(xs ys:List Ex) (i:Nat),xa.drop i=xs→bs.drop i=ys→i≤xa.length →
   aw 23 st.length Eh ⟨[(0,ka),(1,kb),(5,.int .i64 (i:Int))],[]⟩ st=some (.ret (.bool (Ex.beqs xs ys)),st):=by
 intro xs
 induction xs with
 |nil =>
  intro ys i hx hy hi
  have h1:=List.drop_eq_nil_iff.1 hx
  have:ys=[]:=by rw [←hy];exact List.drop_eq_nil_of_le (by omega)
  subst this
  refine IY _ _ _ _ _ ?_
  rw [ha.len,hla,bind_some,zk,bind_some,decide_eq_false (by omega),cond_false,zx]
  rfl
 |cons x xs ih =>
  intro ys i hx hy hi
  have h1:i<xa.length:=by have:=congrArg List.length hx;simp at this;omega
  have hxi:xa[i]?=some x:=by
   have:(xa.drop i)[0]?=some x:=by rw [hx];rfl
   rw [List.getElem?_drop] at this;simpa using this
  have hxr:xa.drop (i+1)=xs:=by rw [←List.drop_drop,hx];rfl
  match ys,hy with
  |[],hy=>have:=List.drop_eq_nil_iff.1 hy;omega
  |y::ys,hy =>
   have hyi:bs[i]?=some y:=by
    have:(bs.drop i)[0]?=some y:=by rw [hy];rfl
    rw [List.getElem?_drop] at this;simpa using this
   have hyr:bs.drop (i+1)=ys:=by rw [←List.drop_drop,hy];rfl
   obtain ⟨ca,cb,g1,g2,g3,g4,g5⟩:=hab i x y hxi hyi
   refine IY _ _ _ _ _ ?_
   rw [ha.len,hla,bind_some,zk,bind_some,decide_eq_true (by omega),cond_true]
   simp only [zO,bind_some,ha.at g1,hb.at g2,Zx,VF _ 4 g3,VF _ 4 g4,g5,zi,zp]
   simp only [Ex.beqs]
   cases hxy:Ex.beq x y with
   |false=>simp only [Bool.not_false,cond_true,zx,Bool.false_and]
   |true =>
    simp only [Bool.not_true,cond_false,Bool.true_and,e1i (show i<1000000000000 by omega)]
    exact ih ys (i+1) hxr hyr (by omega)
theorem CQ (xa:List Ex) (bs:List Ex) (ka kb:AV) (ra rb:List (List AV)) (h1:Sl 4 ka ra) (h2:Sl 4 kb rb) (h3:ExRs xa ra) (h4:ExRs bs rb) (hsb:sanes bs=true) {sa sb:B} (hla:jN sa xa=true) (hlb:jN sb bs=true) (st:St) (hst:Cl st) (hall:∀a ∈ xa,∀(b:Ex) (ca cb:List AV),ExR a ca→ExR b cb→Zr b=true→cw 8 [.agg ca,.agg cb] st=some (.ret (.bool (Ex.beq a b)),st)) :
  cw 23 [ka,kb] st=some (.ret (.bool (Ex.beqs xa bs)),st):=by
 have hl:xa.length<1000000000:=by simp [jN] at hla;exact hla.2
 refine F23 _ _ _ ?_
 rw [h1.len,h2.len,bind_some,zk,bind_some,bind_some,zk,bind_some,h3.len,h4.len]
 by_cases hn:xa.length=bs.length
 ·rw [show ((xa.length:Int) != (bs.length:Int))=false by simp [hn],cond_false]
  refine Fw h1 h2 xa bs h3.len h4.len hn hl st ?_ xa bs 0 rfl rfl (by omega)
  intro i a b hi hj
  obtain ⟨ca,g1,g2⟩:=h3.at i a hi
  obtain ⟨cb,g3,g4⟩:=h4.at i b hj
  have hsb':Zr b=true:=by
   have:∀(bs:List Ex),sanes bs=true→∀b ∈ bs,Zr b=true:=by
    intro bs
    induction bs with
    |nil=>intro _ b hb;simp at hb
    |cons x bs ih =>
     intro h b hb
     have h:(Zr x&&sanes bs)=true:=h
     rw [Bool.and_eq_true] at h
     rcases List.mem_cons.1 hb with rfl | hb
     ·exact h.1
     ·exact ih h.2 b hb
   exact this bs hsb b (List.mem_of_getElem? hj)
  exact ⟨ca,cb,g1,g3,g2.len,g4.len,hall a (List.mem_of_getElem? hi) b ca cb g2 g4 hsb'⟩
 ·rw [show ((xa.length:Int) != (bs.length:Int))=true by simp;omega,cond_true,zx]
  have:Ex.beqs xa bs=false:=by
   cases h:Ex.beqs xa bs with
   |false=>rfl
   |true=>exact absurd (by rw [(Ex.beqs_iff xa bs).1 h]) hn
  rw [this]
mutual
theorem DT (a:Ex) (hsa:Zr a=true) (b:Ex) (ca cb:List AV) (h1:ExR a ca) (h2:ExR b cb) (hsb:Zr b=true) (st:St) (hst:Cl st):cw 8 [.agg ca,.agg cb] st=some (.ret (.bool (Ex.beq a b)),st):=by
 match a,b with
 | .mk oa na sa kas,.mk ob nb sb kbs =>
  have hcla:=h1.closeds
  have hclb:=h2.closeds
  obtain ⟨ka,ra,rfl,ha1,ha2,ha3⟩:=h1
  obtain ⟨kb,rb,rfl,hb1,hb2,hb3⟩:=h2
  have hsa:(jN sa kas&&sanes kas)=true:=hsa
  have hsb:(jN sb kbs&&sanes kbs)=true:=hsb
  rw [Bool.and_eq_true] at hsa hsb
  have key:=fun R=>@F8 oa na sa ka ob nb sb kb st R
  simp only [show ∀a b c d:AV,zq 4 (.agg [a,b,c,d])=some [a,b,c,d] from fun _ _ _ _=>rfl,bind_some,List.length_cons] at key
  generalize hS:(zh.free 0::XB [.int .i64 ob,.int .i64 nb,.str sb,kb]::zh.free 0::XB [.int .i64 oa,.int .i64 na,.str sa,ka]::st:St)=S at key
  have ga:St.get S st.length=some (XB [.int .i64 oa,.int .i64 na,.str sa,ka]):=by rw [←hS];exact zG (zG (zG (qz rfl)))
  have gb:St.get S (st.length+1+1)=some (XB [.int .i64 ob,.int .i64 nb,.str sb,kb]):=by rw [←hS];exact zG (qz rfl)
  have hu:Up st S:=by rw [←hS];exact (((Up.refl st).push _).push _).push _ |>.push _
  have hc:Cl S:=by rw [←hS];exact (((hst.cons (x:=XB [.int .i64 oa,.int .i64 na,.str sa,ka]) (hcla _)).cons rfl).cons (x:=XB [.int .i64 ob,.int .i64 nb,.str sb,kb]) (hclb _)).cons rfl
  have ho:∀b:Bool,ze false st.length (.ret (.bool b)) S=some (.ret (.bool b),st):=fun b=>zU hu hst rfl rfl
  have hrec:=CQ kas kbs ka kb ra rb ha1 hb1 ha3 hb3 hsb.2 hsa.1 hsb.1 S hc (sames_all kas hsa.2 S hc)
  simp only [zn ga,zn gb,show ∀a b c d:AV,zj [a,b,c,d] 0 1 false=some a from fun _ _ _ _=>rfl,show ∀a b c d:AV,zj [a,b,c,d] 1 1 false=some b from fun _ _ _ _=>rfl,show ∀a b c d:AV,zj [a,b,c,d] 2 1 false=some c from fun _ _ _ _=>rfl,show ∀a b c d:AV,zj [a,b,c,d] 3 1 false=some d from fun _ _ _ _=>rfl,
   bind_some,zk,zr,qr,zp,hrec,zi,ho] at key
  simp only [Ex.beq]
  cases e1:(oa==ob) with
  |false=>rw [e1] at key;exact key _ rfl
  |true =>
   cases e2:(na==nb) with
   |false=>rw [e1,e2] at key;exact key _ rfl
   |true =>
    cases e3:(sa==sb) with
    |false=>rw [e1,e2,e3] at key;exact key _ rfl
    |true=>rw [e1,e2,e3] at key;exact key _ rfl
termination_by structural a
theorem sames_all (xa:List Ex) (hsa:sanes xa=true) (st:St) (hst:Cl st):∀a ∈ xa,∀(b:Ex) (ca cb:List AV),ExR a ca→ExR b cb→Zr b=true→cw 8 [.agg ca,.agg cb] st=some (.ret (.bool (Ex.beq a b)),st):=by
 match xa with
 |[]=>intro a ha;simp at ha
 |x::r =>
  have hsa:(Zr x&&sanes r)=true:=hsa
  rw [Bool.and_eq_true] at hsa
  have g1:=fun b ca cb p1 p2 p3=>DT x hsa.1 b ca cb p1 p2 p3 st hst
  have g2:=sames_all r hsa.2 st hst
  intro a ha
  rcases List.mem_cons.1 ha with rfl | ha
  ·exact g1
  ·exact g2 a ha
termination_by structural xa
end
end Go.Abs
namespace Go.Abs.X
def Jw (op n:Int) (s:B) (ks:List (Nat→List Tk)):List Tk :=
 let k:=fun i l=>(ks.getD i fun _=>[]) l
 match qR op with
 |some (m,l)=>k 0 l++.sign m::k 1 (l+1)
 |none =>
  if op=31 then k 0 1++.sign [63]::k 1 0++.sign [58]::k 2 0
  else if op=10 then .sign [45]::k 0 12
  else if op=11 then .sign [33]::k 0 12
  else if op=7 then k 0 13++[.sign [46],.name s]
  else if op=8 then k 0 13++.sign [91]::k 1 0++[.sign [93]]
  else if op=9 then .name (calls.getD (n.toNat - 1) [])::.sign [40]::k 0 0++[.sign [41]]
  else if op=4 then [.num n.toNat]
  else if op=5 then [.text s]
  else if op=6 then [.name s]
  else if op=1 then [.name [110,117,108,108]]
  else if op=2 then [.name [102,97,108,115,101]]
  else if op=3 then [.name [116,114,117,101]]
  else []
def wrap (b:Bool) (w:List Tk):List Tk:=if b then .sign [40]::w++[.sign [41]] else w
mutual
def QP:Ex→Nat→List Tk
 | .mk op n s kids,least=>wrap (decide (level op<least)) (Jw op n s (putTs kids))
termination_by structural x=>x
def putTs:List Ex→List (Nat→List Tk)
 |[]=>[]
 |e::r=>QP e::putTs r
termination_by structural x=>x
end
def Ag:List T→List Tk→Prop
 |[],_=>False
 |[t],[]=>t.k = .fin
 |_::_::_,[]=>False
 |t::ts,k::ks=>t.k=k∧(∀c p,k≠.bad c p)∧((∃p a,ts=[⟨.bad 1002 p,a⟩])∨Ag ts ks)
theorem Ag.cons {t:T} {ts:List T} {k:Tk} {ks:List Tk}:Ag (t::ts) (k::ks)↔t.k=k∧(∀c p,k≠.bad c p)∧((∃p a,ts=[⟨.bad 1002 p,a⟩])∨Ag ts ks):=by
 cases ts<;>rfl
def hdS (ks:List Tk) (x:B):Bool:=match ks with
 | .sign y::_=>y==x
 |_=>false
theorem Ag.isS {ts:List T} {ks:List Tk} (h:Ag ts ks) (x:B):isS ts x=hdS ks x:=by
 match ts,ks,h with
 |[t],[],h=>obtain ⟨k,a⟩:=t;simp only [Ag] at h;subst h;rfl
 |⟨k,a⟩::ts,k'::ks,h=>obtain ⟨h1,_⟩:=Ag.cons.1 h;simp only at h1;subst h1;cases k<;>rfl
theorem Ag.fin {ts:List T} {ks:List Tk} {k:Tk} (h:Ag ts (k::ks)) (hk:k≠.fin):XE ts=false:=by
 match ts,h with
 |⟨k',a⟩::ts,h=>obtain ⟨h1,_⟩:=Ag.cons.1 h;simp only at h1;subst h1;cases k'<;>first | rfl | exact absurd rfl hk
theorem Ag.head {ts:List T} {ks:List Tk} {k:Tk} (h:Ag ts (k::ks)):∃a r,ts=⟨k,a⟩::r:=by
 match ts,h with
 |⟨k',a⟩::ts,h=>obtain ⟨h1,_⟩:=Ag.cons.1 h;simp only at h1;subst h1;exact ⟨a,ts,rfl⟩
theorem Ag.ne {ts:List T} {ks:List Tk} (h:Ag ts ks):∃t r,ts=t::r∧∀c p,t.k≠.bad c p:=by
 match ts,ks,h with
 |[t],[],h=>exact ⟨t,[],rfl,fun c p hc=>by simp only [Ag] at h;rw [h] at hc;cases hc⟩
 |t::ts,k'::ks,h=>exact ⟨t,ts,rfl,fun c p hc=>(Ag.cons.1 h).2.1 c p ((Ag.cons.1 h).1.symm.trans hc)⟩
theorem Ag.nil {ts:List T} (h:Ag ts []):XE ts=true:=by
 match ts,h with
 |[⟨k,a⟩],h=>simp only [Ag] at h;subst h;rfl
def Bad (r:Res):Prop:=r=none∨∃c p,r=some (.error (c,p))∧(c=1001∨c=1002)
def QK (r:Res) (e:Ex) (ks:List Tk):Prop:=Bad r∨∃ts,r=ok e ts∧Ag ts ks
theorem Cx {ts:List T} {k:Tk} {ks:List Tk} (h:Ag ts (k::ks)) (K:List T→Res):Bad (adv ts K)∨∃u,Ag u ks∧adv ts K=K u:=by
 match ts,h with
 |t::ts,h =>
  obtain ⟨h1,h2,h3⟩:=Ag.cons.1 h
  rcases h3 with ⟨p,a,rfl⟩ | h3
  ·exact .inl (.inr ⟨1002,p,rfl,.inr rfl⟩)
  ·obtain ⟨u,r,hu,hb⟩:=h3.ne
   refine .inr ⟨ts,h3,?_⟩
   subst hu
   obtain ⟨k',a'⟩:=u
   cases k'<;>first | rfl | exact absurd rfl (hb _ _)
theorem BC {ts:List T} {k:Tk} {ks:List Tk} (h:Ag ts (k::ks)) {K:List T→Res} {e:Ex} {ks':List Tk} (hK:∀u,Ag u ks→QK (K u) e ks'):QK (adv ts K) e ks':=by
 rcases Cx h K with hb | ⟨u,hu,he⟩
 ·exact .inl hb
 ·rw [he];exact hK u hu
theorem DS {r:Res} {e:Ex} {ks:List Tk} (h:QK r e ks) {K:Ex→List T→Res} {e':Ex} {ks':List Tk} (hK:∀u,Ag u ks→QK (K e u) e' ks'):QK (andThen r K) e' ks':=by
 rcases h with (rfl | ⟨c,p,rfl,hc⟩) | ⟨u,rfl,hu⟩
 ·exact .inl (.inl rfl)
 ·exact .inl (.inr ⟨c,p,rfl,hc⟩)
 ·exact hK u hu
theorem HQ {s:B} {ts:List T} {ks:List Tk} (h:Ag ts (.sign s::ks)) {K:List T→Res} {e:Ex} {ks':List Tk} (hK:∀u,Ag u ks→QK (K u) e ks'):QK (want s ts K) e ks':=by
 unfold want
 rw [h.isS,show hdS (.sign s::ks) s=true by simp [hdS],if_pos rfl]
 exact BC h hK
theorem QK.okk {e:Ex} {ts:List T} {ks:List Tk} (h:Ag ts ks):QK (ok e ts) e ks:=.inr ⟨ts,rfl,h⟩
def UT (L:Nat) (ks:List Tk):Prop:=hdS ks [46]=false∧hdS ks [91]=false∧hdS ks [40]=false∧(∀M,L≤M→1≤M→M≤11→(levels.getD (M - 1) []).find? (fun p=>hdS ks p.1)=none)∧(L=0→hdS ks [63]=false)
theorem UT.mono {L M:Nat} {ks:List Tk} (h:UT L ks) (hm:L≤M):UT M ks :=
 ⟨h.1,h.2.1,h.2.2.1,fun N hn=>h.2.2.2.1 N (by omega),fun h0=>h.2.2.2.2 (by omega)⟩
def GU (L:Nat):Mode:=if L=0 then .whole else if L=13 then .part else if L=12 then .sign1 else .two (levels.drop (L - 1))
def C (w:List Tk) (e:Ex) (L:Nat):Prop:=∀n nest ts ks,Ag ts (w++ks)→UT L ks→QK (P n (GU L) nest ts) e ks
def D (w:List Tk) (e:Ex) (L:Nat):Prop:=∀n nest ts ks,Ag ts (w++ks)→(L=13→hdS ks [40]=false)→(L≤11→UT (L+1) ks)→Bad (P n (GU L) nest ts)∨∃m u,Ag u ks∧P n (GU L) nest ts=P m (if L=13 then .partL e else .loop (levels.getD (L - 1) []) (levels.drop L) e) nest u
theorem Bad.none:Bad none:=.inl rfl
theorem Io {L:Nat} (h1:1≤L) (h2:L≤11):levels.drop (L - 1)=levels.getD (L - 1) []::levels.drop L:=by
 have:L=1∨L=2∨L=3∨L=4∨L=5∨L=6∨L=7∨L=8∨L=9∨L=10∨L=11:=by omega
 rcases this with rfl | rfl | rfl | rfl | rfl | rfl | rfl | rfl | rfl | rfl | rfl<;>rfl
theorem HP {ts:List T} {ks:List Tk} (h:Ag ts ks) (l:List (B×Int)):l.find? (fun p=>isS ts p.1)=l.find? (fun p=>hdS ks p.1):=by
 congr 1;funext p;exact h.isS p.1
theorem FD {L:Nat} (h1:1≤L) (h2:L≤11):GU L = .two (levels.getD (L - 1) []::levels.drop L):=by
 unfold GU
 rw [if_neg (by omega),if_neg (by omega),if_neg (by omega),Io h1 h2]
theorem D.toC {w:List Tk} {e:Ex} {L:Nat} (h1:1≤L) (h2:L≤13) (h12:L≠12) (h:D w e L):C w e L:=by
 intro n nest ts ks ha hs
 rcases h n nest ts ks ha (fun _=>hs.2.2.1) (fun _=>hs.mono (by omega)) with hb | ⟨m,u,hu,he⟩
 ·exact .inl hb
 ·rw [he]
  match m with
  | 0=>exact .inl (.inl rfl)
  |m+1 =>
   by_cases h13:L=13
   ·rw [if_pos h13]
    show QK (if isS u [46] then _ else if isS u [91] then _ else ok e u) e ks
    rw [hu.isS,hs.1,hu.isS,hs.2.1]
    exact .okk hu
   ·rw [if_neg h13]
    show QK (match (levels.getD (L - 1) []).find? (fun p=>isS u p.1) with | none=>ok e u | some p=>_) e ks
    rw [HP hu,hs.2.2.2.1 L (Nat.le_refl _) h1 (by omega)]
    exact .okk hu
theorem Ir {n nest:Nat} {ts:List T} {e:Ex} {ks:List Tk} (h:∀n,QK (P n .sign1 nest ts) e ks):QK (P n (.two []) nest ts) e ks:=by
 match n with
 | 0=>exact .inl (.inl rfl)
 |n+1=>exact h n
theorem C.two {w:List Tk} {e:Ex} {L:Nat} (h1:1≤L) (h2:L≤11) (h:C w e (L+1)) {n nest:Nat} {ts:List T} {ks:List Tk} (ha:Ag ts (w++ks)) (hs:UT (L+1) ks):QK (P n (.two (levels.drop L)) nest ts) e ks:=by
 by_cases h11:L=11
 ·subst h11
  exact Ir fun n=>h n nest ts ks ha hs
 ·have:=h n nest ts ks ha hs
  unfold GU at this
  rwa [if_neg (by omega),if_neg (by omega),if_neg (by omega)] at this
theorem C.down {w:List Tk} {e:Ex} {L:Nat} (h1:1≤L) (h2:L≤11) (h:C w e (L+1)):D w e L:=by
 intro n nest ts ks ha _ hs
 rw [FD h1 h2,if_neg (by omega)]
 match n with
 | 0=>exact .inl (.inl rfl)
 |n+1 =>
  show Bad (andThen (P n (.two (levels.drop L)) nest ts) fun e ts=>P n (.loop (levels.getD (L - 1) []) (levels.drop L) e) nest ts)∨_
  rcases C.two h1 h2 h (n:=n) (nest:=nest) ha (hs h2) with (h0 | ⟨c,p,h0,hc⟩) | ⟨u,h0,hu⟩
  ·rw [h0];exact .inl (.inl rfl)
  ·rw [h0];exact .inl (.inr ⟨c,p,rfl,hc⟩)
  ·rw [h0];exact .inr ⟨n,u,hu,by show _=P n _ _ _;simp only [P];rw [h0];rfl⟩
def Jf (w:List Tk):Prop:=w≠[]∧(∀ks,hdS (w++ks) [45]=false)∧(∀ks,hdS (w++ks) [33]=false)∧w.head?≠some .fin
theorem C.down12 {w:List Tk} {e:Ex} (hw:Jf w) (h:C w e 13):C w e 12:=by
 intro n nest ts ks ha hs
 show QK (P n .sign1 nest ts) e ks
 match n with
 | 0=>exact .inl (.inl rfl)
 |n+1 =>
  show QK (if !XE ts&&decide (32<nest) then some (.error (1001,atT ts)) else if isS ts [45] then _ else if isS ts [33] then _ else P n .part nest ts) e ks
  split
  ·exact .inl (.inr ⟨1001,_,rfl,.inl rfl⟩)
  ·rw [ha.isS,hw.2.1,ha.isS,hw.2.2.1]
   exact h n nest ts ks ha (hs.mono (by omega))
theorem C.down0 {w:List Tk} {e:Ex} (h:C w e 1):C w e 0:=by
 intro n nest ts ks ha hs
 show QK (P n .whole nest ts) e ks
 match n with
 | 0=>exact .inl (.inl rfl)
 |n+1 =>
  have h1:QK (P n (.two levels) nest ts) e ks:=h n nest ts ks ha (hs.mono (by omega))
  refine DS (K:=fun e ts=>if isS ts [63] then _ else ok e ts) h1 fun u hu=>?_
  rw [hu.isS,hs.2.2.2.2 rfl]
  exact .okk hu
theorem C.all {w:List Tk} {e:Ex} (hw:Jf w):∀k L,L+k=13→C w e 13→C w e L∧(1≤L→L≤11→D w e L):=by
 intro k
 induction k with
 |zero=>intro L hL h;obtain rfl:L=13:=(by omega);exact ⟨h,fun _ h2=>(by omega)⟩
 |succ k ih =>
  intro L hL h
  have:=(ih (L+1) (by omega) h).1
  by_cases h0:L=0
  ·subst h0;exact ⟨this.down0,fun h1=>by omega⟩
  ·by_cases h12:L=12
   ·subst h12;exact ⟨this.down12 hw,fun _ h2=>by omega⟩
   ·have hd:=C.down (by omega) (by omega) this
    exact ⟨hd.toC (by omega) (by omega) h12,fun _ _=>hd⟩
theorem C.upto {w:List Tk} {e:Ex} {M:Nat} (hM:M≤12) (h:C w e M):∀k L,L+k=M→C w e L∧(1≤L→L<M→D w e L):=by
 intro k
 induction k with
 |zero=>intro L hL;obtain rfl:L=M:=(by omega);exact ⟨h,fun _ h2=>(by omega)⟩
 |succ k ih =>
  intro L hL
  have:=(ih (L+1) (by omega)).1
  by_cases h0:L=0
  ·subst h0;exact ⟨this.down0,fun h1=>by omega⟩
  ·have hd:=C.down (by omega) (by omega) this
   exact ⟨hd.toC (by omega) (by omega) (by omega),fun _ _=>hd⟩
theorem Nr {ks:List Tk}:UT 0 (.sign [41]::ks):=⟨rfl,rfl,rfl,fun M _ h1 h2=>by
 have:M=1∨M=2∨M=3∨M=4∨M=5∨M=6∨M=7∨M=8∨M=9∨M=10∨M=11:=by omega
 rcases this with rfl | rfl | rfl | rfl | rfl | rfl | rfl | rfl | rfl | rfl | rfl<;>rfl,fun _=>rfl⟩
theorem C.paren {w:List Tk} {e:Ex} (h:∀n nest ts ks,Ag ts (w++.sign [41]::ks)→QK (P n .whole nest ts) e (.sign [41]::ks)):D (.sign [40]::w++[.sign [41]]) e 13:=by
 intro n nest ts ks ha h40 _
 have ha':Ag ts (.sign [40]::(w++.sign [41]::ks)):=by simpa using ha
 show Bad (P n .part nest ts)∨_
 match n with
 | 0=>exact .inl (.inl rfl)
 |n+1 =>
  have key:QK (P n .word nest ts) e ks:=by
   match n with
   | 0=>exact .inl (.inl rfl)
   |n+1 =>
    obtain ⟨a,r,rfl⟩:=ha'.head
    rw [Ns]
    show QK (if isS (⟨.sign [40],a⟩::r) [40] then P n (.inside [41]) nest (⟨.sign [40],a⟩::r) else _) e ks
    rw [if_pos (show isS (⟨.sign [40],a⟩::r) [40]=true from rfl)]
    match n with
    | 0=>exact .inl (.inl rfl)
    |n+1 =>
     refine BC (K:=fun ts=>andThen (P n .whole (nest+1) ts) fun e ts=>want [41] ts fun ts=>ok e ts) ha' fun u hu=>?_
     refine DS (h n (nest+1) u ks hu) fun v hv=>?_
     exact HQ hv fun x hx=>.okk hx
  show Bad (andThen (P n .word nest ts) fun e ts=>P n (.partL e) nest ts)∨_
  rcases key with (h0 | ⟨c,p,h0,hc⟩) | ⟨u,h0,hu⟩
  ·rw [h0];exact .inl (.inl rfl)
  ·rw [h0];exact .inl (.inr ⟨c,p,rfl,hc⟩)
  ·exact .inr ⟨n,u,hu,by show andThen (P n .word nest ts) _=_;rw [h0];rfl⟩
end Go.Abs.X
namespace Go.Abs.X
def tab:List (Int×B×Nat):=levels.zipIdx.flatMap fun l=>l.1.map fun p=>(p.2,p.1,l.2+1)
def chk (y:Int×B×Nat):Bool:=decide (1≤y.2.2)&&decide (y.2.2≤11)&&decide (12≤y.1)&&decide (y.1≤30)&&((levels.getD (y.2.2 - 1) []).find? (fun p=>y.2.1==p.1)==some (y.2.1,y.1))
 && ((List.range 12).all fun M=>decide (M≤y.2.2)||(levels.getD (M - 1) []).find? (fun p=>y.2.1==p.1)==none) && !(y.2.1==[46]) && !(y.2.1==[91]) && !(y.2.1==[40])
theorem Iv:∀y ∈ tab,chk y=true:=List.all_eq_true.1 (by decide)
theorem YG {op:Int} {x:B×Nat} (h:qR op=some x):(op,x) ∈ tab:=by
 unfold qR at h
 split at h
 ·rename_i y hy
  cases h
  have h1:=List.mem_of_find?_eq_some hy
  have h2:=List.find?_some hy
  have:y.1=op:=by simpa using h2
  subst this;exact h1
 ·cases h
theorem Nt {op:Int} (h1:12≤op) (h2:op≤30):∃x,qR op=some x:=by
 have hall:∀k<19,((qR (12+(k:Nat))).isSome)=true:=by decide
 have:=hall (op - 12).toNat (by omega)
 rw [show (12+((op - 12).toNat:Int))=op by omega] at this
 exact Option.isSome_iff_exists.1 this
theorem D.word {w:List Tk} {e:Ex} (h:∀n nest ts ks,Ag ts (w++ks)→hdS ks [40]=false→QK (P n .word nest ts) e ks):D w e 13:=by
 intro n nest ts ks ha h40 _
 show Bad (P n .part nest ts)∨_
 match n with
 | 0=>exact .inl (.inl rfl)
 |n+1 =>
  show Bad (andThen (P n .word nest ts) fun e ts=>P n (.partL e) nest ts)∨_
  rcases h n nest ts ks ha (h40 rfl) with (h0 | ⟨c,p,h0,hc⟩) | ⟨u,h0,hu⟩
  ·rw [h0];exact .inl (.inl rfl)
  ·rw [h0];exact .inl (.inr ⟨c,p,rfl,hc⟩)
  ·exact .inr ⟨n,u,hu,by show andThen (P n .word nest ts) _=_;rw [h0];rfl⟩
theorem WL {n:Int} (h1:1≤n) (h2:n≤8):qy (calls.getD (n.toNat - 1) [])=0∧Zj (calls.getD (n.toNat - 1) [])=n.toNat∧qf (calls.getD (n.toNat - 1) [])=true∧n.toNat≠0:=by
 have:n=1∨n=2∨n=3∨n=4∨n=5∨n=6∨n=7∨n=8:=by omega
 rcases this with rfl | rfl | rfl | rfl | rfl | rfl | rfl | rfl<;>decide
theorem Bk {op:Int} {k:Nat} (h:zZ op=k) (hb:¬(12≤op∧op≤30)):op=31∧k=3∨op=10∧k=1∨op=11∧k=1∨op=7∧k=1∨op=8∧k=2∨op=9∧k=1∨op=4∧k=0∨op=5∧k=0∨op=6∧k=0∨op=1∧k=0∨op=2∧k=0∨op=3∧k=0:=by
 unfold zZ at h
 by_cases h1:1≤op∧op≤6
 ·rw [if_pos h1] at h
  have:op=1∨op=2∨op=3∨op=4∨op=5∨op=6:=by omega
  have hk:k=0:=by omega
  rcases this with rfl | rfl | rfl | rfl | rfl | rfl<;>simp [hk]
 ·rw [if_neg h1] at h
  by_cases h2:op=7∨op=9∨op=10∨op=11
  ·rw [if_pos h2] at h
   have hk:k=1:=by omega
   rcases h2 with rfl | rfl | rfl | rfl<;>simp [hk]
  ·rw [if_neg h2] at h
   by_cases h3:op=31
   ·rw [if_pos h3] at h
    have hk:k=3:=by omega
    simp [h3,hk]
   ·rw [if_neg h3] at h
    by_cases h4:op=8∨12≤op∧op≤30
    ·rw [if_pos h4] at h
     have hk:k=2:=by omega
     rcases h4 with rfl | h4
     ·simp [hk]
     ·exact absurd h4 hb
    ·rw [if_neg h4] at h;omega
theorem Xh {op:Int} {k:Nat} (h:zZ op=k):(∃x,qR op=some x∧k=2)∨qR op=none∧(op=31∧k=3∨op=10∧k=1∨op=11∧k=1∨op=7∧k=1∨op=8∧k=2∨op=9∧k=1∨op=4∧k=0∨op=5∧k=0∨op=6∧k=0∨op=1∧k=0∨op=2∧k=0∨op=3∧k=0):=by
 by_cases hb:12≤op∧op≤30
 ·left
  obtain ⟨x,hx⟩:=Nt hb.1 hb.2
  refine ⟨x,hx,?_⟩
  unfold zZ at h
  rw [if_neg (by omega),if_neg (by omega),if_neg (by omega),if_pos (by omega)] at h
  omega
 ·right
  have:=Bk h hb
  refine ⟨?_,this⟩
  rcases this with ⟨rfl,_⟩ | ⟨rfl,_⟩ | ⟨rfl,_⟩ | ⟨rfl,_⟩ | ⟨rfl,_⟩ | ⟨rfl,_⟩ | ⟨rfl,_⟩ | ⟨rfl,_⟩ | ⟨rfl,_⟩ | ⟨rfl,_⟩ | ⟨rfl,_⟩ | ⟨rfl,_⟩<;>rfl
def All (e:Ex):Prop:=(∀L,L≤13→C (QP e L) e L∧(1≤L→L≠12→D (QP e L) e L))∧Jf (QP e 13)
theorem KI (w:List Tk):Jf (.sign [40]::w):=⟨by simp,fun _=>rfl,fun _=>rfl,by simp⟩
theorem Jf.app {w:List Tk} (h:Jf w) (v:List Tk):Jf (w++v):=by
 refine ⟨fun h0=>h.1 (List.append_eq_nil_iff.1 h0).1,fun ks=>?_,fun ks=>?_,?_⟩
 ·rw [List.append_assoc];exact h.2.1 _
 ·rw [List.append_assoc];exact h.2.2.1 _
 ·obtain ⟨h1,_,_,h4⟩:=h
  cases w with
  |nil=>exact absurd rfl h1
  |cons=>exact h4
theorem Wk {op n:Int} {s:B} {ks:List Ex} {L:Nat} (h:L≤level op):QP (.mk op n s ks) L=Jw op n s (putTs ks):=by
 simp only [QP,wrap];rw [decide_eq_false (by omega)];rfl
theorem Uu {op n:Int} {s:B} {ks:List Ex} {L:Nat} (h:level op<L):QP (.mk op n s ks) L = .sign [40]::Jw op n s (putTs ks)++[.sign [41]]:=by
 simp only [QP,wrap];rw [decide_eq_true h];rfl
theorem CS (op:Int):level op≤13:=by
 unfold level
 split
 ·rename_i x hx
  have:=Iv _ (YG hx)
  simp only [chk,Bool.and_eq_true,decide_eq_true_eq] at this
  omega
 ·split
  ·omega
  ·split<;>omega
theorem zaf {op n:Int} {s:B} {ks:List Ex} (hC:C (Jw op n s (putTs ks)) (.mk op n s ks) (level op)) (hD:1≤level op→level op≠12→D (Jw op n s (putTs ks)) (.mk op n s ks) (level op)) (hN:level op=13→Jf (Jw op n s (putTs ks))):All (.mk op n s ks):=by
 have hl:=CS op
 by_cases h13:level op=13
 ·refine ⟨fun L hL=>?_,?_⟩
  ·rw [Wk (by omega)]
   have:=C.all (hN h13) (13 - L) L (by omega) (h13▸hC)
   refine ⟨this.1,fun h1 h2=>?_⟩
   by_cases h3:L=13
   ·subst h3;rw [←h13];exact hD (by omega) (by omega)
   ·exact this.2 h1 (by omega)
  ·rw [Wk (by omega)];exact hN h13
 ·have h0:C (Jw op n s (putTs ks)) (.mk op n s ks) 0:=(C.upto (by omega) hC (level op) 0 (by omega)).1
  have hp:D (.sign [40]::Jw op n s (putTs ks)++[.sign [41]]) (.mk op n s ks) 13:=C.paren fun n nest ts ks' ha=>h0 n nest ts _ ha Nr
  have hpn:Jf (.sign [40]::Jw op n s (putTs ks)++[.sign [41]]):=KI _
  refine ⟨fun L hL=>?_,by rw [Uu (by omega)];exact hpn⟩
  by_cases h:L≤level op
  ·rw [Wk h]
   have:=C.upto (by omega) hC (level op - L) L (by omega)
   refine ⟨this.1,fun h1 h2=>?_⟩
   by_cases h3:L=level op
   ·subst h3;exact hD h1 h2
   ·exact this.2 h1 (by omega)
  ·rw [Uu (by omega)]
   have:=C.all hpn (13 - L) L (by omega) (hp.toC (by omega) (by omega) (by omega))
   refine ⟨this.1,fun h1 h2=>?_⟩
   by_cases h3:L=13
   ·subst h3;exact hp
   ·exact this.2 h1 (by omega)
theorem FN {l:List Ex} (h:l.length=2):∃a b,l=[a,b]:=by
 match l,h with
 |[a,b],_=>exact ⟨a,b,rfl⟩
theorem zaB {l:List Ex} (h:l.length=3):∃a b c,l=[a,b,c]:=by
 match l,h with
 |[a,b,c],_=>exact ⟨a,b,c,rfl⟩
theorem leaf {op n:Int} {s:B} {w:List Tk} (hl:level op=13) (hb:Jw op n s (putTs [])=w) (hD:D w (.mk op n s []) 13) (hN:Jf w):All (.mk op n s []):=by
 subst hb
 exact zaf (hl▸hD.toC (by omega) (by omega) (by omega)) (fun _ _=>hl▸hD) (fun _=>hN)
end Go.Abs.X
