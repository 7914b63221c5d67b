/-
  Texts of this claim, put together: NodeSpec3, NodeLaw3, NodeLaw4, KeyCopy, NodeWake, CNFull, NFull.
  Conditions: those of each theorem.
-/
import Derived.Test.YtmkehncgjnhhcaaGreatDoorQNF22x0
import Derived.Test.YtmkehncgjnhhcaaGreatDoorQNF22x2
import Derived.Test.YtmkehncgjnhhcaaGreatDoorQNF22x3
import Derived.Test.YtmkehncgjnhhcaaGreatDoorQNF22x4
import Derived.Test.YtmkehncgjnhhcaaGreatDoorQNF22x6
import Derived.KernelRfl
import Derived.Test.YtmkehncgjnhhcaaGreatDoorProg
set_option linter.unusedVariables false
set_option maxRecDepth 100000
namespace Go.Proofs.YtmkehncgjnhhcaaGreatDoor
open Vc
namespace Vc
def DG:(a b:List Ck)->Cs a->Cs b->Cs (a++b)
 | [],_,_,y=>y
 | _::a,b,x,y=>(x.1,DG a b x.2 y)
theorem Qf:∀ (a b:List Ck) (x:Cs a) (y:Cs b),Cs.vals (a++b) (DG a b x y)=Cs.vals a x++Cs.vals b y
 | [],_,_,_=>rfl
 | c::a,b,x,y=>by
  show c.val x.1::Cs.vals (a++b) (DG a b x.2 y)=c.val x.1::(Cs.vals a x.2++Cs.vals b y);rw[Qf a b x.2 y]
end Vc
abbrev ym:List Ck:=[.int .i64,.ptr,.ptr,.int .i64,.str,.str,.str,.str,.int .i64,.int .i64,.raw,.bool,.int .i64,.str,.str,.str,.str,.int .i64,.int .i64,.raw,.bool,.bool,.bool,.int .i64]
def Qg (p:PeerM)(c l:Nat):Cs ym:=
 (p.side,some ⟨c,0,none⟩,some ⟨l,0,none⟩,p.off.1.e.1,p.off.1.e.2.1,p.off.1.e.2.2.1,p.off.1.e.2.2.2.1,p.off.1.e.2.2.2.2.1,p.off.1.e.2.2.2.2.2.1,p.off.1.e.2.2.2.2.2.2.1,p.off.1.e.2.2.2.2.2.2.2.1,p.off.2,p.aY.1.e.1,p.aY.1.e.2.1,p.aY.1.e.2.2.1,p.aY.1.e.2.2.2.1,p.aY.1.e.2.2.2.2.1,p.aY.1.e.2.2.2.2.2.1,p.aY.1.e.2.2.2.2.2.2.1,p.aY.1.e.2.2.2.2.2.2.2.1,p.aY.2,p.wanted,p.bG,p.refused,())
theorem abq (p:PeerM)(c l:Nat):Cs.vals ym (Qg p c l)=ix p c l:=rfl
theorem abr {p:PeerM}(U:p.kb.length=16)(c l:Nat):∃ x:Cs (nH++ym),Cs.vals (nH++ym) x=cT p.kb++ix p c l:=by
 obtain⟨y,hy⟩:=IE 16 p.kb U;refine⟨DG nH ym y (Qg p c l),?_⟩;rw[Qf,abq];have hy:cT p.kb=Cs.vals nH y:=hy;rw[hy]
theorem abt (p:PeerM)(c l:Nat):(cT p.kb++ix p c l).all bI=true:=by
 rw[List.all_append,Bool.and_eq_true];refine⟨?_,?_⟩
 ·rw[List.all_eq_true]
  intro v hv;obtain⟨b,_,rfl⟩:=List.mem_map.1 hv;rfl
 ·unfold ix
  simp only[List.all_append,vP,List.all_cons,List.all_nil];rfl
theorem abu (p:PeerM)(c l c' l':Nat):((ix p c l).set 1 (.pointer (some ⟨c',0,none⟩))).set 2 (.pointer (some ⟨l',0,none⟩))=ix p c' l':=rfl
theorem abv {w:World}{F:Nat->Prop}{b:Nat}{p:PeerM}(h:cU w F b p)(ho:cO p):Ret Tryz.prog 68 #[.pointer (some ⟨b,0,none⟩)] w fun r w'=>∃ d,r=.pointer (some ⟨d,0,none⟩)/\cU w' (cC w w') d p/\Fr none1 w w':=by
 obtain⟨c,l,Fc,Fl,h⟩:=h;have U:=ho.kb;have hn:=ho.num;have hh:=ho.hs;have hd:=ho.cd.num;refine c68 _ w _ ?_;unfold C68;obtain⟨x,hx⟩:=abr U c l;refine⟨x,?_,?_⟩
 ·refine Eq.mp (congrArg (jA w ⟨b,0,none⟩ 0) hx.symm) ?_
  exact nP h.aE _ 0 fun j _=>by simp
 refine ak.of fun g w1 hg au f1 s1=>?_;refine ar.aE (vs:=Cs.vals (nH++ym) x) au (by rw[hx,List.length_append,kD,U];rfl) (by rw[hx];exact abt p c l) fun w2 aK f2 s2=>aD.of fun w3 _ f3=>aV.of (fun k=>k=b) ?_;rw[hx] at aK;have aK:w2.heap[g]? = some (.cells (cT p.kb++ix p c l).toArray 138 (0,0)):=aK;have gl:w.heap.size<=g:=by omega
 have f13:Fr none1 w w3:=(f1.fresh f2 gl).dh f3;have h3:=h.af f13;have aU:=f3.af aK;have bl:=bQ h.aE;have yl:∀ k,k=b->¬ (only g) k:=fun k U t=>by have t:k=g:=t;omega
 refine⟨rfl,h3.bX U 1 (ck:=.ptr) (x:=some ⟨c,0,none⟩) rfl ⟨rfl,h3.bX U 2 (ck:=.ptr) (x:=some ⟨l,0,none⟩) rfl ?_⟩⟩;refine ab.of (IG U h3.ch (by omega) (by omega)) ?_;rintro _ w4 ⟨c',rfl,DA,f4⟩;refine⟨some ⟨c',0,none⟩,rfl,ai.of f4 ?_⟩;refine ab.of (Di (h3.af f4).ld (by omega)) ?_;rintro _ w5 ⟨l',rfl,DB,f5⟩;refine⟨some ⟨l',0,none⟩,rfl,ai.of f5 ?_⟩;have cW:=(f4.trans f5).af aU;refine rB U cW 1 (by rw[qy];decide) rfl fun w6 fI f6 s6=>ai.on f6 yl ?_;refine rB U fI 2 (by rw[List.length_set,qy];decide) rfl fun w7 gP f7 s7=>ai.on f7 yl ?_;rw[abu p c l c' l'] at gP;have z3:=f13.size;have z4:=f4.size;have z5:=f5.size;have gg:g<w3.heap.size:=bQ aU;have f57:Fr (only g) w5 w7:=f6.trans f7;refine⟨g,rfl,⟨c',l',_,_,gP,(DA.af f5).ag f57 (fun k U t=>?_),DB.ag f57 (fun k U t=>?_),fun k U=>⟨⟨by have:=U.1;omega,by have:=U.2;have:=f57.size;omega⟩,by have:=U.1;omega⟩,fun k U=>⟨⟨by have:=U.1;omega,by have:=U.2;have:=f57.size;omega⟩,by have:=U.1;omega⟩,⟨gl,by have:=f57.size;omega⟩⟩,((f13.trans f4).trans f5).fresh f57 gl⟩
 ·have t:k=g:=t
  have:=U.1;omega
 ·have t:k=g:=t
  have:=U.1;omega
theorem abw {w:World}{F:Nat->Prop}{b:Nat}{p:PeerM}(h:cU w F b p)(U:p.kb.length=16):Ret Tryz.prog 29 #[.pointer (some ⟨b,0,none⟩)] w fun r w'=>r=.tuple #[gX p.aY.1.e,.bool p.aY.2]/\Fr none1 w w':=by
 obtain⟨c,l,Fc,Fl,h⟩:=h;refine c29 _ w _ ?_;unfold C29;refine ak.of fun g w1 hg au f1 s1=>aD.of fun w2 _ f2=>aV.of (fun k=>k=b) ?_;have f12:=f1.trans f2;have h2:=h.af f12;have bl:=bQ h.aE;refine⟨rfl,h2.q8 U 12 (cks:=gH) p.aY.1.e (fun j hj=>?_) ⟨rfl,h2.bX U 20 (ck:=.bool) (x:=p.aY.2) rfl ?_⟩⟩
 ·match j,hj with
  | 0,_=>rfl
  | 1,_=>rfl
  | 2,_=>rfl
  | 3,_=>rfl
  | 4,_=>rfl
  | 5,_=>rfl
  | 6,_=>rfl
  | 7,_=>rfl
 refine ar.aE (vs:=gz p.aY.1.e) (f2.af au) rfl (vP _) fun w3 aU f3 s3=>ai.on f3 (fun k U t=>by have t:k=g:=t;omega) ?_;exact aq.aE (cks:=gH) (x:=p.aY.1.e) aU ⟨rfl,f12.fresh f3 (by omega)⟩
theorem abx {w:World}{F:Nat->Prop}{b:Nat}{p:PeerM}(h:cU w F b p)(U:p.kb.length=16):Ret Tryz.prog 28 #[.pointer (some ⟨b,0,none⟩)] w fun r w'=>r=.tuple #[gX p.off.1.e,.bool p.off.2]/\Fr none1 w w':=by
 obtain⟨c,l,Fc,Fl,h⟩:=h;refine c28 _ w _ ?_;unfold C28;refine ak.of fun g w1 hg au f1 s1=>aD.of fun w2 _ f2=>aV.of (fun k=>k=b) ?_;have f12:=f1.trans f2;have h2:=h.af f12;have bl:=bQ h.aE;refine⟨rfl,h2.q8 U 3 (cks:=gH) p.off.1.e (fun j hj=>?_) ⟨rfl,h2.bX U 11 (ck:=.bool) (x:=p.off.2) rfl ?_⟩⟩
 ·match j,hj with
  | 0,_=>rfl
  | 1,_=>rfl
  | 2,_=>rfl
  | 3,_=>rfl
  | 4,_=>rfl
  | 5,_=>rfl
  | 6,_=>rfl
  | 7,_=>rfl
 refine ar.aE (vs:=gz p.off.1.e) (f2.af au) rfl (vP _) fun w3 aU f3 s3=>ai.on f3 (fun k U t=>by have t:k=g:=t;omega) ?_;exact aq.aE (cks:=gH) (x:=p.off.1.e) aU ⟨rfl,f12.fresh f3 (by omega)⟩
theorem Jh {N:Nat}{w:World}{F:Nat->Prop}{b:Nat}{n:NodeM}{fb fg:Nat}(h:ij N w F b n fb fg)(U:n.kb.length=16)(ho:cO n.p):Ret Tryz.prog 25 #[.pointer (some ⟨b,0,none⟩)] w fun r w'=>∃ d,r=.pointer (some ⟨d,0,none⟩)/\cU w' (cC w w') d n.p/\Fr none1 w w':=by
 obtain⟨j,pb,wb,S,Fp,h⟩:=h;refine c25 _ w _ ?_;refine h.bX U 2 (ck:=.ptr) (x:=some ⟨pb,0,none⟩) rfl ?_;refine ab.of (abv h.pr ho) ?_;rintro _ w1 ⟨d,rfl,hd,f1⟩;exact⟨some ⟨d,0,none⟩,rfl,d,rfl,hd,f1⟩
theorem aby (n:NodeM)(b:List UInt8):n.bg<=(n.record b).1.bg/\(n.record b).1.bg<=n.bg+1:=by
 unfold NodeM.record;split
 ·exact⟨by simp,by dsimp only;omega⟩
 split
 ·exact⟨by dsimp only;omega,by simp⟩
 split
 ·split<;>exact⟨by simp,by dsimp only;omega⟩
 split
 ·split
  ·exact⟨by simp,by dsimp only;omega⟩
  split<;>exact⟨by simp,by dsimp only;omega⟩
 ·exact⟨by simp,by dsimp only;omega⟩
def abz (N:Nat)(w:World)(fb fg:Nat)(o:cp×Option NodeM×Int)(r:Value)(w':World):Prop:=
  ∃ eB,(eB=fb\/eB=fg\/cC w w' eB)/\Fr (only fb) w w' /\
    ((∃ b n F,o.2.1=some n/\n.j.fs=o.1/\o.2.2=0/\r=.tuple #[.pointer (some ⟨b,0,none⟩),.int .i64 0]/\ij N w' F b n fb eB/\∀ k,F k->cC w w' k) \/
     (o.2.1=none/\o.2.2≠0/\r=.tuple #[.pointer none,.int .i64 o.2.2]/\ie w' fb eB o.1))
theorem Qh {N:Nat}{w:World}{fb fg:Nat}{s:cp}(h:ie w fb fg s)(hd:s.dead=false){kb:List UInt8}(U:kb.length=16)(side:Int)(ht:gI N w)(hN:N<=fb):
  Ret Tryz.prog 10 #[.pointer (some ⟨fb,0,none⟩),.agg (cT kb).toArray,.int .i64 side] w (abz N w fb fg (NodeM.open_ kb side s)):=by
 refine c10 _ (cT kb) side w _ ?_;unfold C10;refine ak.of fun g1 w1 df au f1 s1=>?_;refine cq.of (fun st w'=>st.1=decide (side≠0/\side≠1)/\w1=w') ?_ ?_
 ·refine aa.ne (fun h0=>⟨?_,rfl⟩) (fun h0=>⟨?_,rfl⟩)
  ·have h0:side≠0:=h0
   show(side != 1)=_
   by_cases h1:side=1
   ·rw[decide_eq_false (by simp[h1])];simpa using h1
   ·rw[decide_eq_true ⟨h0,h1⟩];simpa using h1
  ·have h0:side=0:=h0
   show false=_;rw[decide_eq_false (by simp[h0])]
 rintro _ ⟨st,_⟩ _ ⟨dz,rfl⟩;dsimp only at dz ⊢;subst dz;have h1:=h.af f1;have ofl:=h.lt;have ogl:=h.pc;have z1:=f1.size;refine aa.dec (fun hs=>?_) (fun hs=>?_)
 ·have e:NodeM.open_ kb side s=(s,none,1):=by unfold NodeM.open_;rw[if_pos hs]
  rw[e];exact⟨fg,.inr (.inl rfl),f1.mono fun _ _ t=>t.elim,.inr ⟨rfl,(show(1:Int)≠0 by decide),rfl,h1⟩⟩
 have vG:side=0\/side=1:=by
  by_cases h0:side=0
  ·exact .inl h0
  ·by_cases h1:side=1
   ·exact .inr h1
   ·exact absurd ⟨h0,h1⟩ hs
 obtain⟨rows,rest,hP⟩:=Yb s.b.length s.b (Nat.le_refl _);have CN:=hP.len;have jK:=h.ok.len;refine ab.of (X4 h1 hd hP) ?_;rintro _ w2 (⟨j,S,g',s',rfl,jN,f2,ri,sA,J2,yE⟩ | ⟨OA,DH,rfl,t2⟩)
 rotate_left
 ·have eo:(lT s)=((lB s ((s.b.length - rest.length:Nat):Int)).1,[],(lB s ((s.b.length - rest.length:Nat):Int)).2):=by
   unfold lT;rw[HT hP,if_neg (by rw[hd];simp)];dsimp only;rw[if_neg OA,if_pos DH]
  have e:NodeM.open_ kb side s=((lB s ((s.b.length - rest.length:Nat):Int)).1,none,(lB s ((s.b.length - rest.length:Nat):Int)).2):=by
   unfold NodeM.open_;rw[if_neg hs,eo,if_pos DH]
  rw[e];obtain⟨f2,g',sA,h2⟩:=t2;refine⟨(none,_,()),rfl,aa.ne (fun ay=>?_) (fun he=>absurd he DH)⟩;exact⟨g',sA.imp_right fun t=>t.imp_right fun t=>⟨by omega,h2.pc⟩,f1.eL f2,.inr ⟨rfl,DH,rfl,h2⟩⟩
 have eo:lT s=(s',rows,0):=by
  unfold lT;rw[HT hP,if_neg (by rw[hd];simp)];dsimp only
  rcases yE with⟨hr,rfl⟩ | ⟨hr,hc,rfl⟩
  ·rw[if_pos hr]
  ·rw[if_neg hr,hc,if_neg (by simp)]
 refine⟨(some ⟨j,0,none⟩,0,()),rfl,aa.f rfl ?_⟩;have z2:=f2.size;have abA:g1≠fb:=by omega
 refine aD.of fun w3 _ f3=>aV.all ?_;have b3:=f3.af (f2.ag au abA);refine av.all (eI.of b3 (by rw[kD,U]) (av.all (eI.of b3 (by rw[kD,U]) ?_)));refine ab.of (aa0 U side w3) ?_;rintro _ w4 ⟨pb,rfl,xL,f4⟩;refine⟨some ⟨pb,0,none⟩,rfl,ai.of f4 ?_⟩;refine ab.of (WJ w4) ?_;rintro _ w5 ⟨wb,hwb,rfl,f5,rq⟩;refine⟨some ⟨wb,0,none⟩,rfl,ai.of f5 ?_⟩;refine Dd U fun y hy=>ak.of fun b w6 hb fI f6 s6=>ai.of f6 ?_;have fI:w6.heap[b]? = some (.cells (Cs.vals nH y++[Value.int .i64 side,.pointer (some ⟨j,0,none⟩),.pointer (some ⟨pb,0,none⟩),.pointer (some ⟨wb,0,none⟩),.int .i64 0,.int .i64 0]).toArray 104 (0,0)):=fI;rw[hy] at fI;have z3:=f3.size;have z4:=f4.size;have z5:=f5.size;have jl:=J2.Ai;have CD:=J2.file.pc;have nF:=rq.lt;have DI:=J2.slt;have pbn:cC w3 w4 pb:=by obtain⟨c,l,Fc,Fl,q⟩:=xL;exact q.mem
 have f26:Fr none1 w2 w6:=((f3.trans f4).trans f5).trans f6;have e0:NodeM.fresh kb side s' rows=⟨kb,side,⟨s',false,rows⟩,mE kb side,vA,0,0⟩:=rfl
 -- Dv is the new acu own
 have acv:∀ k,w.heap.size<=k->k≠fb:=fun k U t=>by omega
 have n6:fq N w6 (fun k=>k=b\/k=wb\/k=j\/S k\/cC w3 w4 k) b (NodeM.fresh kb side s' rows) fb g' j pb wb S (cC w3 w4):=by
  refine⟨fI,J2.af f26,xL.af (f5.trans f6),rq.ag f6 (fun t=>t),⟨.inl rfl,.inr (.inl rfl),.inr (.inr (.inl rfl)),fun k U=>.inr (.inr (.inr (.inl U))),fun k U=>.inr (.inr (.inr (.inr U)))⟩,?_,?_,?_,?_,hN⟩
  ·refine⟨by omega,by omega,by omega,fun t=>by have:=DI b t;omega,fun t=>by have:=DI wb t;omega,fun t=>by have:=t.2;omega,fun t=>by have:=t.2;omega,fun t=>by have:=t.1;omega,fun k U t=>by have:=DI k U;have:=t.1;omega⟩
  ·refine⟨fun t=>?_,fun t=>?_⟩
   ·rcases t with t | t | t | t | t
    ·omega
    ·omega
    ·omega
    ·have:=ri fb t;omega
    ·have:=t.1;omega
   ·rcases t with t | t | t | t | t
    ·omega
    ·omega
    ·exact J2.ne.2 (Eq.symm t)
    ·exact(J2.off g' t).2.2 rfl
    ·have:=t.1;omega
  ·intro k U
   rcases U with t | t | t | t | t
   ·omega
   ·omega
   ·omega
   ·have:=DI k t;omega
   ·have:=t.2;omega
  ·intro k U
   have hNw:N<=w.heap.size:=ht.le
   rcases U with t | t | t | t | t
   ·omega
   ·omega
   ·omega
   ·have:=ri k t;omega
   ·have:=t.1;omega
 generalize Qi:(fun k=>k=b\/k=wb\/k=j\/S k\/cC w3 w4 k)=F0 at n6;have Qj:∀ k,F0 k->w.heap.size<=k:=by
  intro k U;rw[<- Qi] at U
  rcases U with t | t | t | t | t
  ·omega
  ·omega
  ·omega
  ·have:=ri k t;omega
  ·have:=t.1;omega
 have xP:Fr (only fb) w w6:=(f1.eL f2).dh f26;have Al:∀ {w':World},w2.heap.size<=w'.heap.size->(g'=fb\/g'=fg\/cC w w' g'):=fun hz=>sA.imp_right fun t=>t.imp_right fun t=>⟨by omega,by omega⟩;refine ab.of (Xy (J2.af f26) (by omega) (fun r hr=>by have:=CN.2 r hr;omega)) ?_;rintro _ w7 ⟨v,Sv,rfl,Ji,f7,hSv⟩;refine⟨v,rfl,?_⟩;have n7:=n6.af f7;have cM:=Ji.len;have abB:=Ji.lt;have acw:(NodeM.fresh kb side s' rows).p.kb.length=16:=U;have tT:Fr (only fb) w w7:=xP.dh f7;have z6:=f26.size;have z7:=f7.size;have F0l:∀ k,F0 k->k<w6.heap.size:=n6.lt;refine bw.of (fun q w'=>∃ (i:Nat) (n:NodeM) (F' yj:Nat->Prop),q.1=(i:Int)/\i<=rows.length/\fq N w' F' b n fb g' j pb wb S yj/\(NodeM.fresh kb side s' rows).records rows=n.records (rows.drop i)/\(0<=n.bg/\n.bg<=i)/\cO n.p/\n.kb=kb/\n.side=side/\n.j=⟨s',false,rows⟩ /\
   Fr (only fb) w w'/\w7.heap.size<=w'.heap.size/\(∀ k,F' k->F0 k\/cC w7 w' k)/\iU w' Sv v rows) (fun q _=>(rows.length - q.1).toNat)
  ⟨0,_,F0,_,rfl,Nat.zero_le _,n7,rfl,⟨Int.le_refl _,Int.le_refl _⟩,N5 U side,rfl,rfl,rfl,tT,Nat.le_refl _,fun k U=>.inl U,Ji⟩ ?_
 rintro _ ⟨q,_⟩ w8 ⟨i,n,F',yj,A1,ja,n8,lU,Jj,Qk,Bi,wk,sE,Jk,z8,Jl,Ql⟩;dsimp only at A1 ⊢;subst A1;have ht8:gI N w8:=ht.ag Jk fun k t=>by have t:k=fb:=t;omega
 have Jm:n.kb.length=16:=by rw[Bi];exact U
 have DJ:∀ k,F' k->cC w w8 k:=fun k U=>by
  rcases Jl k U with t | t
  ·exact⟨Qj k t,n8.lt k U⟩
  ·exact⟨by have:=t.1;omega,t.2⟩
 have J8:iK w8 S j fb g' s' false rows:=by have:=n8.jr;rw[sE] at this;exact this
 have Qm:∀ {w':World},w8.heap.size<=w'.heap.size->(g'=fb\/g'=fg\/cC w w' g'):=fun hz=>sA.imp_right fun t=>t.imp_right fun t=>⟨by omega,by omega⟩;refine aa.dec (fun aS=>?_) (fun dQ=>?_)
 ·have aS:(i:Int)<(v.2.1:Int):=aS
  have hi:i<rows.length:=by omega
  refine Ql.X1 (by omega) aS fun u hu rb hus=>?_;rw[Int.toNat_natCast] at hu;have hx:rows.getD i []∈rows:=by rw[List.getD_eq_getElem?_getD,List.getElem?_eq_getElem hi];exact List.getElem_mem hi
  have kN:=CN.2 _ hx;have AN:rows.drop i=rows.getD i []::rows.drop (i+1):=by
   rw[List.getD_eq_getElem?_getD,List.getElem?_eq_getElem hi,List.drop_eq_getElem_cons hi];rfl
  rw[AN,tU] at lU;refine ab.of (aa9 n8 Jm Qk (by rw[wk];exact vG) ⟨Jj.1,by omega⟩ ht8 hu rb (by omega)) ?_;rintro _ w9 ⟨rfl,F9,Fp9,n9,t9⟩;have hre:=aby n (rows.getD i []);obtain⟨r1,r2,r3,r4,r5⟩:=Om n (rows.getD i []);have hrp:=(OB Qk (rows.getD i [])).1;have z9:=t9.f.size;have Qn:Fr (only fb) w w9:=Jk.comp t9.f fun k U t=>by
   rcases t with t | t
   ·have:=(DJ k t).1;omega
   ·exact t
  refine⟨_,rfl,aa.not (aa.by (fun hA=>?_) (fun hA=>?_))⟩
  ·have hA:(n.record (rows.getD i [])).2=true:=hA
   rw[if_pos hA] at lU;refine⟨⟨i+1,(n.record (rows.getD i [])).1,F9,Fp9,?_,hi,n9,lU,⟨by have:=Jj.1;omega,by have:=Jj.2;omega⟩,hrp,r1.trans Bi,r2.trans wk,r3.trans sE,Qn,by omega,fun k U=>?_,?_⟩,?_⟩
   ·rw[wI (by omega) (by omega)];omega
   ·rcases t9.sub k U with t | t
    ·exact(Jl k t).imp_right fun t=>⟨t.1,by have:=t.2;omega⟩
    ·exact .inr ⟨by have:=t.1;omega,t.2⟩
   ·refine Ql.ag t9.f fun k U t=>?_
    have h1:=hSv k U;have h2:=abB k U
    rcases t with t | t
    ·rcases Jl k t with t | t
     ·have:=F0l k t;omega
     ·have:=t.1;omega
    ·omega
   ·rw[wI (by omega) (by omega)];omega
  ·have hA:(n.record (rows.getD i [])).2=false:=hA
   rw[if_neg (by rw[hA];simp)] at lU;have e:NodeM.open_ kb side s=(s',none,12):=by unfold NodeM.open_;rw[if_neg hs,eo];dsimp only;rw[if_neg (fun t=>t rfl),lU];rfl
   rw[e];have J9:ie w9 fb g' s':=by have:=n9.jr.file;rw[r3,sE] at this;exact this
   exact⟨g',Qm z9,Qn,.inr ⟨rfl,(show(12:Int)≠0 by decide),rfl,J9⟩⟩
 ·have dQ:¬ (i:Int)<(v.2.1:Int):=dQ
  have hi:i=rows.length:=by omega
  rw[hi,List.drop_length] at lU;have lU:(NodeM.fresh kb side s' rows).records rows=(n,true):=lU;refine Ab 1 fun u w9 hu f9 qd=>?_;have n9:=n8.af f9;have J9:=J8.af f9;have ze:=f9.size;refine ab.of (NI J9 hu.rd (fun k U=>?_) (by omega)) ?_
  ·have:=qd k U
   have h1:=J8.Ai;have h2:=J8.file.lt;exact⟨aF.lt hu U,by omega,by omega,fun t=>by have:=J8.slt k t;omega⟩
  rintro _ aG ⟨rfl,t10⟩;obtain⟨Qo,g10,vq,yk,DK⟩:=n9.PY (J:=(n.j.put [1]).1) (by unfold jO.put;rw[sE];exact t10);have PQ:=DK.f.size;have Qp:Fr (only fb) w aG:=(Jk.dh f9).comp DK.f fun k U t=>by
   rcases t with t | t
   ·have:=(DJ k t).1;omega
   ·exact t
  have Qq:g10=fb\/g10=fg\/cC w aG g10:=by
   rcases DK.g with t | t | t
   ·exact .inl t
   ·rw[t];exact Qm (by omega)
   ·exact .inr (.inr ⟨by have:=t.1;omega,t.2⟩)
  have Qr:∀ k,Qo k->cC w aG k:=fun k U=>by
   rcases DK.sub k U with t | t
   ·exact⟨(DJ k t).1,by have:=(DJ k t).2;omega⟩
   ·exact⟨by have:=t.1;omega,t.2⟩
  have e0:NodeM.open_ kb side s=if(n.j.put [1]).2≠0 then((n.j.put [1]).1.fs,none,(n.j.put [1]).2) else((n.j.put [1]).1.fs,some { n with j:=(n.j.put [1]).1,bg:=n.bg+1 },0):=by
   unfold NodeM.open_;rw[if_neg hs,eo];dsimp only;rw[if_neg (fun t=>t rfl),lU,if_neg (by simp)]
  have ec:(iw s' false [1]).2.2.1=(n.j.put [1]).2:=by unfold jO.put;rw[sE]
  refine⟨(n.j.put [1]).2,by rw[ec];rfl,aa.ne (fun ay=>?_) (fun hz=>?_)⟩
  ·have ay:(n.j.put [1]).2≠0:=ay
   rw[e0,if_pos ay];exact⟨g10,Qq,Qp,.inr ⟨rfl,ay,rfl,yk.jr.file⟩⟩
  ·have hz:(n.j.put [1]).2=0:=hz
   rw[e0,if_neg (fun t=>t hz)];refine yk.bX Jm 4 (ck:=.int .i64) (x:=n.bg) rfl ?_;have hw:IntKind.i64.wrap (n.bg+1)=n.bg+1:=wI (by omega) (by omega);rw[hw];refine rB Jm yk.aE 4 (by show 4<6;decide) rfl fun aO o7 f11 xW=>?_;rw[P1] at o7;obtain⟨n11,t11⟩:=yk.cell (n':={ n with j:=(n.j.put [1]).1,bg:=n.bg+1 }) f11 o7 rfl rfl rfl
   refine⟨g10,Qq.imp_right fun t=>t.imp_right fun t=>⟨t.1,by have:=t.2;omega⟩,Qp.comp f11 (fun k U t=>by have t:k=b:=t;have:=Qj b (by rw[<- Qi];exact .inl rfl);omega),.inl ⟨b,_,Qo,rfl,rfl,rfl,rfl,⟨_,_,_,_,_,n11⟩,fun k U=>⟨(Qr k U).1,by have:=(Qr k U).2;omega⟩⟩⟩
def jj (d:Int):aT:=(5,[],[],[],[],d,0,.none)
def dN:aT×Bool:=(bb,false)
def pS (kb:List UInt8)(side:Int)(P O:aT×Bool):PeerM:={ mE kb side with aY:=P,off:=O }
structure pv (m:aT):Prop where
 DL:∀ s,s=0\/s=1->jf xu m s=0
 len:(du m).1.length=9
 same:tJ m m=true
 small:dB m
theorem pv.check {m:aT}(h:pv m):iR m=0:=xR (h.DL 0 (.inl rfl))
theorem Qs {d:Int}(h1:1<=d)(h2:d<=10000):pv (jj d):=by
 have hc:iR (jj d)=0:=by
  show mm (jj d).e (bp (jj d).t).2=0;have e1:¬ d<0:=by omega
  have e2:¬ d > 10000:=by omega
  simp[mm,mX,oN,jj,aT.e,cR,fS,tA,gL,Tm.v,cH,e1,e2]
 refine⟨fun s hs=>?_,?_,Wz (m:=jj d) (bs:=(du (jj d)).1) (Od hc),⟨show 0<=65535 by decide,show 0<=65535 by decide,show 0<=65535 by decide,show 0<=65535 by decide,show aJ .none<=1000000 by decide⟩⟩
 ·unfold jf iG
  rw[if_neg (by omega),if_neg (fun t=>t hc),if_neg (by intro t;cases t),if_neg (by intro t;cases t),if_neg (by intro t;cases t),if_neg (by intro t;cases t),if_pos (show(jj d).kind=5 from rfl),if_neg (by show ¬ d<=0;omega)]
 ·have h:du (jj d)=(UInt8.ofNat ((jj d).e.1 % 256).toNat::(eM (jj d).e.1).flatMap (eY (jj d).e (bp (jj d).t).1),0):=by
   unfold du iZ;rw[if_neg (fun t=>t hc)]
  rw[h];have e5:eM 5=[68]:=by decide +kernel
  show((eM 5).flatMap (eY (jj d).e (bp (jj d).t).1)).length+1=9;rw[e5];show(cu d++[]).length+1=9;rw[List.append_nil,iB]
theorem abC {kb:List UInt8}{side:Int}(hs:side=0\/side=1){m:aT}(hm:pv m):(pS kb side dN dN).offer m=(pS kb side dN (m,true),0):=by
 have ht:jf (pS kb side dN dN).cd m (pS kb side dN dN).side=0:=by
  refine hm.DL _ ?_
  rcases hs with rfl | rfl
  ·exact .inl rfl
  ·exact .inr rfl
 unfold PeerM.offer;rw[if_neg (by intro t;cases t),if_neg (by rintro(t | ⟨t,_⟩)<;>cases t),if_neg (by intro t;cases t),if_neg (fun t=>t ht)]
 rfl
theorem Qt {kb:List UInt8}{m:aT}(hm:pv m):(pS kb 0 dN (m,true)).tick={ bH with cY:=true,bM:=m,bJ:=[PeerM.fr 1 0 0 false m] }:=by
 have ht:jf xu m 0=0:=hm.DL 0 (.inl rfl);unfold PeerM.tick;rw[if_neg (by intro t;cases t),if_neg (by intro t;cases t),if_neg (by intro t;cases t),if_pos ⟨rfl,rfl⟩];unfold PeerM.kC;rw[if_neg (fun t=>t ht)];rfl
theorem abD {kb:List UInt8}{m:aT}(hm:pv m):(pS kb 0 dN (m,true)).bW { bH with cY:=true,bM:=m,bJ:=[PeerM.fr 1 0 0 false m] }=(pS kb 0 (m,true) dN,0):=by
 have hs:=hm.same;unfold PeerM.bW;rw[if_neg (by intro t;cases t)];have hd:(pS kb 0 dN (m,true)).o9 { bH with cY:=true,bM:=m,bJ:=[PeerM.fr 1 0 0 false m] }=true:=by
  show(false||(true&&(true&&tJ m m)))=true;rw[hs];rfl
 unfold PeerM.ended;rw[if_pos hd];rfl
theorem abE {kb:List UInt8}{m:aT}:(pS kb 0 (m,true) dN).tick={ bH with bJ:=[PeerM.fr 1 0 0 false m] }:=by
 unfold PeerM.tick;rw[if_neg (by intro t;cases t),if_neg (by intro t;cases t),if_pos (show(pS kb 0 (m,true) dN).aY.2=true from rfl)];rfl
theorem abF {kb:List UInt8}{m:aT}:(pS kb 1 dN (m,true)).tick={ bH with bJ:=[PeerM.fr 3 0 0 false bb] }:=by
 unfold PeerM.tick;rw[if_neg (by intro t;cases t),if_neg (by intro t;cases t),if_neg (by intro t;cases t),if_neg (by rintro⟨t,_⟩;cases t),if_neg (by rintro⟨t,_⟩;cases t),if_pos ⟨(by intro t;cases t),rfl⟩];rfl
theorem Qu {kb:List UInt8}{side:Int}{P O:aT×Bool}(l:List cc):(pS kb side P O).bW { bH with bJ:=l }=(pS kb side P O,0):=by
 unfold PeerM.bW;rw[if_neg (by intro t;cases t)];rfl
theorem Qv {m:aT}(hm:pv m)(l:List cc):(NodeM.dI { bH with cY:=true,bM:=m,bJ:=l }).1.length=10:=by
 show((3:UInt8)::(du m).1).length=10;rw[List.length_cons,hm.len]
structure oC (Q:Int)(kb:List UInt8)(side i t:Int)(P O:aT×Bool)(n:NodeM):Prop where
 p:n.p=pS kb side P O
 kb:n.kb=kb
 side:n.side=side
 live:Live n
 d:n.j.d=false
 lit:n.j.fs.lit=false
 cF:n.j.fs.cF=Q
 len:(n.j.fs.b.length:Int)<=4 * i+(if P.2=true then 13 else 0)
 bg:n.bg=i
 number:n.number=t
theorem Qw {kb:List UInt8}(U:kb.length=16){side:Int}(hs:side=0\/side=1){q:Int}(h4:4<=(pd q).cF):
  ∃ m,NodeM.open_ kb side (pd q)=(m.j.fs,some m,0)/\oC (pd q).cF kb side 1 0 dN dN m/\m.w=vA/\m.j.fs.b.length=4:=by
 obtain⟨m,m1,m2,m3,m4,m5,m6,m7,m8,m9,m10,m11,m12,m13⟩:=Y5 U hs h4;exact⟨m,m1,⟨m5,m3,m4,m2,m10,m11,m12,by rw[m13];decide,m6,m7⟩,m8,m13⟩
theorem oC.offer {Q:Int}{kb:List UInt8}{side i t:Int}{n:NodeM}(h:oC Q kb side i t dN dN n)(hs:side=0\/side=1){m:aT}(hm:pv m):(n.offer m).2=0/\oC Q kb side i t dN (m,true) (n.offer m).1/\(n.offer m).1.j=n.j/\(n.offer m).1.w=n.w:=by
 have hl:=h.live.offer hm.small;have e:n.offer m=({ n with p:=(n.p.offer m).1 },(n.p.offer m).2):=by
  unfold NodeM.offer NodeM.dead;rw[if_neg (by rw[h.d];simp)]
 have ep:n.p.offer m=(pS kb side dN (m,true),0):=by rw[h.p];exact abC hs hm
 rw[e,ep] at hl ⊢;exact⟨rfl,⟨rfl,h.kb,h.side,hl,h.d,h.lit,h.cF,h.len,h.bg,h.number⟩,rfl,rfl⟩
theorem oC.act {Q:Int}{kb:List UInt8}{side i t:Int}{P O P' O':aT×Bool}{n:NodeM}(h:oC Q kb side i t P O n)(hi:0<=i/\i<=1000)(ht:0<=t/\t<=1000)(hQ:4 * i+13<=Q){a:bV}(hf:Fits n.p a)(ha:qq a)(hs:∀ f∈a.bJ,vF f)
  (hE:a.dc=false) (hP:a.cY=true->P.2=false/\P'.2=true/\(NodeM.dI a).1.length=10) (Jn:a.cY=false->P'.2=P.2) (hc:(n.p.bW a).1=pS kb side P' O') :
  (n.act a).2=(a.bJ.map (fun f=>(ib kb (side,i,t,f.2.2.2)).1),0)/\oC Q kb side i (t+(a.bJ.length:Int)) P' O' (n.act a).1:=by
 obtain⟨k1,k2,k3,k4,k5,k6⟩:=HV (n:=n) a;have kr:(n.ag a).2=0/\(n.ag a).1.j.fs.lit=false/\(n.ag a).1.j.d=false:=by
  cases hp:a.cY with
  | false=>
   have e:n.ag a=(n,0):=by unfold NodeM.ag;rw[if_pos ⟨hE,hp⟩]
   rw[e];exact⟨rfl,h.lit,h.d⟩
  | true=>
   obtain⟨q1,q2,q3⟩:=hP hp;have hl:=h.len;rw[q1,if_neg (by simp)] at hl;refine Y2 h.live h.d h.lit hf (L:=10) (.inr (by omega)) ?_;rw[h.cF];omega
 have hcn:iS n.bg=true:=by rw[h.bg];unfold iS;rw[decide_eq_true (by omega),decide_eq_true (by omega)];rfl
 have qO:iS n.number=true:=by rw[h.number];unfold iS;rw[decide_eq_true (by omega),decide_eq_true (by omega)];rfl
 have e:=YV h.live hf ha kr.1 hs hcn qO;have hl:=h.live.act h.d hf ha;rw[e] at hl ⊢;rw[h.kb,h.side,h.bg,h.number];obtain⟨l1,l2,l3,l4⟩:=YZ hf;refine⟨rfl,⟨hc,k2.trans h.kb,k3.trans h.side,by rw[h.number] at hl;exact hl,kr.2.2,kr.2.1,l2.trans h.cF,?_,k4.trans h.bg,rfl⟩⟩;have hl:=h.len;cases hp:a.cY with
 | false=>
  show(((n.ag a).1.j.fs.b.length:Nat):Int)<=_;rw[l3 hE hp,Jn hp];exact hl
 | true=>
  obtain⟨q1,q2,q3⟩:=hP hp;rw[q1,if_neg (by simp)] at hl;show(((n.ag a).1.j.fs.b.length:Nat):Int)<=_;rw[q2,if_pos rfl];omega
def Qx (side:Int)(m:aT)(P O:aT×Bool):Prop:=(side=0/\P=dN/\O=(m,true))\/(side=0/\P=(m,true)/\O=dN)\/(side=1/\P=dN/\O=(m,true))
theorem oC.tick {Q:Int}{kb:List UInt8}{side i t:Int}{P O:aT×Bool}{n:NodeM}(h:oC Q kb side i t P O n)(hi:0<=i/\i<=1000)(ht:0<=t/\t<=1000)(hQ:4 * i+13<=Q){m:aT}(hm:pv m)(hw:Qx side m P O):
  ∃ (f:List UInt8) (x:cc) (P' O':aT×Bool),n.tick.2=([f],0)/\eR kb f=(x,0)/\f.length<=5000/\x.1=side/\x.2.1=i/\x.2.2.1=t/\oC Q kb side i (t+1) P' O' n.tick.1/\Qx side m P' O'/\(side=0->P'=(m,true))/\(side=1->P'=dN):=by
 have e:n.tick=n.act n.p.tick:=by unfold NodeM.tick NodeM.dead;rw[if_neg (by rw[h.d];simp)]
 have hf:=Oo n.p;have ha:=h.live.ok.tick;have hs:=YS h.live.ok h.live.aY;have vn:iS i=true:=by unfold iS;rw[decide_eq_true (by omega),decide_eq_true (by omega)];rfl
 have hct:iS t=true:=by unfold iS;rw[decide_eq_true (by omega),decide_eq_true (by omega)];rfl
 have main:∀ (A:bV) (g:cc) (P' O':aT×Bool),n.p.tick=A->A.bJ=[g]->A.dc=false->(A.cY=true->P.2=false/\P'.2=true/\(NodeM.dI A).1.length=10)->(A.cY=false->P'.2=P.2)->(n.p.bW A).1=pS kb side P' O'->(side=0\/side=1)->g.2.2.2.2.2.1=0 ->
   ∃ (f:List UInt8) (x:cc),n.tick.2=([f],0)/\eR kb f=(x,0)/\f.length<=5000/\x.1=side/\x.2.1=i/\x.2.2.1=t/\oC Q kb side i (t+1) P' O' n.tick.1:=by
  intro A g P' O' hA sF hE hP Jn hc vG h0;rw[hA] at hf ha hs;obtain⟨a1,a2⟩:=h.act hi ht hQ hf ha hs hE hP Jn hc;rw[sF] at a1 a2;have hg:=hs g (by rw[sF];simp) side i t vG vn hct;rw[e,hA];refine⟨(ib kb (side,i,t,g.2.2.2)).1,(side,i,t,g.2.2.2),a1,OE hg ?_,OF hg,rfl,rfl,rfl,a2⟩;show 0<=g.2.2.2.2.2.1/\g.2.2.2.2.2.1<18446744073709551616;rw[h0];decide
 rcases hw with⟨rfl,rfl,rfl⟩ | ⟨rfl,rfl,rfl⟩ | ⟨rfl,rfl,rfl⟩
 ·obtain⟨f,x,b1,b2,b7,b3,b4,b5,b6⟩:=main _ _ (m,true) dN (by rw[h.p];exact Qt hm) rfl rfl (fun _=>⟨rfl,rfl,Qv hm _⟩) (fun t=>by cases t) (by rw[h.p,abD hm]) (.inl rfl) rfl
  exact⟨f,x,_,_,b1,b2,b7,b3,b4,b5,b6,.inr (.inl ⟨rfl,rfl,rfl⟩),fun _=>rfl,fun t=>by cases t⟩
 ·obtain⟨f,x,b1,b2,b7,b3,b4,b5,b6⟩:=main { bH with bJ:=[PeerM.fr 1 0 0 false m] } (PeerM.fr 1 0 0 false m) (m,true) dN (by rw[h.p];exact abE) rfl rfl (fun t=>by cases t) (fun _=>rfl) (by rw[h.p,Qu]) (.inl rfl) rfl
  exact⟨f,x,_,_,b1,b2,b7,b3,b4,b5,b6,.inr (.inl ⟨rfl,rfl,rfl⟩),fun _=>rfl,fun t=>by cases t⟩
 ·obtain⟨f,x,b1,b2,b7,b3,b4,b5,b6⟩:=main { bH with bJ:=[PeerM.fr 3 0 0 false bb] } (PeerM.fr 3 0 0 false bb) dN (m,true) (by rw[h.p];exact abF) rfl rfl (fun t=>by cases t) (fun _=>rfl) (by rw[h.p,Qu]) (.inr rfl) rfl
  exact⟨f,x,_,_,b1,b2,b7,b3,b4,b5,b6,.inr (.inr ⟨rfl,rfl,rfl⟩),(fun t=>by cases t),fun _=>rfl⟩
theorem Qy {n:NodeM}{a:bV}(hd:n.j.d=false)(hf:n.j.fs.dead=false)(Jo:Fits n.p a)(hb:a.dc=true\/a.cY=true)(hr:((NodeM.dI a).1.length:Int)+3 > n.j.fs.cF - n.j.fs.b.length):n.act a=(n,[],10):=by
 rcases HU Jo with⟨e1,e2,_⟩ | ⟨_,e2,e3,e4⟩
 ·rw[e1,e2] at hb;simp at hb
 ·have hp:=Y1 hd hf (x:=(NodeM.dI a).1) (by omega) hr
  rw[hp] at e4;unfold NodeM.act;rw[e4,if_pos (show(10:Int)≠0 by decide)]
theorem abG {Q:Int}{kb:List UInt8}{i t:Int}{n:NodeM}{m:aT}(hm:pv m)(h:oC Q kb 0 i t dN (m,true) n)(hb:n.j.fs.b.length=4)(hQ:Q<17):n.tick=(n,[],10):=by
 have e:n.tick=n.act n.p.tick:=by unfold NodeM.tick NodeM.dead;rw[if_neg (by rw[h.d];simp)]
 have hf:=Oo n.p;have ep:n.p.tick={ bH with cY:=true,bM:=m,bJ:=[PeerM.fr 1 0 0 false m] }:=by rw[h.p];exact Qt hm
 rw[e];rw[ep] at hf ⊢;refine Qy h.d (h.live.live h.d).1 hf (.inr rfl) ?_;rw[Qv hm,h.cF,hb];omega
def jk (ep:Int)(m:aT):cc:=(0,ep,0,1,0,0,false,m)
theorem Jp {m:aT}(hm:pv m):ny (jk 1 m)=0:=
 Aq (kind:=1) (slot:=0) (head:=0) (flag:=false) (m:=m) (by decide) (by decide) (fun t=>by cases t) (fun _=>hm.check) (fun t=>absurd rfl t) 0 1 0 (.inl rfl) (by decide) (by decide)
theorem abH {Q:Int}{kb:List UInt8}{i t:Int}{n:NodeM}{m:aT}(hm:pv m)(IP:m.kind=5)(h:oC Q kb 1 i t dN dN n)(hw:n.w=vA)(hb:n.j.fs.b.length=4)(hQ:Q<17):
  (n.take (ib kb (jk 1 m)).1).2=([],10)/\(n.take (ib kb (jk 1 m)).1).1.j=n.j/\(n.take (ib kb (jk 1 m)).1).1.p=n.p:=by
 have ho:eR n.kb (ib kb (jk 1 m)).1=(jk 1 m,0):=by rw[h.kb];exact OE (Jp hm) (by show(0:Int)<=0/\(0:Int)<_;decide)
 have ht:n.take (ib kb (jk 1 m)).1=({ n with w:=n.w.accept 1 0 }:NodeM).act (n.p.take (jk 1 m)):=by
  unfold NodeM.take NodeM.dead;rw[if_neg (by rw[h.d];simp),ho];dsimp only;rw[if_neg (fun t=>t rfl),if_neg (by show ¬ (0:Int)=n.side;rw[h.side];decide),if_neg (by rw[hw];show ¬ jg (-1) (-1) (fun _=>false) 1 0=false;decide)];rfl
 have hl:Live ({ n with w:=n.w.accept 1 0 }:NodeM):=h.live.Oy _
 have hE:(n.p.take (jk 1 m)).dc=true/\(n.p.take (jk 1 m)).bh.1=m:=by
  rw[h.p];have hr:(pS kb 1 dN dN).fX m=false:=by
   unfold PeerM.fX;have:jf (pS kb 1 dN dN).cd m (1 - (pS kb 1 dN dN).side)=0:=hm.DL 0 (.inl rfl);rw[this,IP];rfl
  have hn:(fm (pS kb 1 dN dN).kb (pS kb 1 dN dN).head (m,false)).2=0:=by
   unfold fm;rw[if_neg (by rw[Ao];exact fun t=>t hm.check)]
  have e:(pS kb 1 dN dN).take (jk 1 m)=(pS kb 1 dN dN).lR (jk 1 m):=by
   unfold PeerM.take;rw[if_neg (by rintro(t | t);exact t (Jp hm);cases t),if_neg (by intro t;cases t),if_neg (by intro t;cases t),if_neg (by intro t;cases t),if_pos (show(jk 1 m).2.2.2.1=1 from rfl)]
  rw[e];unfold PeerM.lR;have hfm:(jk 1 m).m=m:=rfl;rw[if_neg (by rintro(t | t)<;>cases t),if_neg (by intro t;cases t),if_neg (by rintro(t | t)<;>cases t),hfm,hr,if_neg (fun t=>t hn)]
  exact⟨rfl,rfl⟩
 have hf:=Ot hl.ok.side hl.aY (jk 1 m);rw[ht];have:=Qy (n:={ n with w:=n.w.accept 1 0 }) (a:=n.p.take (jk 1 m)) h.d (h.live.live h.d).1 hf (.inl hE.1) (by
  have hx:(NodeM.dI (n.p.take (jk 1 m))).1.length=11:=by
   unfold NodeM.dI;rw[if_pos hE.1];show((2:UInt8)::(gj _).1).length=11;rw[List.length_cons,HK (by rw[hE.2];exact hm.check),List.length_cons,hE.2,hm.len]
  show((NodeM.dI (n.p.take (jk 1 m))).1.length:Int)+3 > n.j.fs.cF - n.j.fs.b.length;rw[hx,h.cF,hb];omega)
 rw[this];exact⟨rfl,rfl,rfl⟩
def yn:List UInt8:=List.replicate 16 0
def vS (ys:List UInt8):List UInt8:=ys.take 16++List.replicate (16 - ys.length) 0
theorem abI (ys:List UInt8):(vS ys).length=16:=by unfold vS;rw[List.length_append,List.length_take,List.length_replicate];omega
theorem abJ {w:World}{g:Nat}{T:TypeId}{y:Sl}{ys:List UInt8}(hb:w.heap[g]? = some (.cells (cT yn).toArray T (0,0)))(hy:aZ w y ys)(o:TypeId){K:Int->World->Prop}
  (k:∀ r w',w'.heap[g]? = some (.cells (cT (vS ys)).toArray T (0,0))->Fr (only g) w w'->K r w') :
  az Tryz.prog (Builtin.copy_ #[22,22] o #[.slice (some ⟨g,0,none⟩) 16 16,.slice y.1 y.2.1 y.2.2]) w (.v (.one (.int .i64))) (fun(x:Int) w'=>K x w'):=by
 obtain⟨hu,⟨i,hi,hs,hz,qJ⟩,hc,oJ⟩:=mR;have mg:∀ w,(sizeOf 5).run Tryz.prog w=.ok 1 w:=fun w=>by rw[j8 hi,hs]
 have hlen:∀ w,(Builtin.lenOf (.slice y.1 y.2.1 y.2.2)).run Tryz.prog w=.ok y.2.1 w:=fun w=>rfl;have gT:=hy.len;obtain⟨n,hn⟩:∃ n,n=min ys.length 16:=⟨_,rfl⟩;have hm:Nat.min y.2.1 16=n:=by rw[gT,hn]
 have wq:aZ w (y.1,n,y.2.2) (ys.take n):=by
  obtain⟨h1,h2,h3⟩:=hy;refine⟨by simp;omega,fun e=>?_,fun a ha=>?_⟩
  ·obtain⟨e1,e2,e3⟩:=h2 e
   have:ys=[]:=by simpa using e3
   subst this;exact⟨by simp[hn],e2,by simp⟩
  ·rw[List.map_take];exact wD _ 0 n (h3 a ha)
 have Bm:(Builtin.firstCells 1 n (.slice y.1 y.2.1 y.2.2)).run Tryz.prog w=.ok ((ys.take n).map bc).toArray w:=by
  have:=dr.first (P:=Tryz.prog) wq
  obtain⟨y1,y2,y3⟩:=y;cases y1<;>exact this
 obtain⟨hw,jS,a1,a2,a3,a4,a5,a6⟩:=Em ((ys.take n).map bc) w (cT yn).toArray 0 0 hb (by simp[cT,yn];omega) (Ki _);have Qz:=MJ ((ys.take n).map bc) w (cT yn).toArray jS 0 0 hb a1;have hcs:jS=(cT (vS ys)).toArray:=by
  apply Array.ext';apply List.ext_getElem?;intro j;rw[Array.getElem?_toList];show jS[j]? = (cT (vS ys))[j]?;simp only[List.length_map,List.length_take,Nat.zero_add] at Qz a3;unfold cT vS;rw[List.map_append]
  by_cases hj:j<n
  ·have:=a3 j (by omega)
   rw[this,List.getElem?_append_left (by simp;omega)];rw[show ys.take n=ys.take 16 by rw[hn,List.take_eq_take_iff];omega]
  ·have q:=Qz j (by omega)
   rw[q,List.getElem?_append_right (by simp;omega),List.getElem?_toArray];unfold cT yn;rw[List.map_replicate,List.map_replicate,List.getElem?_replicate,List.getElem?_replicate];simp only[List.length_map,List.length_take]
   by_cases DF:j<16
   ·rw[if_pos DF,if_pos (by omega)]
   ·rw[if_neg DF,if_neg (by omega)]
 refine⟨(n:Int),setCells w ⟨g,0,none⟩ 0 ((ys.take n).map bc),?_,k _ _ (by rw[<- hcs];exact a1) a5⟩;unfold Builtin.copy_;simp only[Sem.run_bind,under hu,Result.andThen_ok,mg,List.getElem?_toArray,List.getElem?_cons_zero,List.getElem?_cons_succ,Sem.run_pure,hlen,hm,Bm];rw[show(storeCells ⟨g,0,none⟩ (((ys.take n).map bc).toArray).toList 0).run Tryz.prog w=.ok () _ from v7 ((ys.take n).map bc) 0 w hw];rfl
theorem abK {g:Nat}{K:Option Addr->Nat->Nat->Prop}(k:K (some ⟨g,0,none⟩) 16 16):eX (some ⟨g,0,none⟩) 16 0 16 16 1 K:=by
 refine⟨by decide,by decide,by decide,by decide,?_⟩;have e:(if(16:Int)=0 then some (⟨g,0,none⟩:Addr) else(some (⟨g,0,none⟩:Addr)).map (·.add ((0:Int).toNat * 1)))=some ⟨g,0,none⟩:=by
  rw[if_neg (by decide),Option.map_some,dP];rfl
 rw[e];exact k
theorem QA {w:World}{x y:Sl}{xs ys:List UInt8}(hx:aZ w x xs)(hy:aZ w y ys)(hl:xs.length<=1000000000000000000){K:Bool->World->Prop}(k:∀ w',Fr none1 w w'->K (decide (xs=ys)) w'):ab Tryz.prog 20 #[.slice x.1 x.2.1 x.2.2,.slice y.1 y.2.1 y.2.2] w (.v (.one .bool)) (fun(b:Bool) w'=>K b w'):=by
 refine ab.of (RG hx hy hl) ?_;rintro _ w' ⟨rfl,f⟩;exact⟨_,rfl,k w' f⟩
theorem abL (v of:Int)(hof:of<=9223372036854775807){wc:World}{K:Int->World->Prop}(k:K (within v of) wc):ab Tryz.prog 9 #[.int .i64 v,.int .i64 of] wc (.v (.one (.int .i64))) (fun(x:Int) w'=>K x w'):=by
 refine ab.of (UG v of wc hof) ?_;rintro _ _ ⟨rfl,rfl⟩;exact⟨_,rfl,k⟩
theorem ez.new {N:Nat}{w0 w w':World}{F F':Nat->Prop}{b:Nat}{n n':NodeM}{fb fg eB:Nat}(h0:ij N w F b n fb fg)(t:ez N w F b n' fb fg w' F' eB)(f0:Fr none1 w0 w)(hN:w0.heap.size=N):Fr none1 w0 w':=
 f0.comp t.f fun k U q=>by
  obtain⟨a,b⟩:=h0.lo
  rcases q with q | q
  ·have:=a k q;omega
  ·omega
def abM:List UInt8:=1::List.replicate 15 0
theorem QB (w:World)(ht:TabW w):Ret Tryz.prog 16 #[] w fun r w'=>r=.bool true/\Fr none1 w w':=by
 refine c16 w _ ?_;unfold C16;refine ab.of (Nr 500 w) ?_;rintro _ w1 ⟨fb,rfl,AZ,f1,i1⟩;refine⟨some ⟨fb,0,none⟩,rfl,aa.f rfl ?_⟩;have U:abM.length=16:=rfl;obtain⟨m,mo,ml,mw,mb⟩:=Qw U (side:=0) (.inl rfl) (q:=500) (by decide);have QC:=(gI.of ht).af f1;refine ab.of (Qh i1 rfl U 0 QC AZ) ?_;rw[mo];rintro _ w2 ⟨sO,mz,f2,(⟨b,n,F,hn,_,_,rfl,hR,hF⟩ | ⟨hn,_⟩)⟩
 rotate_left
 ·cases hn
 obtain rfl:m=n:=by injection hn
 have QD:=QC.ag f2 fun k t=>by have t:k=fb:=t;omega
 have nB:Fr none1 w w2:=f1.comp f2 fun k U t=>by have t:k=fb:=t;omega
 refine⟨(some ⟨b,0,none⟩,0,()),rfl,aa.f rfl (aa.f rfl ?_)⟩;have A3:m.kb.length=16:=by rw[ml.kb];exact U
 refine ab.of (aa2 hR A3) ?_;rintro _ _ ⟨rfl,rfl⟩;refine⟨_,rfl,aa.ne (fun t=>absurd ml.bg t) (fun _=>?_)⟩;have ob:=Qs (d:=1) (by decide) (by decide);obtain⟨o1,o2,o3,o4⟩:=ml.offer (.inl rfl) ob;refine ab.of (P0 hR A3 ml.live.ok QD (jj 1) ob.small.2.2.2.2) ?_;rw[o1];rintro _ w3 ⟨rfl,F3,t3⟩;refine⟨_,rfl,aa.f rfl ?_⟩;have abN:=t3.j7 hR QD;have M1:=t3.new hR nB rfl;obtain⟨g,x,P',O',q1,_⟩:=o2.tick (by decide) (by decide) (by decide) ob (.inl ⟨rfl,rfl,rfl⟩);refine ab.of (Qd t3.r (by rw[o2.kb];exact U) o2.live.ok o2.live.HW (by rw[o2.number];decide) abN) ?_;rw[q1];rintro _ w4 ⟨v,rfl,h4⟩;obtain⟨F4,QE,S4,t4,r4,_⟩:=h4.out;refine⟨(v,0,()),rfl,aa.t rfl ?_⟩;have hv:=r4.len;rw[hv];exact⟨rfl,t4.new t3.r M1 rfl⟩
def C5 (p0:Option Addr)(aH aP:Nat)(p1:Int)(p2:Bool)(w:World)(K:Value->World->Prop):Prop:=
 ak (.cells #[.int .u8 0,.int .u8 0,.int .u8 0,.int .u8 0,.int .u8 0,.int .u8 0,.int .u8 0,.int .u8 0,.int .u8 0,.int .u8 0,.int .u8 0,.int .u8 0,.int .u8 0,.int .u8 0,.int .u8 0,.int .u8 0] 24) w (fun g1 w2=>eX (some (ad g1)) 16 0 16 16 1 (fun a3 l4 c5=>az Tryz.prog (Builtin.copy_ #[22,22] 3 #[.slice a3 l4 c5,.slice p0 aH aP]) w2 (.v (.one (.int .i64))) (fun(x6:Int) w7=>ab Tryz.prog 9 #[.int .i64 p1,.int .i64 13] w7 (.v (.one (.int .i64))) (fun(x8:Int) w9=>ab Tryz.prog 8 #[.int .i64 (IntKind.i64.wrap (4+x8))] w9 (.v (.one .ptr)) (fun(aR:Option Addr) aO=>aa (Option.isNone aR)
 (K (.bool false) aO)
 (cq (Int×Unit) (fun QF=>aa p2
 (QF (1,()) aO)
 (QF (0,()) aO))
 (fun _ ju bm=>eI 16 (ad g1) bm (fun bj=>ab Tryz.prog 10 #[.pointer aR,.agg bj.toArray,.int .i64 ju.1] bm (.aN [.one .ptr,.one (.int .i64)]) (fun(aQ:Option Addr×Int×Unit) b9=>aa (aQ.2.1 != 0)
 (K (.bool false) b9)
 (aa (Option.isNone aQ.1)
 (K (.bool false) b9)
 (ab Tryz.prog 17 #[.pointer aR] b9 (.v (.one .aj)) (fun(br:an) bx=>aa p2
 (eI 16 (ad g1) bx (fun cw=>ab Tryz.prog 24 #[.agg cw.toArray,.agg #[.int .i64 0,.int .i64 1,.int .i64 0,.int .i64 1,.int .i64 0,.int .u64 0,.bool false,.int .i64 5,.string (⟨#[]⟩:ByteArray),.string (⟨#[]⟩:ByteArray),.string (⟨#[]⟩:ByteArray),.string (⟨#[]⟩:ByteArray),.int .i64 2,.int .i64 0,.nilIface]] bx (.aN [.one .aj,.one (.int .i64)]) (fun(bT:an×Int×Unit) bN=>ab Tryz.prog 18 #[.pointer aQ.1,.slice bT.1.1 bT.1.2.1 bT.1.2.2] bN (.aN [.one .aj,.one (.int .i64)]) (fun(cr:an×Int×Unit) cm=>aa (cr.2.1==10)
 (aa ((cr.1.2.1:Int)==0)
 (ab Tryz.prog 17 #[.pointer aR] cm (.v (.one .aj)) (fun(bC:an) ct=>ab Tryz.prog 20 #[.slice bC.1 bC.2.1 bC.2.2,.slice br.1 br.2.1 br.2.2] ct (.v (.one .bool)) (fun(cz:Bool) bS=>aa cz
 (ab Tryz.prog 25 #[.pointer aQ.1] bS (.v (.one .ptr)) (fun(cx:Option Addr) bO=>aa (!(Option.isNone cx))
 (ab Tryz.prog 25 #[.pointer aQ.1] bO (.v (.one .ptr)) (fun(bZ:Option Addr) cL=>ab Tryz.prog 26 #[.pointer bZ] cL (.v (.one .ptr)) (fun(dp:Option Addr) gh=>ab Tryz.prog 27 #[.pointer dp] gh (.v (.one (.int .i64))) (fun(de:Int) cQ=>aa (de==0)
 (ab Tryz.prog 23 #[.pointer aQ.1] cQ (.v (.one .bool)) (fun(gn:Bool) gu=>aa (!gn)
 (ab Tryz.prog 16 #[] gu (.v (.one .bool)) (fun(eP:Bool) dD=>K (.bool eP) dD))
 (K (.bool false) gu)))
 (K (.bool false) cQ)))))
 (K (.bool false) bO)))
 (K (.bool false) bS))))
 (K (.bool false) cm))
 (K (.bool false) cm)))))
 (ab Tryz.prog 12 #[.pointer aQ.1,.agg #[.int .i64 5,.string (⟨#[]⟩:ByteArray),.string (⟨#[]⟩:ByteArray),.string (⟨#[]⟩:ByteArray),.string (⟨#[]⟩:ByteArray),.int .i64 2,.int .i64 0,.nilIface]] bx (.v (.one (.int .i64))) (fun(ek:Int) fM=>aa (ek != 0)
 (K (.bool false) fM)
 (bw (Int×Unit) (fun _ sN fw abO=>aa (decide (sN.1<2))
 (ab Tryz.prog 13 #[.pointer aQ.1] fw (.aN [.one .aj,.one (.int .i64)]) (fun(jW:an×Int×Unit) gd=>aa (jW.2.1 != 10)
 (K (.bool false) gd)
 (aa ((jW.1.2.1:Int) != 0)
 (K (.bool false) gd)
 (ab Tryz.prog 17 #[.pointer aR] gd (.v (.one .aj)) (fun(gY:an) tn=>ab Tryz.prog 20 #[.slice gY.1 gY.2.1 gY.2.2,.slice br.1 br.2.1 br.2.2] tn (.v (.one .bool)) (fun(gW:Bool) jZ=>aa (!gW)
 (K (.bool false) jZ)
 (abO (IntKind.i64.wrap (sN.1+1),()) jZ)))))))
 (ab Tryz.prog 25 #[.pointer aQ.1] fw (.v (.one .ptr)) (fun(mu:Option Addr) ng=>aa (Option.isNone mu)
 (K (.bool false) ng)
 (ab Tryz.prog 28 #[.pointer mu] ng (.aN [.agg dt,.one .bool]) (fun(kg:bE×Bool×Unit) gr=>ak (.cells #[.int .i64 0,.string (⟨#[]⟩:ByteArray),.string (⟨#[]⟩:ByteArray),.string (⟨#[]⟩:ByteArray),.string (⟨#[]⟩:ByteArray),.int .i64 0,.int .i64 0,.nilIface] 36) gr (fun g56 mv=>ar (ad g56) [.int .i64 kg.1.1,.string kg.1.2.1,.string kg.1.2.2.1,.string kg.1.2.2.2.1,.string kg.1.2.2.2.2.1,.int .i64 kg.1.2.2.2.2.2.1,.int .i64 kg.1.2.2.2.2.2.2.1,kg.1.2.2.2.2.2.2.2.1] mv (fun qM=>ab Tryz.prog 29 #[.pointer mu] qM (.aN [.agg dt,.one .bool]) (fun(kj:bE×Bool×Unit) qP=>ak (.cells #[.int .i64 0,.string (⟨#[]⟩:ByteArray),.string (⟨#[]⟩:ByteArray),.string (⟨#[]⟩:ByteArray),.string (⟨#[]⟩:ByteArray),.int .i64 0,.int .i64 0,.nilIface] 36) qP (fun na iP=>ar (ad na) [.int .i64 kj.1.1,.string kj.1.2.1,.string kj.1.2.2.1,.string kj.1.2.2.2.1,.string kj.1.2.2.2.2.1,.int .i64 kj.1.2.2.2.2.2.1,.int .i64 kj.1.2.2.2.2.2.2.1,kj.1.2.2.2.2.2.2.2.1] iP (fun oR=>aa kg.2.1
 (aa (!kj.2.1)
 (ab Tryz.prog 26 #[.pointer mu] oR (.v (.one .ptr)) (fun(u0:Option Addr) vK=>ab Tryz.prog 27 #[.pointer u0] vK (.v (.one (.int .i64))) (fun(qS:Int) xg=>aa (qS==0)
 (ab Tryz.prog 23 #[.pointer aQ.1] xg (.v (.one .bool)) (fun(zi:Bool) lM=>aa (!zi)
 (ab Tryz.prog 16 #[] lM (.v (.one .bool)) (fun(pT:Bool) pU=>K (.bool pT) pU))
 (K (.bool false) lM)))
 (K (.bool false) xg))))
 (K (.bool false) oR))
 (K (.bool false) oR)))))))))))
 (0,()) fM)))))))))))))))
def pl5:aB:=(.seq .auto (.seq .auto (.seq .auto (.seq .auto (.seq .auto (.seq .auto (.seq .auto (.join [(9,.one (.int .i64))] .auto (.seq .auto (.seq .auto (.seq .auto (.seq .auto (.seq .auto (.seq (.seq .auto (.block (.loop [(17,.one (.int .i64))] .auto))) .auto))))))))))))))
theorem c5 (p0:Option Addr)(aH aP:Nat)(p1:Int)(p2:Bool)(w:World)(K:Value->World->Prop)(h:C5 p0 aH aP p1 p2 w K):Ret Tryz.prog 5 #[.slice p0 aH aP,.int .i64 p1,.bool p2] w K:=aC (by kernel_rfl) Tryz.func5 (p:=pl5) (Eq.mpr (by kernel_rfl) h)
theorem abP {q:Int}(h1:0<=q)(h2:q<=65536):(pd q).cF=q:=by
 unfold pd;dsimp only;rw[if_neg (by omega),if_neg (by omega)]
set_option maxHeartbeats 4000000 in
theorem nfull_walk (a0:Option Addr)(A4 Jq:Nat)(z0:List Int)(p1:Int)(p2:Bool)(w:World)(h0:IsInts .u8 w a0 A4 Jq z0)(h1:(Go.Lit.int .i64 p1).wf=true)(ht:TabW w):
  Ret Tryz.prog 5 #[.slice a0 A4 Jq,.int .i64 p1,.bool p2] w fun r w'=>r=.bool true/\Fr none1 w w':=by
 refine c5 a0 A4 Jq p1 p2 w _ ?_;unfold C5;obtain⟨hr,wC⟩:=RF h0;refine ak.of fun g1 w1 df au f1 ka=>?_;have au:w1.heap[g1]? = some (.cells (cT yn).toArray 24 (0,0)):=au;refine abK ?_;refine abJ au (hr.af f1) _ fun r1 w2 aK f2=>?_;have U:=abI ((z0.take A4).map toByte);generalize vS ((z0.take A4).map toByte)=kb at *;have F2:Fr none1 w w2:=f1.fresh f2 (by omega);refine abL p1 13 (by decide) ?_;have NW:=UE p1 13;have dO:=UF p1 (n:=13) (by decide);generalize within p1 13=room at *;have ew:IntKind.i64.wrap (4+room)=4+room:=wI (by omega) (by omega);rw[ew];refine ab.of (Nr (4+room) w2) ?_;rintro _ w3 ⟨fb,rfl,AZ,f3,i3⟩;have hq:=abP (q:=4+room) (by omega) (by omega);have F3:=F2.trans f3;have ud:=bQ aK;refine⟨some ⟨fb,0,none⟩,rfl,aa.f rfl ?_⟩;refine cq.of (fun st w'=>st.1=(if p2=true then 1 else 0)/\w3=w') ?_ ?_
 ·exact aa.by (fun h=>⟨by rw[show p2=true from h];rfl,rfl⟩) (fun h=>⟨by rw[show p2=false from h];rfl,rfl⟩)
 rintro _ ⟨side,_⟩ _ ⟨AV,rfl⟩;dsimp only at AV ⊢;have vG:side=0\/side=1:=by rw[AV];split<;>simp
 have b3:=f3.af aK;refine eI.of b3 (by rw[kD,U]) ?_;obtain⟨m,mo,ml,mw,mb⟩:=Qw U vG (q:=4+room) (by rw[hq];omega);rw[hq] at ml;have tN:=(gI.of ht).af F3;refine ab.of (Qh i3 rfl U side tN (by have:=F2.size;omega)) ?_;rw[mo];rintro _ w4 ⟨QE,VG,f4,(⟨b,n,F,hn,_,_,rfl,hR,hF⟩ | ⟨hn,_⟩)⟩
 rotate_left
 ·cases hn
 obtain rfl:m=n:=by injection hn
 have z2:=F2.size;have z3:=f3.size;have fbl:=i3.lt;have fgl:=i3.pc;have abQ:g1≠fb:=by omega
 have b4:=f4.ag b3 abQ;have F4:Fr none1 w w4:=F3.comp f4 fun k U t=>by have t:k=fb:=t;omega
 have tN4:=tN.ag f4 fun k t=>by have t:k=fb:=t;omega
 have A3:m.kb.length=16:=by rw[ml.kb];exact U
 refine⟨(some ⟨b,0,none⟩,0,()),rfl,aa.f rfl (aa.f rfl ?_)⟩;refine ab.of (CB hR.file) ?_;rintro _ w5 ⟨u,rfl,hu,f5,pg⟩;have F5:=F4.trans f5;have R5:=hR.af f5;have t5:=tN4.af f5;have ob:=Qs (d:=2) (by decide) (by decide);refine⟨u,rfl,?_⟩;have lj:m.j.fs.b.length<=1000000000000000000:=by rw[mb];decide
 -- nothing has acx put
 have empty:m.p.es=[]:=by rw[ml.p];rfl
 refine aa.by (fun sy=>?_) (fun sy=>?_)
 ·have sy:p2=true:=sy
  have es:side=1:=by rw[AV,sy];rfl
  subst es;refine eI.of (f5.af b4) (by rw[kD,U]) ?_;refine ab.of (N9 kb U (jk 1 (jj 2)) ob.small.e ob.small.2.2.2.2 (show(0:Int)<=0/\(0:Int)<18446744073709551616 by decide) w5 t5.j7) ?_;rintro _ w6 ⟨v,rfl,hv,f6⟩;refine⟨(v,_,()),rfl,?_⟩;have QG:=Jp ob;have Bl:=OF (kb:=kb) QG;have ec:ny (jk 1 (jj 2))=0:=QG;obtain⟨q1,q2,q3⟩:=abH (kb:=kb) ob rfl ml mw mb (by omega);refine ab.of (abo (R5.af f6) A3 ml.live.ok ml.live.HW (by rw[ml.number];decide) (t5.af f6) hv.is.rd hv.is.cap (by omega)) ?_;rw[q1];rintro _ w7 ⟨y,rfl,hy⟩;obtain⟨F7,fg7,S7,t7,r7,_⟩:=hy.out;have F7w:=t7.new (R5.af f6) (F5.trans f6) rfl;have gT:=r7.len;refine⟨(y,10,()),rfl,aa.t rfl (aa.t (by rw[gT];rfl) ?_)⟩;refine ab.of (CB t7.r.file) ?_;rintro _ w8 ⟨x,rfl,hx,f8,_⟩;rw[q2] at hx;have Jr:aZ w7 u m.j.fs.b:=(hu.rd.af f6).ag t7.f fun k U t=>by
   obtain⟨l1,l2,l3,l4,l5,l6⟩:=hR.lt;have:=pg k U
   rcases t with t | t
   ·have:=l1 k t;omega
   ·omega
  refine⟨x,rfl,QA hx.rd (Jr.af f8) lj fun w9 f9=>aa.t (by rw[decide_eq_true rfl]) ?_⟩;have Js:(m.take (ib kb (jk 1 (jj 2))).1).1.kb.length=16:=by
   have:=ml.live.take (ib kb (jk 1 (jj 2))).1;rw[<- this.kb];exact this.ok.kb
  have DM:cO (m.take (ib kb (jk 1 (jj 2))).1).1.p:=by rw[q3];exact ml.live.ok
  have R9:=t7.r.af (f8.trans f9);refine ab.of (Jh R9 Js DM) ?_;rintro _ aG ⟨d,rfl,hd,f10⟩;refine⟨some ⟨d,0,none⟩,rfl,aa.t rfl ?_⟩;refine ab.of (Jh (R9.af f10) Js DM) ?_;rintro _ aO ⟨d,rfl,hd,f11⟩;refine⟨some ⟨d,0,none⟩,rfl,?_⟩;refine ab.of (I7 hd DM) ?_;rintro _ aM ⟨c,rfl,hc,f12⟩;refine⟨some ⟨c,0,none⟩,rfl,?_⟩;refine ab.of (oz DM.kb hc) ?_;rintro _ _ ⟨rfl,rfl⟩;refine⟨_,rfl,aa.t (by rw[q3,empty];rfl) ?_⟩;refine ab.of (AX ((R9.af f10).af (f11.trans f12)) Js) ?_;rintro _ _ ⟨rfl,rfl⟩;refine⟨_,rfl,aa.t (by unfold NodeM.dead;rw[q2,ml.d];rfl) ?_⟩;have Fz:=((F7w.trans (f8.trans f9)).trans f10).trans (f11.trans f12);refine ab.of (QB aM (ht.af Fz)) ?_;rintro _ aW ⟨rfl,f13⟩;exact⟨true,rfl,rfl,Fz.trans f13⟩
 have sy:p2=false:=sy;have es:side=0:=by rw[AV,sy];rfl
 subst es;obtain⟨o1,o2,o3,o4⟩:=ml.offer (.inl rfl) ob;refine ab.of (P0 R5 A3 ml.live.ok t5 (jj 2) ob.small.2.2.2.2) ?_;rw[o1];rintro _ w6 ⟨rfl,F6,t6⟩;have xP:=t6.new R5 F5 rfl;have tN6:=t6.j7 R5 t5;have hu6:aZ w6 u m.j.fs.b:=hu.rd.ag t6.f fun k U t=>by
  obtain⟨l1,l2,l3,l4,l5,l6⟩:=hR.lt;have:=pg k U
  rcases t with t | t
  ·have:=l1 k t;omega
  ·omega
 have ul:∀ k,aw u k->k<w5.heap.size:=fun k U=>aF.lt hu U;have uF6:∀ k,aw u k->¬ qA F6 fb k:=fun k U t=>by
  obtain⟨l1,l2,l3,l4,l5,l6⟩:=hR.lt;have:=pg k U;have:=ul k U
  rcases t with t | t
  ·rcases t6.sub k t with t | t
   ·have:=l1 k t;omega
   ·have:=t.1;omega
  ·omega
 refine⟨_,rfl,aa.f rfl ?_⟩;have Jo:=abG ob o2 (by rw[o3];exact mb) (by omega);generalize kc:(m.offer (jj 2)).1=n2 at *;have ft:n2.kb.length=16:=by rw[o2.kb];exact U
 refine bw.of (fun q w'=>∃ F' eB,(0<=q.1/\q.1<=2)/\ij (w.heap.size) w' F' b n2 fb eB/\Fr none1 w w'/\gI w.heap.size w'/\aZ w' u m.j.fs.b/\(∀ k,aw u k->¬ qA F' fb k)/\(∀ k,aw u k->k<w'.heap.size)) (fun q _=>(2 - q.1).toNat)
  ⟨F6,QE,⟨by decide,by decide⟩,t6.r,xP,tN6,hu6,uF6,fun k U=>by have:=ul k U;have:=t6.f.size;omega⟩ ?_
 rintro _ ⟨q,_⟩ w7 ⟨F7,fg7,⟨hq0,mQ⟩,R7,tT,QH,Jr,Jt,QI⟩;dsimp only at hq0 mQ ⊢;refine aa.dec (fun aS=>?_) (fun dQ=>?_)
 ·have aS:q<2:=aS
  refine ab.of (Qd R7 ft o2.live.ok o2.live.HW (by rw[o2.number];decide) QH) ?_;rw[Jo];rintro _ w8 ⟨y,rfl,hy⟩;obtain⟨F8,fg8,S8,t8,r8,_⟩:=hy.out;have gT:=r8.len;refine⟨(y,10,()),rfl,aa.f rfl (aa.f (by rw[gT];rfl) ?_)⟩;refine ab.of (CB t8.r.file) ?_;rintro _ w9 ⟨x,rfl,hx,f9,_⟩;have ej:n2.j.fs.b=m.j.fs.b:=by rw[o3]
  have hx:cg w9 x n2.j.fs.b:=hx;rw[ej] at hx;have QJ:=Jr.ag t8.f Jt;refine⟨x,rfl,QA hx.rd (QJ.af f9) lj fun aG f10=>aa.f (by rw[decide_eq_true rfl];rfl) ?_⟩;have qi:=f9.trans f10;have z8:=t8.f.size;have PQ:=qi.size;refine⟨⟨F8,fg8,?_,t8.r.af qi,(t8.new R7 tT rfl).trans qi,(t8.j7 R7 QH).af qi,QJ.af qi,fun k U t=>?_,fun k U=>by have:=QI k U;omega⟩,?_⟩
  ·rw[wI (by omega) (by omega)];omega
  ·rcases t with t | t
   ·rcases t8.sub k t with t | t
    ·exact Jt k U (.inl t)
    ·have:=t.1;have:=QI k U;omega
   ·exact Jt k U (.inr t)
  ·rw[wI (by omega) (by omega)];omega
 refine ab.of (Jh R7 ft o2.live.ok) ?_;rintro _ w8 ⟨d,rfl,hd,f8⟩;refine⟨some ⟨d,0,none⟩,rfl,aa.f rfl ?_⟩;have td:=o2.live.ok.kb;refine ab.of (abx hd td) ?_;rintro _ w9 ⟨rfl,f9⟩;refine⟨(n2.p.off.1.e,n2.p.off.2,()),rfl,?_⟩;refine ak.of fun ga aG hga Dw f10 sa=>ar.aE (vs:=gz n2.p.off.1.e) Dw rfl (vP _) fun aO o7 f11 xW=>?_;have z8:=f8.size;have Ju:Fr none1 w8 aO:=(f9.trans f10).fresh f11 (by have:=f9.size;omega);refine ab.of (abw (hd.af Ju) td) ?_;rintro _ aM ⟨rfl,f12⟩;refine⟨(n2.p.aY.1.e,n2.p.aY.2,()),rfl,?_⟩;refine ak.of fun gc aW hgc hbc f13 sc=>ar.aE (vs:=gz n2.p.aY.1.e) hbc rfl (vP _) fun bm zV f14 OT=>?_;have QK:Fr none1 w8 bm:=((Ju.trans f12).trans f13).fresh f14 (by have:=Ju.size;have:=f12.size;omega);have abR:n2.p.off.2=true:=by rw[o2.p];rfl
 have abS:n2.p.aY.2=false:=by rw[o2.p];rfl
 refine aa.t abR (aa.t (by show(!n2.p.aY.2)=true;rw[abS];rfl) ?_);refine ab.of (I7 (hd.af QK) o2.live.ok) ?_;rintro _ bL ⟨c,rfl,hc,f15⟩;refine⟨some ⟨c,0,none⟩,rfl,?_⟩;refine ab.of (oz td hc) ?_;rintro _ _ ⟨rfl,rfl⟩;refine⟨_,rfl,aa.t (by rw[o2.p];rfl) ?_⟩;have QL:=(f8.trans QK).trans f15;refine ab.of (AX (R7.af QL) ft) ?_;rintro _ _ ⟨rfl,rfl⟩;refine⟨_,rfl,aa.t (by unfold NodeM.dead;rw[o2.d];rfl) ?_⟩;have Fz:=tT.trans QL;refine ab.of (QB bL (ht.af Fz)) ?_;rintro _ bn ⟨rfl,f16⟩;exact⟨true,rfl,rfl,Fz.trans f16⟩
end Go.Proofs.YtmkehncgjnhhcaaGreatDoor
