/-
  Texts of this claim, put together: NodeSpec3, NodeLaw3, NodeLaw4, KeyCopy, NodeWake, CNDead, NDead.
  Conditions: those of each theorem.
-/
import Derived.Test.YtmkehncgjnhhcaaGreatDoorQND22x0
import Derived.Test.YtmkehncgjnhhcaaGreatDoorQND22x2
import Derived.Test.YtmkehncgjnhhcaaGreatDoorQND22x3
import Derived.Test.YtmkehncgjnhhcaaGreatDoorQND22x4
import Derived.Test.YtmkehncgjnhhcaaGreatDoorQND22x6
import Derived.KernelRfl
import Derived.Test.YtmkehncgjnhhcaaGreatDoorProg
set_option linter.unusedVariables false
set_option maxRecDepth 100000
namespace Go.Proofs.YtmkehncgjnhhcaaGreatDoor
open Vc
namespace Vc
def D5:(a b:List Ck)->Cs a->Cs b->Cs (a++b)
 | [],_,_,y=>y
 | _::a,b,x,y=>(x.1,D5 a b x.2 y)
theorem QG:∀ (a b:List Ck) (x:Cs a) (y:Cs b),Cs.vals (a++b) (D5 a b x y)=Cs.vals a x++Cs.vals b y
 | [],_,_,_=>rfl
 | c::a,b,x,y=>by
  show c.val x.1::Cs.vals (a++b) (D5 a b x.2 y)=c.val x.1::(Cs.vals a x.2++Cs.vals b y);rw[QG a b x.2 y]
end Vc
abbrev yq:List Ck:=[.int .i64,.ptr,.ptr,.int .i64,.str,.str,.str,.str,.int .i64,.int .i64,.raw,.bool,.int .i64,.str,.str,.str,.str,.int .i64,.int .i64,.raw,.bool,.bool,.bool,.int .i64]
def QH (p:PeerM)(c l:Nat):Cs yq:=
 (p.side,some ⟨c,0,none⟩,some ⟨l,0,none⟩,p.off.1.e.1,p.off.1.e.2.1,p.off.1.e.2.2.1,p.off.1.e.2.2.2.1,p.off.1.e.2.2.2.2.1,p.off.1.e.2.2.2.2.2.1,p.off.1.e.2.2.2.2.2.2.1,p.off.1.e.2.2.2.2.2.2.2.1,p.off.2,p.aW.1.e.1,p.aW.1.e.2.1,p.aW.1.e.2.2.1,p.aW.1.e.2.2.2.1,p.aW.1.e.2.2.2.2.1,p.aW.1.e.2.2.2.2.2.1,p.aW.1.e.2.2.2.2.2.2.1,p.aW.1.e.2.2.2.2.2.2.2.1,p.aW.2,p.wanted,p.bG,p.refused,())
theorem abP (p:PeerM)(c l:Nat):Cs.vals yq (QH p c l)=iE p c l:=rfl
theorem abQ {p:PeerM}(hk:p.kb.length=16)(c l:Nat):∃ x:Cs (nQ++yq),Cs.vals (nQ++yq) x=cV p.kb++iE p c l:=by
 obtain⟨y,hy⟩:=Ja 16 p.kb hk;refine⟨D5 nQ yq y (QH p c l),?_⟩;rw[QG,abP];have hy:cV p.kb=Cs.vals nQ y:=hy;rw[hy]
theorem abR (p:PeerM)(c l:Nat):(cV p.kb++iE p c l).all bK=true:=by
 rw[List.all_append,Bool.and_eq_true];refine⟨?_,?_⟩
 ·rw[List.all_eq_true]
  intro v hv;obtain⟨b,_,rfl⟩:=List.mem_map.1 hv;rfl
 ·unfold iE
  simp only[List.all_append,Ba,List.all_cons,List.all_nil];rfl
theorem abS (p:PeerM)(c l c' l':Nat):((iE p c l).set 1 (.pointer (some ⟨c',0,none⟩))).set 2 (.pointer (some ⟨l',0,none⟩))=iE p c' l':=rfl
theorem abT {w:World}{F:Nat->Prop}{b:Nat}{p:PeerM}(h:db w F b p)(ho:cX p):Ret Tryz.prog 68 #[.pointer (some ⟨b,0,none⟩)] w fun r w'=>∃ d,r=.pointer (some ⟨d,0,none⟩)/\db w' (cE w w') d p/\Fr none1 w w':=by
 obtain⟨c,l,Fc,Fl,h⟩:=h;have hk:=ho.kb;have hn:=ho.num;have hh:=ho.hs;have hd:=ho.cq.num;refine c68 _ w _ ?_;unfold C68;obtain⟨x,hx⟩:=abQ hk c l;refine⟨x,?_,?_⟩
 ·refine Eq.mp (congrArg (jH w ⟨b,0,none⟩ 0) hx.symm) ?_
  exact nY h.aE _ 0 fun j _=>by simp
 refine ak.of fun g w1 hg au f1 s1=>?_;refine ar.aE (vs:=Cs.vals (nQ++yq) x) au (by rw[hx,List.length_append,kK,hk];rfl) (by rw[hx];exact abR p c l) fun w2 aI f2 s2=>aD.of fun w3 _ f3=>aV.of (fun k=>k=b) ?_;rw[hx] at aI;have aI:w2.heap[g]? = some (.cells (cV p.kb++iE p c l).toArray 138 (0,0)):=aI;have gl:w.heap.size<=g:=by omega
 have f13:Fr none1 w w3:=(f1.fresh f2 gl).dq f3;have h3:=h.af f13;have aR:=f3.af aI;have bl:=bL h.aE;have yp:∀ k,k=b->¬ (only g) k:=fun k hk t=>by have t:k=g:=t;omega
 refine⟨rfl,h3.cc hk 1 (ck:=.ptr) (x:=some ⟨c,0,none⟩) rfl ⟨rfl,h3.cc hk 2 (ck:=.ptr) (x:=some ⟨l,0,none⟩) rfl ?_⟩⟩;refine ab.of (Jc hk h3.ch (by omega) (by omega)) ?_;rintro _ w4 ⟨c',rfl,DY,f4⟩;refine⟨some ⟨c',0,none⟩,rfl,ai.of f4 ?_⟩;refine ab.of (DH (h3.af f4).ld (by omega)) ?_;rintro _ w5 ⟨l',rfl,DZ,f5⟩;refine⟨some ⟨l',0,none⟩,rfl,ai.of f5 ?_⟩;have cY:=(f4.trans f5).af aR;refine rF hk cY 1 (by rw[qD];decide) rfl fun w6 fq f6 s6=>ai.on f6 yp ?_;refine rF hk fq 2 (by rw[List.length_set,qD];decide) rfl fun w7 gC f7 s7=>ai.on f7 yp ?_;rw[abS p c l c' l'] at gC;have z3:=f13.size;have z4:=f4.size;have z5:=f5.size;have gg:g<w3.heap.size:=bL aR;have f57:Fr (only g) w5 w7:=f6.trans f7;refine⟨g,rfl,⟨c',l',_,_,gC,(DY.af f5).ag f57 (fun k hk t=>?_),DZ.ag f57 (fun k hk t=>?_),fun k hk=>⟨⟨by have:=hk.1;omega,by have:=hk.2;have:=f57.size;omega⟩,by have:=hk.1;omega⟩,fun k hk=>⟨⟨by have:=hk.1;omega,by have:=hk.2;have:=f57.size;omega⟩,by have:=hk.1;omega⟩,⟨gl,by have:=f57.size;omega⟩⟩,((f13.trans f4).trans f5).fresh f57 gl⟩
 ·have t:k=g:=t
  have:=hk.1;omega
 ·have t:k=g:=t
  have:=hk.1;omega
theorem abU {w:World}{F:Nat->Prop}{b:Nat}{p:PeerM}(h:db w F b p)(hk:p.kb.length=16):Ret Tryz.prog 29 #[.pointer (some ⟨b,0,none⟩)] w fun r w'=>r=.tuple #[ix p.aW.1.e,.bool p.aW.2]/\Fr none1 w w':=by
 obtain⟨c,l,Fc,Fl,h⟩:=h;refine c29 _ w _ ?_;unfold C29;refine ak.of fun g w1 hg au f1 s1=>aD.of fun w2 _ f2=>aV.of (fun k=>k=b) ?_;have f12:=f1.trans f2;have h2:=h.af f12;have bl:=bL h.aE;refine⟨rfl,h2.sA hk 12 (cks:=iu) p.aW.1.e (fun j hj=>?_) ⟨rfl,h2.cc hk 20 (ck:=.bool) (x:=p.aW.2) rfl ?_⟩⟩
 ·match j,hj with
  | 0,_=>rfl
  | 1,_=>rfl
  | 2,_=>rfl
  | 3,_=>rfl
  | 4,_=>rfl
  | 5,_=>rfl
  | 6,_=>rfl
  | 7,_=>rfl
 refine ar.aE (vs:=gV p.aW.1.e) (f2.af au) rfl (Ba _) fun w3 aR f3 s3=>ai.on f3 (fun k hk t=>by have t:k=g:=t;omega) ?_;exact aq.aE (cks:=iu) (x:=p.aW.1.e) aR ⟨rfl,f12.fresh f3 (by omega)⟩
theorem JN {N:Nat}{w:World}{F:Nat->Prop}{b:Nat}{n:NodeM}{fb fg:Nat}(h:gY N w F b n fb fg)(hk:n.kb.length=16)(ho:cX n.p):Ret Tryz.prog 25 #[.pointer (some ⟨b,0,none⟩)] w fun r w'=>∃ d,r=.pointer (some ⟨d,0,none⟩)/\db w' (cE w w') d n.p/\Fr none1 w w':=by
 obtain⟨j,pb,wb,S,Fp,h⟩:=h;refine c25 _ w _ ?_;refine h.cc hk 2 (ck:=.ptr) (x:=some ⟨pb,0,none⟩) rfl ?_;refine ab.of (abT h.pr ho) ?_;rintro _ w1 ⟨d,rfl,hd,f1⟩;exact⟨some ⟨d,0,none⟩,rfl,d,rfl,hd,f1⟩
theorem abV (n:NodeM)(b:List UInt8):n.aZ<=(n.record b).1.aZ/\(n.record b).1.aZ<=n.aZ+1:=by
 unfold NodeM.record;split
 ·exact⟨by simp,by dsimp only;omega⟩
 split
 ·exact⟨by dsimp only;omega,by simp⟩
 split
 ·split<;>exact⟨by simp,by dsimp only;omega⟩
 split
 ·split
  ·exact⟨by simp,by dsimp only;omega⟩
  split<;>exact⟨by simp,by dsimp only;omega⟩
 ·exact⟨by simp,by dsimp only;omega⟩
def abW (N:Nat)(w:World)(fb fg:Nat)(o:bI×Option NodeM×Int)(r:Value)(w':World):Prop:=
  ∃ dZ,(dZ=fb\/dZ=fg\/cE w w' dZ)/\Fr (only fb) w w' /\
    ((∃ b n F,o.2.1=some n/\n.j.fs=o.1/\o.2.2=0/\r=.tuple #[.pointer (some ⟨b,0,none⟩),.int .i64 0]/\gY N w' F b n fb dZ/\∀ k,F k->cE w w' k) \/
     (o.2.1=none/\o.2.2≠0/\r=.tuple #[.pointer none,.int .i64 o.2.2]/\gN w' fb dZ o.1))
theorem JO {N:Nat}{w:World}{fb fg:Nat}{s:bI}(h:gN w fb fg s)(hd:s.dead=false){kb:List UInt8}(hk:kb.length=16)(side:Int)(ht:eG N w)(hN:N<=fb):
  Ret Tryz.prog 10 #[.pointer (some ⟨fb,0,none⟩),.agg (cV kb).toArray,.int .i64 side] w (abW N w fb fg (NodeM.open_ kb side s)):=by
 refine c10 _ (cV kb) side w _ ?_;unfold C10;refine ak.of fun g1 w1 dp au f1 s1=>?_;refine cy.of (fun st w'=>st.1=decide (side≠0/\side≠1)/\w1=w') ?_ ?_
 ·refine aa.ne (fun h0=>⟨?_,rfl⟩) (fun h0=>⟨?_,rfl⟩)
  ·have h0:side≠0:=h0
   show(side != 1)=_
   by_cases h1:side=1
   ·rw[decide_eq_false (by simp[h1])];simpa using h1
   ·rw[decide_eq_true ⟨h0,h1⟩];simpa using h1
  ·have h0:side=0:=h0
   show false=_;rw[decide_eq_false (by simp[h0])]
 rintro _ ⟨st,_⟩ _ ⟨dD,rfl⟩;dsimp only at dD ⊢;subst dD;have h1:=h.af f1;have ofl:=h.lt;have ogl:=h.qq;have z1:=f1.size;refine aa.dec (fun hs=>?_) (fun hs=>?_)
 ·have e:NodeM.open_ kb side s=(s,none,1):=by unfold NodeM.open_;rw[if_pos hs]
  rw[e];exact⟨fg,.inr (.inl rfl),f1.mono fun _ _ t=>t.elim,.inr ⟨rfl,(show(1:Int)≠0 by decide),rfl,h1⟩⟩
 have AG:side=0\/side=1:=by
  by_cases h0:side=0
  ·exact .inl h0
  ·by_cases h1:side=1
   ·exact .inr h1
   ·exact absurd ⟨h0,h1⟩ hs
 obtain⟨rows,rest,hP⟩:=YD s.b.length s.b (Nat.le_refl _);have Da:=hP.len;have jh:=h.ok.len;refine ab.of (Yv h1 hd hP) ?_;rintro _ w2 (⟨j,S,g',s',rfl,jX,f2,rl,qw,J2,yI⟩ | ⟨O5,D6,rfl,t2⟩)
 rotate_left
 ·have eo:(ma s)=((lJ s ((s.b.length - rest.length:Nat):Int)).1,[],(lJ s ((s.b.length - rest.length:Nat):Int)).2):=by
   unfold ma;rw[Is hP,if_neg (by rw[hd];simp)];dsimp only;rw[if_neg O5,if_pos D6]
  have e:NodeM.open_ kb side s=((lJ s ((s.b.length - rest.length:Nat):Int)).1,none,(lJ s ((s.b.length - rest.length:Nat):Int)).2):=by
   unfold NodeM.open_;rw[if_neg hs,eo,if_pos D6]
  rw[e];obtain⟨f2,g',qw,h2⟩:=t2;refine⟨(none,_,()),rfl,aa.ne (fun ay=>?_) (fun he=>absurd he D6)⟩;exact⟨g',qw.imp_right fun t=>t.imp_right fun t=>⟨by omega,h2.qq⟩,f1.eL f2,.inr ⟨rfl,D6,rfl,h2⟩⟩
 have eo:ma s=(s',rows,0):=by
  unfold ma;rw[Is hP,if_neg (by rw[hd];simp)];dsimp only
  rcases yI with⟨hr,rfl⟩ | ⟨hr,hc,rfl⟩
  ·rw[if_pos hr]
  ·rw[if_neg hr,hc,if_neg (by simp)]
 refine⟨(some ⟨j,0,none⟩,0,()),rfl,aa.f rfl ?_⟩;have z2:=f2.size;have abX:g1≠fb:=by omega
 refine aD.of fun w3 _ f3=>aV.all ?_;have b3:=f3.af (f2.ag au abX);refine av.all (eK.of b3 (by rw[kK,hk]) (av.all (eK.of b3 (by rw[kK,hk]) ?_)));refine ab.of (abp hk side w3) ?_;rintro _ w4 ⟨pb,rfl,xR,f4⟩;refine⟨some ⟨pb,0,none⟩,rfl,ai.of f4 ?_⟩;refine ab.of (Xd w4) ?_;rintro _ w5 ⟨wb,hwb,rfl,f5,rz⟩;refine⟨some ⟨wb,0,none⟩,rfl,ai.of f5 ?_⟩;refine DC hk fun y hy=>ak.of fun b w6 hb fq f6 s6=>ai.of f6 ?_;have fq:w6.heap[b]? = some (.cells (Cs.vals nQ y++[Value.int .i64 side,.pointer (some ⟨j,0,none⟩),.pointer (some ⟨pb,0,none⟩),.pointer (some ⟨wb,0,none⟩),.int .i64 0,.int .i64 0]).toArray 104 (0,0)):=fq;rw[hy] at fq;have z3:=f3.size;have z4:=f4.size;have z5:=f5.size;have jl:=J2.Av;have CW:=J2.file.qq;have nO:=rz.lt;have D7:=J2.slt;have pbn:cE w3 w4 pb:=by obtain⟨c,l,Fc,Fl,q⟩:=xR;exact q.mem
 have f26:Fr none1 w2 w6:=((f3.trans f4).trans f5).trans f6;have e0:NodeM.fresh kb side s' rows=⟨kb,side,⟨s',false,rows⟩,mK kb side,vH,0,0⟩:=rfl
 -- DT is the new acU own
 have acV:∀ k,w.heap.size<=k->k≠fb:=fun k hk t=>by omega
 have n6:fB N w6 (fun k=>k=b\/k=wb\/k=j\/S k\/cE w3 w4 k) b (NodeM.fresh kb side s' rows) fb g' j pb wb S (cE w3 w4):=by
  refine⟨fq,J2.af f26,xR.af (f5.trans f6),rz.ag f6 (fun t=>t),⟨.inl rfl,.inr (.inl rfl),.inr (.inr (.inl rfl)),fun k hk=>.inr (.inr (.inr (.inl hk))),fun k hk=>.inr (.inr (.inr (.inr hk)))⟩,?_,?_,?_,?_,hN⟩
  ·refine⟨by omega,by omega,by omega,fun t=>by have:=D7 b t;omega,fun t=>by have:=D7 wb t;omega,fun t=>by have:=t.2;omega,fun t=>by have:=t.2;omega,fun t=>by have:=t.1;omega,fun k hk t=>by have:=D7 k hk;have:=t.1;omega⟩
  ·refine⟨fun t=>?_,fun t=>?_⟩
   ·rcases t with t | t | t | t | t
    ·omega
    ·omega
    ·omega
    ·have:=rl fb t;omega
    ·have:=t.1;omega
   ·rcases t with t | t | t | t | t
    ·omega
    ·omega
    ·exact J2.ne.2 (Eq.symm t)
    ·exact(J2.off g' t).2.2 rfl
    ·have:=t.1;omega
  ·intro k hk
   rcases hk with t | t | t | t | t
   ·omega
   ·omega
   ·omega
   ·have:=D7 k t;omega
   ·have:=t.2;omega
  ·intro k hk
   have hNw:N<=w.heap.size:=ht.le
   rcases hk with t | t | t | t | t
   ·omega
   ·omega
   ·omega
   ·have:=rl k t;omega
   ·have:=t.1;omega
 generalize QI:(fun k=>k=b\/k=wb\/k=j\/S k\/cE w3 w4 k)=F0 at n6;have QJ:∀ k,F0 k->w.heap.size<=k:=by
  intro k hk;rw[<- QI] at hk
  rcases hk with t | t | t | t | t
  ·omega
  ·omega
  ·omega
  ·have:=rl k t;omega
  ·have:=t.1;omega
 have Di:Fr (only fb) w w6:=(f1.eL f2).dq f26;have AA:∀ {w':World},w2.heap.size<=w'.heap.size->(g'=fb\/g'=fg\/cE w w' g'):=fun hz=>qw.imp_right fun t=>t.imp_right fun t=>⟨by omega,by omega⟩;refine ab.of (XV (J2.af f26) (by omega) (fun r hr=>by have:=Da.2 r hr;omega)) ?_;rintro _ w7 ⟨v,Sv,rfl,JP,f7,hSv⟩;refine⟨v,rfl,?_⟩;have n7:=n6.af f7;have cO:=JP.len;have abY:=JP.lt;have acW:(NodeM.fresh kb side s' rows).p.kb.length=16:=hk;have AE:Fr (only fb) w w7:=Di.dq f7;have z6:=f26.size;have z7:=f7.size;have F0l:∀ k,F0 k->k<w6.heap.size:=n6.lt;refine bC.of (fun q w'=>∃ (i:Nat) (n:NodeM) (F' yn:Nat->Prop),q.1=(i:Int)/\i<=rows.length/\fB N w' F' b n fb g' j pb wb S yn/\(NodeM.fresh kb side s' rows).records rows=n.records (rows.drop i)/\(0<=n.aZ/\n.aZ<=i)/\cX n.p/\n.kb=kb/\n.side=side/\n.j=⟨s',false,rows⟩ /\
   Fr (only fb) w w'/\w7.heap.size<=w'.heap.size/\(∀ k,F' k->F0 k\/cE w7 w' k)/\ja w' Sv v rows) (fun q _=>(rows.length - q.1).toNat)
  ⟨0,_,F0,_,rfl,Nat.zero_le _,n7,rfl,⟨Int.le_refl _,Int.le_refl _⟩,OG hk side,rfl,rfl,rfl,AE,Nat.le_refl _,fun k hk=>.inl hk,JP⟩ ?_
 rintro _ ⟨q,_⟩ w8 ⟨i,n,F',yn,Bi,jf,n8,me,JQ,QK,BI,wC,sJ,JR,z8,JS,QL⟩;dsimp only at Bi ⊢;subst Bi;have ht8:eG N w8:=ht.ag JR fun k t=>by have t:k=fb:=t;omega
 have JT:n.kb.length=16:=by rw[BI];exact hk
 have D8:∀ k,F' k->cE w w8 k:=fun k hk=>by
  rcases JS k hk with t | t
  ·exact⟨QJ k t,n8.lt k hk⟩
  ·exact⟨by have:=t.1;omega,t.2⟩
 have J8:iD w8 S j fb g' s' false rows:=by have:=n8.jr;rw[sJ] at this;exact this
 have QM:∀ {w':World},w8.heap.size<=w'.heap.size->(g'=fb\/g'=fg\/cE w w' g'):=fun hz=>qw.imp_right fun t=>t.imp_right fun t=>⟨by omega,by omega⟩;refine aa.dec (fun aU=>?_) (fun eu=>?_)
 ·have aU:(i:Int)<(v.2.1:Int):=aU
  have hi:i<rows.length:=by omega
  refine QL.Yp (by omega) aU fun u hu rh hus=>?_;rw[Int.toNat_natCast] at hu;have hx:rows.getD i []∈rows:=by rw[List.getD_eq_getElem?_getD,List.getElem?_eq_getElem hi];exact List.getElem_mem hi
  have kW:=Da.2 _ hx;have A4:rows.drop i=rows.getD i []::rows.drop (i+1):=by
   rw[List.getD_eq_getElem?_getD,List.getElem?_eq_getElem hi,List.drop_eq_getElem_cons hi];rfl
  rw[A4,tZ] at me;refine ab.of (aby n8 JT QK (by rw[wC];exact AG) ⟨JQ.1,by omega⟩ ht8 hu rh (by omega)) ?_;rintro _ w9 ⟨rfl,F9,Fp9,n9,t9⟩;have hre:=abV n (rows.getD i []);obtain⟨r1,r2,r3,r4,r5⟩:=OX n (rows.getD i []);have hrp:=(O6 QK (rows.getD i [])).1;have z9:=t9.f.size;have QN:Fr (only fb) w w9:=JR.comp t9.f fun k hk t=>by
   rcases t with t | t
   ·have:=(D8 k t).1;omega
   ·exact t
  refine⟨_,rfl,aa.not (aa.by (fun hA=>?_) (fun hA=>?_))⟩
  ·have hA:(n.record (rows.getD i [])).2=true:=hA
   rw[if_pos hA] at me;refine⟨⟨i+1,(n.record (rows.getD i [])).1,F9,Fp9,?_,hi,n9,me,⟨by have:=JQ.1;omega,by have:=JQ.2;omega⟩,hrp,r1.trans BI,r2.trans wC,r3.trans sJ,QN,by omega,fun k hk=>?_,?_⟩,?_⟩
   ·rw[wI (by omega) (by omega)];omega
   ·rcases t9.sub k hk with t | t
    ·exact(JS k t).imp_right fun t=>⟨t.1,by have:=t.2;omega⟩
    ·exact .inr ⟨by have:=t.1;omega,t.2⟩
   ·refine QL.ag t9.f fun k hk t=>?_
    have h1:=hSv k hk;have h2:=abY k hk
    rcases t with t | t
    ·rcases JS k t with t | t
     ·have:=F0l k t;omega
     ·have:=t.1;omega
    ·omega
   ·rw[wI (by omega) (by omega)];omega
  ·have hA:(n.record (rows.getD i [])).2=false:=hA
   rw[if_neg (by rw[hA];simp)] at me;have e:NodeM.open_ kb side s=(s',none,12):=by unfold NodeM.open_;rw[if_neg hs,eo];dsimp only;rw[if_neg (fun t=>t rfl),me];rfl
   rw[e];have J9:gN w9 fb g' s':=by have:=n9.jr.file;rw[r3,sJ] at this;exact this
   exact⟨g',QM z9,QN,.inr ⟨rfl,(show(12:Int)≠0 by decide),rfl,J9⟩⟩
 ·have eu:¬ (i:Int)<(v.2.1:Int):=eu
  have hi:i=rows.length:=by omega
  rw[hi,List.drop_length] at me;have me:(NodeM.fresh kb side s' rows).records rows=(n,true):=me;refine Aj 1 fun u w9 hu f9 mH=>?_;have n9:=n8.af f9;have J9:=J8.af f9;have ze:=f9.size;refine ab.of (N8 J9 hu.rd (fun k hk=>?_) (by omega)) ?_
  ·have:=mH k hk
   have h1:=J8.Av;have h2:=J8.file.lt;exact⟨aF.lt hu hk,by omega,by omega,fun t=>by have:=J8.slt k t;omega⟩
  rintro _ aG ⟨rfl,t10⟩;obtain⟨JU,g10,vx,yo,D9⟩:=n9.JB (J:=(n.j.put [1]).1) (by unfold jY.put;rw[sJ];exact t10);have z10:=D9.f.size;have QO:Fr (only fb) w aG:=(JR.dq f9).comp D9.f fun k hk t=>by
   rcases t with t | t
   ·have:=(D8 k t).1;omega
   ·exact t
  have QP:g10=fb\/g10=fg\/cE w aG g10:=by
   rcases D9.g with t | t | t
   ·exact .inl t
   ·rw[t];exact QM (by omega)
   ·exact .inr (.inr ⟨by have:=t.1;omega,t.2⟩)
  have QQ:∀ k,JU k->cE w aG k:=fun k hk=>by
   rcases D9.sub k hk with t | t
   ·exact⟨(D8 k t).1,by have:=(D8 k t).2;omega⟩
   ·exact⟨by have:=t.1;omega,t.2⟩
  have e0:NodeM.open_ kb side s=if(n.j.put [1]).2≠0 then((n.j.put [1]).1.fs,none,(n.j.put [1]).2) else((n.j.put [1]).1.fs,some { n with j:=(n.j.put [1]).1,aZ:=n.aZ+1 },0):=by
   unfold NodeM.open_;rw[if_neg hs,eo];dsimp only;rw[if_neg (fun t=>t rfl),me,if_neg (by simp)]
  have ec:(iU s' false [1]).2.2.1=(n.j.put [1]).2:=by unfold jY.put;rw[sJ]
  refine⟨(n.j.put [1]).2,by rw[ec];rfl,aa.ne (fun ay=>?_) (fun hz=>?_)⟩
  ·have ay:(n.j.put [1]).2≠0:=ay
   rw[e0,if_pos ay];exact⟨g10,QP,QO,.inr ⟨rfl,ay,rfl,yo.jr.file⟩⟩
  ·have hz:(n.j.put [1]).2=0:=hz
   rw[e0,if_neg (fun t=>t hz)];refine yo.cc JT 4 (ck:=.int .i64) (x:=n.aZ) rfl ?_;have hw:IntKind.i64.wrap (n.aZ+1)=n.aZ+1:=wI (by omega) (by omega);rw[hw];refine rF JT yo.aE 4 (by show 4<6;decide) rfl fun aO qm f11 AV=>?_;rw[Qv] at qm;obtain⟨n11,t11⟩:=yo.cell (n':={ n with j:=(n.j.put [1]).1,aZ:=n.aZ+1 }) f11 qm rfl rfl rfl
   refine⟨g10,QP.imp_right fun t=>t.imp_right fun t=>⟨t.1,by have:=t.2;omega⟩,QO.comp f11 (fun k hk t=>by have t:k=b:=t;have:=QJ b (by rw[<- QI];exact .inl rfl);omega),.inl ⟨b,_,JU,rfl,rfl,rfl,rfl,⟨_,_,_,_,_,n11⟩,fun k hk=>⟨(QQ k hk).1,by have:=(QQ k hk).2;omega⟩⟩⟩
def kM (d:Int):aT:=(5,[],[],[],[],d,0,.none)
def fC:aT×Bool:=(bb,false)
def pS (kb:List UInt8)(side:Int)(P O:aT×Bool):PeerM:={ mK kb side with aW:=P,off:=O }
structure um (m:aT):Prop where
 QR:∀ s,s=0\/s=1->jU xz m s=0
 len:(dw m).1.length=9
 same:tP m m=true
 small:dH m
theorem QS {d:Int}(h1:1<=d)(h2:d<=10000):um (kM d):=by
 have hc:jm (kM d)=0:=by
  show mA (kM d).e (bp (kM d).t).2=0;have e1:¬ d<0:=by omega
  have e2:¬ d > 10000:=by omega
  simp[mA,nn,oW,kM,aT.e,cS,fZ,tG,gR,Tm.v,cI,e1,e2]
 refine⟨fun s hs=>?_,?_,WX (m:=kM d) (bs:=(dw (kM d)).1) (ON hc),⟨show 0<=65535 by decide,show 0<=65535 by decide,show 0<=65535 by decide,show 0<=65535 by decide,show aK .none<=1000000 by decide⟩⟩
 ·unfold jU iQ
  rw[if_neg (by omega),if_neg (fun t=>t hc),if_neg (by intro t;cases t),if_neg (by intro t;cases t),if_neg (by intro t;cases t),if_neg (by intro t;cases t),if_pos (show(kM d).kind=5 from rfl),if_neg (by show ¬ d<=0;omega)]
 ·have h:dw (kM d)=(UInt8.ofNat ((kM d).e.1 % 256).toNat::(eQ (kM d).e.1).flatMap (fj (kM d).e (bp (kM d).t).1),0):=by
   unfold dw je;rw[if_neg (fun t=>t hc)]
  rw[h];have e5:eQ 5=[68]:=by decide +kernel
  show((eQ 5).flatMap (fj (kM d).e (bp (kM d).t).1)).length+1=9;rw[e5];show(cu d++[]).length+1=9;rw[List.append_nil,iJ]
theorem abZ {kb:List UInt8}{side:Int}(hs:side=0\/side=1){m:aT}(hm:um m):(pS kb side fC fC).offer m=(pS kb side fC (m,true),0):=by
 have ht:jU (pS kb side fC fC).cq m (pS kb side fC fC).side=0:=by
  refine hm.QR _ ?_
  rcases hs with rfl | rfl
  ·exact .inl rfl
  ·exact .inr rfl
 unfold PeerM.offer;rw[if_neg (by intro t;cases t),if_neg (by rintro(t | ⟨t,_⟩)<;>cases t),if_neg (by intro t;cases t),if_neg (fun t=>t ht)]
 rfl
theorem QT {kb:List UInt8}{m:aT}(hm:um m):(pS kb 0 fC (m,true)).tick={ bH with cQ:=true,bN:=m,bO:=[PeerM.fr 1 0 0 false m] }:=by
 have ht:jU xz m 0=0:=hm.QR 0 (.inl rfl);unfold PeerM.tick;rw[if_neg (by intro t;cases t),if_neg (by intro t;cases t),if_neg (by intro t;cases t),if_pos ⟨rfl,rfl⟩];unfold PeerM.kJ;rw[if_neg (fun t=>t ht)];rfl
theorem ab0 {kb:List UInt8}{m:aT}(hm:um m):(pS kb 0 fC (m,true)).bR { bH with cQ:=true,bN:=m,bO:=[PeerM.fr 1 0 0 false m] }=(pS kb 0 (m,true) fC,0):=by
 have hs:=hm.same;unfold PeerM.bR;rw[if_neg (by intro t;cases t)];have hd:(pS kb 0 fC (m,true)).pv { bH with cQ:=true,bN:=m,bO:=[PeerM.fr 1 0 0 false m] }=true:=by
  show(false||(true&&(true&&tP m m)))=true;rw[hs];rfl
 unfold PeerM.ended;rw[if_pos hd];rfl
theorem ab1 {kb:List UInt8}{m:aT}:(pS kb 0 (m,true) fC).tick={ bH with bO:=[PeerM.fr 1 0 0 false m] }:=by
 unfold PeerM.tick;rw[if_neg (by intro t;cases t),if_neg (by intro t;cases t),if_pos (show(pS kb 0 (m,true) fC).aW.2=true from rfl)];rfl
theorem ab2 {kb:List UInt8}{m:aT}:(pS kb 1 fC (m,true)).tick={ bH with bO:=[PeerM.fr 3 0 0 false bb] }:=by
 unfold PeerM.tick;rw[if_neg (by intro t;cases t),if_neg (by intro t;cases t),if_neg (by intro t;cases t),if_neg (by rintro⟨t,_⟩;cases t),if_neg (by rintro⟨t,_⟩;cases t),if_pos ⟨(by intro t;cases t),rfl⟩];rfl
theorem QU {kb:List UInt8}{side:Int}{P O:aT×Bool}(l:List ct):(pS kb side P O).bR { bH with bO:=l }=(pS kb side P O,0):=by
 unfold PeerM.bR;rw[if_neg (by intro t;cases t)];rfl
theorem QV {m:aT}(hm:um m)(l:List ct):(NodeM.eF { bH with cQ:=true,bN:=m,bO:=l }).1.length=10:=by
 show((3:UInt8)::(dw m).1).length=10;rw[List.length_cons,hm.len]
structure oL (Q:Int)(kb:List UInt8)(side i t:Int)(P O:aT×Bool)(n:NodeM):Prop where
 p:n.p=pS kb side P O
 kb:n.kb=kb
 side:n.side=side
 live:Live n
 d:n.j.d=false
 lit:n.j.fs.lit=false
 cr:n.j.fs.cr=Q
 len:(n.j.fs.b.length:Int)<=4 * i+(if P.2=true then 13 else 0)
 aZ:n.aZ=i
 number:n.number=t
theorem QW {kb:List UInt8}(hk:kb.length=16){side:Int}(hs:side=0\/side=1){q:Int}(h4:4<=(rj q).cr):
  ∃ m,NodeM.open_ kb side (rj q)=(m.j.fs,some m,0)/\oL (rj q).cr kb side 1 0 fC fC m/\m.w=vH/\m.j.fs.b.length=4:=by
 obtain⟨m,m1,m2,m3,m4,m5,m6,m7,m8,m9,m10,m11,m12,m13⟩:=ZC hk hs h4;exact⟨m,m1,⟨m5,m3,m4,m2,m10,m11,m12,by rw[m13];decide,m6,m7⟩,m8,m13⟩
theorem oL.offer {Q:Int}{kb:List UInt8}{side i t:Int}{n:NodeM}(h:oL Q kb side i t fC fC n)(hs:side=0\/side=1){m:aT}(hm:um m):(n.offer m).2=0/\oL Q kb side i t fC (m,true) (n.offer m).1/\(n.offer m).1.j=n.j/\(n.offer m).1.w=n.w:=by
 have hl:=h.live.offer hm.small;have e:n.offer m=({ n with p:=(n.p.offer m).1 },(n.p.offer m).2):=by
  unfold NodeM.offer NodeM.dead;rw[if_neg (by rw[h.d];simp)]
 have ep:n.p.offer m=(pS kb side fC (m,true),0):=by rw[h.p];exact abZ hs hm
 rw[e,ep] at hl ⊢;exact⟨rfl,⟨rfl,h.kb,h.side,hl,h.d,h.lit,h.cr,h.len,h.aZ,h.number⟩,rfl,rfl⟩
theorem oL.act {Q:Int}{kb:List UInt8}{side i t:Int}{P O P' O':aT×Bool}{n:NodeM}(h:oL Q kb side i t P O n)(hi:0<=i/\i<=1000)(ht:0<=t/\t<=1000)(hQ:4 * i+13<=Q){a:bX}(hf:Fits n.p a)(ha:nK a)(hs:∀ f∈a.bO,vM f)
  (hE:a.da=false) (hP:a.cQ=true->P.2=false/\P'.2=true/\(NodeM.eF a).1.length=10) (JV:a.cQ=false->P'.2=P.2) (hc:(n.p.bR a).1=pS kb side P' O') :
  (n.act a).2=(a.bO.map (fun f=>(kI kb (side,i,t,f.2.2.2)).1),0)/\oL Q kb side i (t+(a.bO.length:Int)) P' O' (n.act a).1:=by
 obtain⟨k1,k2,k3,k4,k5,k6⟩:=Ds (n:=n) a;have kr:(n.ag a).2=0/\(n.ag a).1.j.fs.lit=false/\(n.ag a).1.j.d=false:=by
  cases hp:a.cQ with
  | false=>
   have e:n.ag a=(n,0):=by unfold NodeM.ag;rw[if_pos ⟨hE,hp⟩]
   rw[e];exact⟨rfl,h.lit,h.d⟩
  | true=>
   obtain⟨q1,q2,q3⟩:=hP hp;have hl:=h.len;rw[q1,if_neg (by simp)] at hl;refine Zz h.live h.d h.lit hf (L:=10) (.inr (by omega)) ?_;rw[h.cr];omega
 have hcn:iC n.aZ=true:=by rw[h.aZ];unfold iC;rw[decide_eq_true (by omega),decide_eq_true (by omega)];rfl
 have qS:iC n.number=true:=by rw[h.number];unfold iC;rw[decide_eq_true (by omega),decide_eq_true (by omega)];rfl
 have e:=Pb h.live hf ha kr.1 hs hcn qS;have hl:=h.live.act h.d hf ha;rw[e] at hl ⊢;rw[h.kb,h.side,h.aZ,h.number];obtain⟨l1,l2,l3,l4⟩:=Pc hf;refine⟨rfl,⟨hc,k2.trans h.kb,k3.trans h.side,by rw[h.number] at hl;exact hl,kr.2.2,kr.2.1,l2.trans h.cr,?_,k4.trans h.aZ,rfl⟩⟩;have hl:=h.len;cases hp:a.cQ with
 | false=>
  show(((n.ag a).1.j.fs.b.length:Nat):Int)<=_;rw[l3 hE hp,JV hp];exact hl
 | true=>
  obtain⟨q1,q2,q3⟩:=hP hp;rw[q1,if_neg (by simp)] at hl;show(((n.ag a).1.j.fs.b.length:Nat):Int)<=_;rw[q2,if_pos rfl];omega
def QX (side:Int)(m:aT)(P O:aT×Bool):Prop:=(side=0/\P=fC/\O=(m,true))\/(side=0/\P=(m,true)/\O=fC)\/(side=1/\P=fC/\O=(m,true))
theorem oL.tick {Q:Int}{kb:List UInt8}{side i t:Int}{P O:aT×Bool}{n:NodeM}(h:oL Q kb side i t P O n)(hi:0<=i/\i<=1000)(ht:0<=t/\t<=1000)(hQ:4 * i+13<=Q){m:aT}(hm:um m)(hw:QX side m P O):
  ∃ (f:List UInt8) (x:ct) (P' O':aT×Bool),n.tick.2=([f],0)/\eZ kb f=(x,0)/\f.length<=5000/\x.1=side/\x.2.1=i/\x.2.2.1=t/\oL Q kb side i (t+1) P' O' n.tick.1/\QX side m P' O'/\(side=0->P'=(m,true))/\(side=1->P'=fC):=by
 have e:n.tick=n.act n.p.tick:=by unfold NodeM.tick NodeM.dead;rw[if_neg (by rw[h.d];simp)]
 have hf:=Im n.p;have ha:=h.live.ok.tick;have hs:=Pa h.live.ok h.live.aW;have vu:iC i=true:=by unfold iC;rw[decide_eq_true (by omega),decide_eq_true (by omega)];rfl
 have hct:iC t=true:=by unfold iC;rw[decide_eq_true (by omega),decide_eq_true (by omega)];rfl
 have main:∀ (A:bX) (g:ct) (P' O':aT×Bool),n.p.tick=A->A.bO=[g]->A.da=false->(A.cQ=true->P.2=false/\P'.2=true/\(NodeM.eF A).1.length=10)->(A.cQ=false->P'.2=P.2)->(n.p.bR A).1=pS kb side P' O'->(side=0\/side=1)->g.2.2.2.2.2.1=0 ->
   ∃ (f:List UInt8) (x:ct),n.tick.2=([f],0)/\eZ kb f=(x,0)/\f.length<=5000/\x.1=side/\x.2.1=i/\x.2.2.1=t/\oL Q kb side i (t+1) P' O' n.tick.1:=by
  intro A g P' O' hA sK hE hP JV hc AG h0;rw[hA] at hf ha hs;obtain⟨a1,a2⟩:=h.act hi ht hQ hf ha hs hE hP JV hc;rw[sK] at a1 a2;have hg:=hs g (by rw[sK];simp) side i t AG vu hct;rw[e,hA];refine⟨(kI kb (side,i,t,g.2.2.2)).1,(side,i,t,g.2.2.2),a1,Zr hg ?_,Zs hg,rfl,rfl,rfl,a2⟩;show 0<=g.2.2.2.2.2.1/\g.2.2.2.2.2.1<18446744073709551616;rw[h0];decide
 rcases hw with⟨rfl,rfl,rfl⟩ | ⟨rfl,rfl,rfl⟩ | ⟨rfl,rfl,rfl⟩
 ·obtain⟨f,x,b1,b2,b7,b3,b4,b5,b6⟩:=main _ _ (m,true) fC (by rw[h.p];exact QT hm) rfl rfl (fun _=>⟨rfl,rfl,QV hm _⟩) (fun t=>by cases t) (by rw[h.p,ab0 hm]) (.inl rfl) rfl
  exact⟨f,x,_,_,b1,b2,b7,b3,b4,b5,b6,.inr (.inl ⟨rfl,rfl,rfl⟩),fun _=>rfl,fun t=>by cases t⟩
 ·obtain⟨f,x,b1,b2,b7,b3,b4,b5,b6⟩:=main { bH with bO:=[PeerM.fr 1 0 0 false m] } (PeerM.fr 1 0 0 false m) (m,true) fC (by rw[h.p];exact ab1) rfl rfl (fun t=>by cases t) (fun _=>rfl) (by rw[h.p,QU]) (.inl rfl) rfl
  exact⟨f,x,_,_,b1,b2,b7,b3,b4,b5,b6,.inr (.inl ⟨rfl,rfl,rfl⟩),fun _=>rfl,fun t=>by cases t⟩
 ·obtain⟨f,x,b1,b2,b7,b3,b4,b5,b6⟩:=main { bH with bO:=[PeerM.fr 3 0 0 false bb] } (PeerM.fr 3 0 0 false bb) fC (m,true) (by rw[h.p];exact ab2) rfl rfl (fun t=>by cases t) (fun _=>rfl) (by rw[h.p,QU]) (.inr rfl) rfl
  exact⟨f,x,_,_,b1,b2,b7,b3,b4,b5,b6,.inr (.inr ⟨rfl,rfl,rfl⟩),(fun t=>by cases t),fun _=>rfl⟩
def fE (n:NodeM)(k:Int):NodeM:={ n with j:={ n.j with fs:=HK n.j.fs k } }
theorem ab3 {Q:Int}{kb:List UInt8}{i t:Int}{n:NodeM}{m:aT}(hm:um m)(h:oL Q kb 0 i t fC (m,true) n)(hQ:4 * i+13<=Q){k:Int}(hk:k=0\/k=1):
  (fE n k).tick.2=([],11)/\Live (fE n k).tick.1/\(fE n k).tick.1.j.d=true/\(fE n k).tick.1.p=n.p/\(fE n k).tick.1.kb=n.kb/\(fE n k).tick.1.side=n.side/\(fE n k).tick.1.aZ=n.aZ/\(fE n k).tick.1.j.fs.cr=Q/\(fE n k).tick.1.j.fs.b.length<=n.j.fs.b.length+13:=by
 have hl:Live (fE n k):=h.live.iT k;have hd:(fE n k).j.d=false:=h.d;have e:(fE n k).tick=(fE n k).act n.p.tick:=by unfold NodeM.tick NodeM.dead;rw[if_neg (by rw[hd];simp)];rfl
 have hf:Fits (fE n k).p n.p.tick:=Im n.p;have ha:nK n.p.tick:=h.live.ok.tick;have ep:n.p.tick={ bH with cQ:=true,bN:=m,bO:=[PeerM.fr 1 0 0 false m] }:=by rw[h.p];exact QT hm
 have hb:(NodeM.eF n.p.tick).1.length=10:=by rw[ep];exact QV hm _
 have hP:n.p.tick.cQ=true:=by rw[ep]
 obtain⟨l1,l2,l3,l4⟩:=Pc hf;rw[hb] at l4;have lr:((fE n k).ag n.p.tick).2=11:=by
  rcases Iu hf with⟨_,e2,_⟩ | ⟨_,e2,e3,e4⟩
  ·rw[hP] at e2;cases e2
  ·rw[e4]
   refine Zy hd (hl.live hd).1 rfl ?_ (by omega) ?_
   ·show(if k > 0 then k else 0)=0\/(if k > 0 then k else 0)=1
    rcases hk with rfl | rfl
    ·exact .inl rfl
    ·exact .inr rfl
   ·rw[hb]
    have hl:=h.len;rw[if_neg (show ¬ fC.2=true by decide)] at hl;show((10:Nat):Int)+3<=n.j.fs.cr - n.j.fs.b.length;rw[h.cr];omega
 have ht:(fE n k).tick=(((fE n k).ag n.p.tick).1,[],11):=by
  rw[e];unfold NodeM.act;rw[if_pos (by rw[lr];decide),lr]
 rw[ht]
 rcases hl.ag hd hf ha with⟨c0,_⟩ | ⟨c0,c1,c2,c3,c4,c5,c6,c7,c8,c9⟩
 ·rw[lr] at c0;cases c0
 ·exact⟨rfl,c2,c3.1 lr,c1,c6,c7,c4,l2.trans h.cr,l4⟩
theorem ab4 {n:NodeM}(hd:n.j.d=true):n.tick=(n,[],11)/\(∀ b,n.take b=(n,[],11))/\∀ m,n.offer m=(n,11):=by
 refine⟨?_,fun b=>?_,fun m=>?_⟩
 ·unfold NodeM.tick NodeM.dead;rw[if_pos hd]
 ·unfold NodeM.take NodeM.dead;rw[if_pos hd]
 ·unfold NodeM.offer NodeM.dead;rw[if_pos hd]
theorem ab5 {Q:Int}{kb:List UInt8}{m:aT}{n:NodeM}(h:Live n)(hd:n.j.d=true)(hp:n.p=pS kb 0 fC (m,true))(hk:n.kb=kb)(hs:n.side=0)(hq:n.j.fs.cr=Q)(hb:(n.j.fs.b.length:Int)+4<=Q)(ag sp:Int):
  ∃ x,NodeM.open_ kb 0 (mM n.j.fs ag sp)=(x.j.fs,some x,0)/\Live x/\x.aZ=n.aZ+1/\x.j.d=false/\x.p.es=[]/\(x.p.aW=fC\/x.p.aW=(m,true)):=by
 obtain⟨R,hR,hE,ho,hl⟩:=Zn h ag sp;rw[hk,hs] at hR hE ho;have AM:(log kb 0 R).1.p.es=[]/\((log kb 0 R).1.p.aW=fC\/(log kb 0 R).1.p.aW=(m,true)):=by
  rcases hR with⟨_,hc⟩ | ⟨_,a,hf,hb,ha,hc⟩
  ·rw[hp] at hc
   exact⟨hc.es,.inl hc.aW⟩
  ·have hE:a.da=false:=by
    cases t:a.da with
    | false=>rfl
    | true=>
     rcases hf.src t with q | q
     ·rw[hp] at q;exact absurd rfl q
     ·rw[hp] at q;cases q.1
   have hP:a.cQ=true:=by rw[hE] at hb;simpa using hb
   have hn:=(hf.new hP).2;have hpn:a.bN=m:=by
    rcases hn with q | q
    ·rw[hp] at q;exact q.2
    ·rw[hp] at q;cases q.1
   have ec:dJ (n.p.bR a).1 { n.p with aW:=(m,true) }:=by
    unfold PeerM.bR;rw[if_neg (by rw[hE];simp)];have:=rp n.p a;rw[if_pos hP,hpn] at this;exact this
   have pe:=hc.trans ec;refine⟨pe.es.trans ?_,.inr pe.aW⟩;rw[hp];rfl
 rcases ho with⟨x,m1,m2,m3,m4,m5,m6,m7,m8,m9,m10,m11,m12⟩ | ⟨s',_,h4,gv,hq'⟩
 ·exact⟨x,m1,m2,m6,m10,by rw[m5];exact AM.1,by rw[m5];exact AM.2⟩
 ·rw[gv,hq',hq] at h4;omega
def yr:List UInt8:=List.replicate 16 0
def vX (ys:List UInt8):List UInt8:=ys.take 16++List.replicate (16 - ys.length) 0
theorem ab6 (ys:List UInt8):(vX ys).length=16:=by unfold vX;rw[List.length_append,List.length_take,List.length_replicate];omega
theorem ab7 {w:World}{g:Nat}{T:TypeId}{y:Sl}{ys:List UInt8}(hb:w.heap[g]? = some (.cells (cV yr).toArray T (0,0)))(hy:bd w y ys)(o:TypeId){K:Int->World->Prop}
  (k:∀ r w',w'.heap[g]? = some (.cells (cV (vX ys)).toArray T (0,0))->Fr (only g) w w'->K r w') :
  aA Tryz.prog (Builtin.copy_ #[22,22] o #[.slice (some ⟨g,0,none⟩) 16 16,.slice y.1 y.2.1 y.2.2]) w (.v (.one (.int .i64))) (fun(x:Int) w'=>K x w'):=by
 obtain⟨hu,⟨i,hi,hs,hz,qN⟩,hc,oT⟩:=mZ;have mv:∀ w,(sizeOf 5).run Tryz.prog w=.ok 1 w:=fun w=>by rw[ko hi,hs]
 have hlen:∀ w,(Builtin.lenOf (.slice y.1 y.2.1 y.2.2)).run Tryz.prog w=.ok y.2.1 w:=fun w=>rfl;have iH:=hy.len;obtain⟨n,hn⟩:∃ n,n=min ys.length 16:=⟨_,rfl⟩;have hm:Nat.min y.2.1 16=n:=by rw[iH,hn]
 have wF:bd w (y.1,n,y.2.2) (ys.take n):=by
  obtain⟨h1,h2,h3⟩:=hy;refine⟨by simp;omega,fun e=>?_,fun a ha=>?_⟩
  ·obtain⟨e1,e2,e3⟩:=h2 e
   have:ys=[]:=by simpa using e3
   subst this;exact⟨by simp[hn],e2,by simp⟩
  ·rw[List.map_take];exact wK _ 0 n (h3 a ha)
 have BN:(Builtin.firstCells 1 n (.slice y.1 y.2.1 y.2.2)).run Tryz.prog w=.ok ((ys.take n).map bc).toArray w:=by
  have:=du.first (P:=Tryz.prog) wF
  obtain⟨y1,y2,y3⟩:=y;cases y1<;>exact this
 obtain⟨hw,j2,a1,a2,a3,a4,a5,a6⟩:=EN ((ys.take n).map bc) w (cV yr).toArray 0 0 hb (by simp[cV,yr];omega) (KK _);have QY:=Nb ((ys.take n).map bc) w (cV yr).toArray j2 0 0 hb a1;have hcs:j2=(cV (vX ys)).toArray:=by
  apply Array.ext';apply List.ext_getElem?;intro j;rw[Array.getElem?_toList];show j2[j]? = (cV (vX ys))[j]?;simp only[List.length_map,List.length_take,Nat.zero_add] at QY a3;unfold cV vX;rw[List.map_append]
  by_cases hj:j<n
  ·have:=a3 j (by omega)
   rw[this,List.getElem?_append_left (by simp;omega)];rw[show ys.take n=ys.take 16 by rw[hn,List.take_eq_take_iff];omega]
  ·have q:=QY j (by omega)
   rw[q,List.getElem?_append_right (by simp;omega),List.getElem?_toArray];unfold cV yr;rw[List.map_replicate,List.map_replicate,List.getElem?_replicate,List.getElem?_replicate];simp only[List.length_map,List.length_take]
   by_cases D4:j<16
   ·rw[if_pos D4,if_pos (by omega)]
   ·rw[if_neg D4,if_neg (by omega)]
 refine⟨(n:Int),setCells w ⟨g,0,none⟩ 0 ((ys.take n).map bc),?_,k _ _ (by rw[<- hcs];exact a1) a5⟩;unfold Builtin.copy_;simp only[Sem.run_bind,under hu,Result.andThen_ok,mv,List.getElem?_toArray,List.getElem?_cons_zero,List.getElem?_cons_succ,Sem.run_pure,hlen,hm,BN];rw[show(storeCells ⟨g,0,none⟩ (((ys.take n).map bc).toArray).toList 0).run Tryz.prog w=.ok () _ from wi ((ys.take n).map bc) 0 w hw];rfl
theorem ab8 {g:Nat}{K:Option Addr->Nat->Nat->Prop}(k:K (some ⟨g,0,none⟩) 16 16):eX (some ⟨g,0,none⟩) 16 0 16 16 1 K:=by
 refine⟨by decide,by decide,by decide,by decide,?_⟩;have e:(if(16:Int)=0 then some (⟨g,0,none⟩:Addr) else(some (⟨g,0,none⟩:Addr)).map (·.add ((0:Int).toNat * 1)))=some ⟨g,0,none⟩:=by
  rw[if_neg (by decide),Option.map_some,dT];rfl
 rw[e];exact k
theorem ab9 (v of:Int)(hof:of<=9223372036854775807){wc:World}{K:Int->World->Prop}(k:K (within v of) wc):ab Tryz.prog 9 #[.int .i64 v,.int .i64 of] wc (.v (.one (.int .i64))) (fun(x:Int) w'=>K x w'):=by
 refine ab.of (U3 v of wc hof) ?_;rintro _ _ ⟨rfl,rfl⟩;exact⟨_,rfl,k⟩
theorem dS.new {N:Nat}{w0 w w':World}{F F':Nat->Prop}{b:Nat}{n n':NodeM}{fb fg dZ:Nat}(h0:gY N w F b n fb fg)(t:dS N w F b n' fb fg w' F' dZ)(f0:Fr none1 w0 w)(hN:w0.heap.size=N):Fr none1 w0 w':=
 f0.comp t.f fun k hk q=>by
  obtain⟨a,b⟩:=h0.lo
  rcases q with q | q
  ·have:=a k q;omega
  ·omega
def aca:List UInt8:=1::List.replicate 15 0
theorem acb (w:World)(ht:TabW w):Ret Tryz.prog 16 #[] w fun r w'=>r=.bool true/\Fr none1 w w':=by
 refine c16 w _ ?_;unfold C16;refine ab.of (NT 500 w) ?_;rintro _ w1 ⟨fb,rfl,Bg,f1,i1⟩;refine⟨some ⟨fb,0,none⟩,rfl,aa.f rfl ?_⟩;have hk:aca.length=16:=rfl;obtain⟨m,mo,ml,mw,mb⟩:=QW hk (side:=0) (.inl rfl) (q:=500) (by decide);have QZ:=(eG.of ht).af f1;refine ab.of (JO i1 rfl hk 0 QZ Bg) ?_;rw[mo];rintro _ w2 ⟨sR,mF,f2,(⟨b,n,F,hn,_,_,rfl,hR,hF⟩ | ⟨hn,_⟩)⟩
 rotate_left
 ·cases hn
 obtain rfl:m=n:=by injection hn
 have Q0:=QZ.ag f2 fun k t=>by have t:k=fb:=t;omega
 have nJ:Fr none1 w w2:=f1.comp f2 fun k hk t=>by have t:k=fb:=t;omega
 refine⟨(some ⟨b,0,none⟩,0,()),rfl,aa.f rfl (aa.f rfl ?_)⟩;have Ea:m.kb.length=16:=by rw[ml.kb];exact hk
 refine ab.of (Qu hR Ea) ?_;rintro _ _ ⟨rfl,rfl⟩;refine⟨_,rfl,aa.ne (fun t=>absurd ml.aZ t) (fun _=>?_)⟩;have sq:=QS (d:=1) (by decide) (by decide);obtain⟨o1,o2,o3,o4⟩:=ml.offer (.inl rfl) sq;refine ab.of (JE hR Ea ml.live.ok Q0 (kM 1) sq.small.2.2.2.2) ?_;rw[o1];rintro _ w3 ⟨rfl,F3,t3⟩;refine⟨_,rfl,aa.f rfl ?_⟩;have acd:=t3.lN hR Q0;have Nw:=t3.new hR nJ rfl;obtain⟨g,x,P',O',q1,_⟩:=o2.tick (by decide) (by decide) (by decide) sq (.inl ⟨rfl,rfl,rfl⟩);refine ab.of (JM t3.r (by rw[o2.kb];exact hk) o2.live.ok o2.live.Dt (by rw[o2.number];decide) acd) ?_;rw[q1];rintro _ w4 ⟨v,rfl,h4⟩;obtain⟨F4,Q1,S4,t4,r4,_⟩:=h4.out;refine⟨(v,0,()),rfl,aa.t rfl ?_⟩;have hv:=r4.len;rw[hv];exact⟨rfl,t4.new t3.r Nw rfl⟩
def C6 (p0:Option Addr)(aJ aP:Nat)(p1:Int)(p2:Int)(p3:Int)(w:World)(K:Value->World->Prop):Prop:=
 ak (.cells #[.int .u8 0,.int .u8 0,.int .u8 0,.int .u8 0,.int .u8 0,.int .u8 0,.int .u8 0,.int .u8 0,.int .u8 0,.int .u8 0,.int .u8 0,.int .u8 0,.int .u8 0,.int .u8 0,.int .u8 0,.int .u8 0] 24) w (fun g1 w2=>eX (some (ad g1)) 16 0 16 16 1 (fun a3 l4 c5=>aA Tryz.prog (Builtin.copy_ #[22,22] 3 #[.slice a3 l4 c5,.slice p0 aJ aP]) w2 (.v (.one (.int .i64))) (fun(x6:Int) w7=>ab Tryz.prog 8 #[.int .i64 2000] w7 (.v (.one .ptr)) (fun(x8:Option Addr) w9=>aa (Option.isNone x8)
 (K (.bool false) w9)
 (eK 16 (ad g1) w9 (fun aQ=>ab Tryz.prog 10 #[.pointer x8,.agg aQ.toArray,.int .i64 0] w9 (.aN [.one .ptr,.one (.int .i64)]) (fun(aX:Option Addr×Int×Unit) aL=>aa (aX.2.1 != 0)
 (K (.bool false) aL)
 (aa (Option.isNone aX.1)
 (K (.bool false) aL)
 (ab Tryz.prog 12 #[.pointer aX.1,.agg #[.int .i64 5,.string (⟨#[]⟩:ByteArray),.string (⟨#[]⟩:ByteArray),.string (⟨#[]⟩:ByteArray),.string (⟨#[]⟩:ByteArray),.int .i64 5,.int .i64 0,.nilIface]] aL (.v (.one (.int .i64))) (fun(bz:Int) bo=>aa (bz != 0)
 (K (.bool false) bo)
 (ab Tryz.prog 9 #[.int .i64 p1,.int .i64 2] bo (.v (.one (.int .i64))) (fun(bn:Int) bj=>ab Tryz.prog 30 #[.pointer x8,.int .i64 bn] bj (.aN []) (fun(ba:Unit) bt=>ab Tryz.prog 13 #[.pointer aX.1] bt (.aN [.one .aj,.one (.int .i64)]) (fun(br:an×Int×Unit) bh=>aa (br.2.1 != 11)
 (K (.bool false) bh)
 (aa ((br.1.2.1:Int) != 0)
 (K (.bool false) bh)
 (ab Tryz.prog 23 #[.pointer aX.1] bh (.v (.one .bool)) (fun(bY:Bool) bJ=>aa (!bY)
 (K (.bool false) bJ)
 (ab Tryz.prog 13 #[.pointer aX.1] bJ (.aN [.one .aj,.one (.int .i64)]) (fun(cv:an×Int×Unit) cg=>ab Tryz.prog 18 #[.pointer aX.1,.slice none 0 0] cg (.aN [.one .aj,.one (.int .i64)]) (fun(bD:an×Int×Unit) cn=>aa (cv.2.1 != 11)
 (K (.bool false) cn)
 (aa (bD.2.1 != 11)
 (K (.bool false) cn)
 (ab Tryz.prog 12 #[.pointer aX.1,.agg #[.int .i64 1,.string (⟨#[]⟩:ByteArray),.string (⟨#[]⟩:ByteArray),.string (⟨#[]⟩:ByteArray),.string (⟨#[]⟩:ByteArray),.int .i64 0,.int .i64 0,.nilIface]] cn (.v (.one (.int .i64))) (fun(cA:Int) bV=>aa (cA != 11)
 (K (.bool false) bV)
 (ab Tryz.prog 15 #[.pointer x8,.int .i64 p3,.int .u8 p2] bV (.aN []) (fun(cB:Unit) bS=>eK 16 (ad g1) bS (fun bZ=>ab Tryz.prog 10 #[.pointer x8,.agg bZ.toArray,.int .i64 0] bS (.aN [.one .ptr,.one (.int .i64)]) (fun(df:Option Addr×Int×Unit) dE=>aa (df.2.1 != 0)
 (K (.bool false) dE)
 (aa (Option.isNone df.1)
 (K (.bool false) dE)
 (ab Tryz.prog 11 #[.pointer df.1] dE (.v (.one (.int .i64))) (fun(dh:Int) dL=>aa (dh != 2)
 (K (.bool false) dL)
 (ab Tryz.prog 23 #[.pointer df.1] dL (.v (.one .bool)) (fun(eg:Bool) dz=>aa eg
 (K (.bool false) dz)
 (ab Tryz.prog 25 #[.pointer df.1] dz (.v (.one .ptr)) (fun(dF:Option Addr) dO=>aa (Option.isNone dF)
 (K (.bool false) dO)
 (ab Tryz.prog 25 #[.pointer df.1] dO (.v (.one .ptr)) (fun(iK:Option Addr) kA=>ab Tryz.prog 26 #[.pointer iK] kA (.v (.one .ptr)) (fun(iA:Option Addr) jQ=>ab Tryz.prog 27 #[.pointer iA] jQ (.v (.one (.int .i64))) (fun(iY:Int) gr=>aa (iY != 0)
 (K (.bool false) gr)
 (ab Tryz.prog 25 #[.pointer df.1] gr (.v (.one .ptr)) (fun(kx:Option Addr) gI=>ab Tryz.prog 29 #[.pointer kx] gI (.aN [.agg dK,.one .bool]) (fun(fS:bE×Bool×Unit) tu=>ak (.cells #[.int .i64 0,.string (⟨#[]⟩:ByteArray),.string (⟨#[]⟩:ByteArray),.string (⟨#[]⟩:ByteArray),.string (⟨#[]⟩:ByteArray),.int .i64 0,.int .i64 0,.nilIface] 36) tu (fun zp kB=>ar (ad zp) [.int .i64 fS.1.1,.string fS.1.2.1,.string fS.1.2.2.1,.string fS.1.2.2.2.1,.string fS.1.2.2.2.2.1,.int .i64 fS.1.2.2.2.2.2.1,.int .i64 fS.1.2.2.2.2.2.2.1,fS.1.2.2.2.2.2.2.2.1] kB (fun fh=>aa (!fS.2.1)
 (ab Tryz.prog 16 #[] fh (.v (.one .bool)) (fun(fY:Bool) gW=>K (.bool fY) gW))
 (ae (.int .i64) ((ad zp).add 0) fh (fun(qx:Int)=>aa (qx==5)
 (ae (.int .i64) ((ad zp).add 5) fh (fun(j8:Int)=>aa (j8==5)
 (ab Tryz.prog 16 #[] fh (.v (.one .bool)) (fun(nj:Bool) qQ=>K (.bool nj) qQ))
 (K (.bool false) fh)))
 (K (.bool false) fh))))))))))))))))))))))))))))))))))))))))))))))
def pl6:aB:=.auto
theorem c6 (p0:Option Addr)(aJ aP:Nat)(p1:Int)(p2:Int)(p3:Int)(w:World)(K:Value->World->Prop)(h:C6 p0 aJ aP p1 p2 p3 w K):Ret Tryz.prog 6 #[.slice p0 aJ aP,.int .i64 p1,.int .u8 p2,.int .i64 p3] w K:=aC (by kernel_rfl) Tryz.func6 (p:=pl6) (Eq.mpr (by kernel_rfl) h)
set_option maxHeartbeats 4000000 in
theorem ndead_walk (a0:Option Addr)(Bk JW:Nat)(z0:List Int)(p1 p2 p3:Int)(w:World)(h0:IsInts .u8 w a0 Bk JW z0)(h1:(Go.Lit.int .i64 p1).wf=true)(h2:(Go.Lit.int .u8 p2).wf=true)(h3:(Go.Lit.int .i64 p3).wf=true)(ht:TabW w):
  Ret Tryz.prog 6 #[.slice a0 Bk JW,.int .i64 p1,.int .u8 p2,.int .i64 p3] w fun r w'=>r=.bool true/\Fr none1 w w':=by
 refine c6 a0 Bk JW p1 p2 p3 w _ ?_;unfold C6;obtain⟨hr,wJ⟩:=R9 h0;refine ak.of fun g1 w1 dp au f1 kq=>?_;have au:w1.heap[g1]? = some (.cells (cV yr).toArray 24 (0,0)):=au;refine ab8 ?_;refine ab7 au (hr.af f1) _ fun r1 w2 aI f2=>?_;have hk:=ab6 ((z0.take Bk).map toByte);generalize vX ((z0.take Bk).map toByte)=kb at *;have F2:Fr none1 w w2:=f1.fresh f2 (by omega);refine ab.of (NT 2000 w2) ?_;rintro _ w3 ⟨fb,rfl,Bg,f3,i3⟩;have F3:=F2.trans f3;have uj:=bL aI;have z2:=F2.size;have Q2:w.heap.size<=fb:=by omega
 have uo:g1≠fb:=by omega
 refine⟨some ⟨fb,0,none⟩,rfl,aa.f rfl ?_⟩;have b3:=f3.af aI;refine eK.of b3 (by rw[kK,hk]) ?_;obtain⟨m,mo,ml,mw,mb⟩:=QW hk (side:=0) (.inl rfl) (q:=2000) (by decide);have ml:oL 2000 kb 0 1 0 fC fC m:=ml;have tN3:eG w.heap.size w3:=(eG.of ht).af F3;refine ab.of (JO i3 rfl hk 0 tN3 Q2) ?_;rw[mo];rintro _ w4 ⟨Q1,V5,f4,(⟨b,n,F,hn,_,_,rfl,hR,hF⟩ | ⟨hn,_⟩)⟩
 rotate_left
 ·cases hn
 obtain rfl:m=n:=by injection hn
 have F4:Fr none1 w w4:=F3.comp f4 fun k hk t=>by have t:k=fb:=t;omega
 have tN4:eG w.heap.size w4:=(eG.of ht).af F4;have b4:=f4.ag b3 uo;have Ea:m.kb.length=16:=by rw[ml.kb];exact hk
 have D2:¬ F g1:=fun t=>by have:=(hF g1 t).1;have:=bL b3;omega
 refine⟨(some ⟨b,0,none⟩,0,()),rfl,aa.f rfl (aa.f rfl ?_)⟩;have sq:=QS (d:=5) (by decide) (by decide);obtain⟨o1,o2,o3,o4⟩:=ml.offer (.inl rfl) sq;refine ab.of (JE hR Ea ml.live.ok tN4 (kM 5) sq.small.2.2.2.2) ?_;rw[o1];rintro _ w5 ⟨rfl,F5,t5⟩;refine⟨_,rfl,aa.f rfl ?_⟩;have Fr5:=t5.new hR F4 rfl;have b5:=t5.f.ag b4 (fun t=>t.elim D2 uo);have Bl:∀ {wa wb:World} {Fa Fb:Nat->Prop} {na nb:NodeM} {ga gb:Nat},dS w.heap.size wa Fa b nb fb ga wb Fb gb->¬ Fa g1->g1<wa.heap.size->¬ Fb g1:=fun t h hl q=>by
  rcases t.sub g1 q with q | q
  ·exact h q
  ·have:=q.1;omega
 have Q3:=Bl (na:=m) t5 D2 (bL b4);generalize Ld:(m.offer (kM 5)).1=n2 at *;have fG:n2.kb.length=16:=by rw[o2.kb];exact hk
 refine ab9 p1 2 (by decide) ?_;have hu0:=U1 p1 2;have OI:=U2 p1 (n:=2) (by decide);generalize within p1 2=U at *;have hU:U=0\/U=1:=by omega
 refine ab.of (Xa t5.r.file U) ?_;rintro _ w6 ⟨rfl,t6⟩;obtain⟨F6,fg6,t6⟩:=t5.r.xN t6;have t6:dS w.heap.size w5 F5 b (fE n2 U) fb Q1 w6 F6 fg6:=t6;have Q4:=t6.new t5.r Fr5 rfl;have b6:=t6.f.ag b5 (fun t=>t.elim Q3 uo);have Q5:=Bl (na:=m) t6 Q3 (bL b5);have tN6:eG w.heap.size w6:=(eG.of ht).af Q4;have lf:Live (fE n2 U):=o2.live.iT U;refine⟨(),rfl,?_⟩;obtain⟨d1,d2,d3,d4,d5,d6,d7,d8,d9⟩:=ab3 (Q:=2000) sq o2 (by decide) hU;refine ab.of (JM t6.r fG o2.live.ok lf.Dt (by show 0<=n2.number/\n2.number<=_;rw[o2.number];decide) tN6) ?_;rw[d1];rintro _ w7 ⟨y,rfl,hy⟩;obtain⟨F7,fg7,S7,t7,r7,_⟩:=hy.out;have iH:=r7.len;have Q6:=t7.new t6.r Q4 rfl;have b7:=t7.f.ag b6 (fun t=>t.elim Q5 uo);have Q7:=Bl (na:=m) t7 Q5 (bL b6);have tN7:eG w.heap.size w7:=(eG.of ht).af Q6;refine⟨(y,11,()),rfl,aa.f rfl (aa.f (by rw[iH];rfl) ?_)⟩;have rr:(fE n2 U).aZ=1:=o2.aZ;have ou:(fE n2 U).side=0:=o2.side;have kX:0<=(fE n2 U).tick.1.number/\(fE n2 U).tick.1.number<=1000000000:=by
  have e:(fE n2 U).tick=((fE n2 U).tick.1,[],11):=Prod.ext rfl d1;have e0:(fE n2 U).tick=(fE n2 U).act n2.p.tick:=by unfold NodeM.tick NodeM.dead;rw[if_neg (by show ¬ n2.j.d=true;rw[o2.d];simp)];rfl
  have hn:=o2.number;have jv:((fE n2 U).ag n2.p.tick).2≠0\/((fE n2 U).ag n2.p.tick).2=0:=by omega
  obtain⟨q1,q2,q3,q4,q5,q6⟩:=Ds (n:=fE n2 U) n2.p.tick
  rcases jv with h | h
  ·have:(fE n2 U).act n2.p.tick=(((fE n2 U).ag n2.p.tick).1,[],((fE n2 U).ag n2.p.tick).2):=by unfold NodeM.act;rw[if_pos h]
   rw[e0,this];dsimp only;rw[q5];show 0<=n2.number/\n2.number<=1000000000;rw[hn];decide
  ·exfalso
   have hft:Fits (fE n2 U).p n2.p.tick:=Im n2.p;have es:=Pb lf hft o2.live.ok.tick h (Pa o2.live.ok o2.live.aW) (by show iC n2.aZ=true;rw[o2.aZ];decide) (by show iC n2.number=true;rw[hn];decide);have:=congrArg (fun z=>z.2.2) es;dsimp only at this;rw[<- e0,d1] at this;cases this
 generalize(fE n2 U).tick.1=n3 at *;have vW:n3.kb.length=16:=by rw[d5];exact fG
 obtain⟨s1,s2,s3⟩:=ab4 d3;refine ab.of (Be t7.r vW) ?_;rintro _ _ ⟨rfl,rfl⟩;refine⟨_,rfl,aa.f (by unfold NodeM.dead;rw[d3];rfl) ?_⟩;refine ab.of (JM t7.r vW d2.ok d2.Dt kX tN7) ?_;rw[s1];rintro _ w8 ⟨y8,rfl,hy8⟩;obtain⟨F8,fg8,S8,t8,r8,_⟩:=hy8.out;have Q8:=t8.new t7.r Q6 rfl;have b8:=t8.f.ag b7 (fun t=>t.elim Q7 uo);have Q9:=Bl (na:=m) t8 Q7 (bL b7);have tN8:eG w.heap.size w8:=(eG.of ht).af Q8;refine⟨(y8,11,()),rfl,?_⟩;have X:=abN (u:=(none,0,0)) (bs:=[]) t8.r vW d2.ok d2.Dt kX tN8 (Nc w8) (Nat.le_refl _) (by decide);refine ab.of X ?_;rw[s2];rintro _ w9 ⟨y9,rfl,hy9⟩;obtain⟨F9,fg9,S9,t9,r9,_⟩:=hy9.out;have Ra:=t9.new t8.r Q8 rfl;have b9:=t9.f.ag b8 (fun t=>t.elim Q9 uo);have g9F:=Bl (na:=m) t9 Q9 (bL b8);have tN9:eG w.heap.size w9:=(eG.of ht).af Ra;refine⟨(y9,11,()),rfl,aa.f rfl (aa.f rfl ?_)⟩;refine ab.of (JE t9.r vW d2.ok tN9 vD OF.2.2.2.2) ?_;rw[s3];rintro _ aG ⟨rfl,JU,t10⟩;have ace:=t10.new t9.r Ra rfl;have qo:=t10.f.ag b9 (fun t=>t.elim g9F uo);refine⟨_,rfl,aa.f rfl ?_⟩;refine ab.of (Xb t10.r.file p3 p2) ?_;rintro _ aO ⟨rfl,f11,g11,acX,i11⟩;refine⟨(),rfl,?_⟩;have Rb:Fr none1 w aO:=ace.comp f11 fun k hk t=>by have t:k=fb:=t;omega
 have acf:eG w.heap.size aO:=(eG.of ht).af Rb;have Ax:n3.p=pS kb 0 fC (kM 5,true):=by rw[d4,o2.p]
 have hlen:=o2.len;rw[if_neg (show ¬ fC.2=true by decide)] at hlen;obtain⟨x,x1,x2,x3,x4,x5,x6⟩:=ab5 (Q:=2000) (kb:=kb) d2 d3 Ax (by rw[d5,o2.kb]) (by rw[d6,o2.side]) d8 (by omega) p3 p2;refine eK.of (f11.ag qo uo) (by rw[kK,hk]) ?_;refine ab.of (JO i11 rfl hk 0 acf Q2) ?_;rw[x1];rintro _ aL ⟨acY,Z1,f12,(⟨b',n',F12,hn,_,_,rfl,Bm,acZ⟩ | ⟨hn,_⟩)⟩
 rotate_left
 ·cases hn
 obtain rfl:x=n':=by injection hn
 have acg:Fr none1 w aL:=Rb.comp f12 fun k hk t=>by have t:k=fb:=t;omega
 have Bn:x.kb.length=16:=by rw[<- x2.kb];exact x2.ok.kb
 refine⟨(some ⟨b',0,none⟩,0,()),rfl,aa.f rfl (aa.f rfl ?_)⟩;refine ab.of (Qu Bm Bn) ?_;rintro _ _ ⟨rfl,rfl⟩;refine⟨_,rfl,aa.ne (fun t=>absurd (by rw[x3,d7];show n2.aZ+1=2;rw[o2.aZ];rfl) t) (fun _=>?_)⟩;refine ab.of (Be Bm Bn) ?_;rintro _ _ ⟨rfl,rfl⟩;refine⟨_,rfl,aa.f (by unfold NodeM.dead;exact x4) ?_⟩;refine ab.of (JN Bm Bn x2.ok) ?_;rintro _ aY ⟨e,rfl,he,f13⟩;refine⟨some ⟨e,0,none⟩,rfl,aa.f rfl ?_⟩;refine ab.of (JN (Bm.af f13) Bn x2.ok) ?_;rintro _ bo ⟨e,rfl,he,f14⟩;refine⟨some ⟨e,0,none⟩,rfl,?_⟩;refine ab.of (Qs he x2.ok) ?_;rintro _ bM ⟨c,rfl,hc,f15⟩;refine⟨some ⟨c,0,none⟩,rfl,?_⟩;refine ab.of (pD x2.ok.kb hc) ?_;rintro _ _ ⟨rfl,rfl⟩;refine⟨_,rfl,aa.f (by rw[x5];rfl) ?_⟩;have Rc:=(f13.trans f14).trans f15;refine ab.of (JN (Bm.af Rc) Bn x2.ok) ?_;rintro _ bj ⟨e,rfl,he,f16⟩;refine⟨some ⟨e,0,none⟩,rfl,?_⟩;refine ab.of (abU he x2.ok.kb) ?_;rintro _ cj ⟨rfl,f17⟩;refine⟨(x.p.aW.1.e,x.p.aW.2,()),rfl,?_⟩;refine ak.of fun ga bt hga DU f18 sa=>ar.aE (vs:=gV x.p.aW.1.e) DU rfl (Ba _) fun bu vt f19 CI=>?_;have ach:Fr none1 bj bu:=(f17.trans f18).fresh f19 (by have:=f17.size;omega);have Rd:=(acg.trans Rc).trans (f16.trans ach);have wk:∀ wa,Fr none1 w wa->ab Tryz.prog 16 #[] wa (.v (.one .bool)) (fun(x:Bool) w'=>(Value.bool x)=.bool true/\Fr none1 w w'):=by
  intro wa fa;refine ab.of (acb wa (ht.af fa)) ?_;rintro _ w5 ⟨rfl,f5⟩;exact⟨_,rfl,rfl,fa.trans f5⟩
 rcases x6 with x6 | x6
 ·refine aa.t (by show(!x.p.aW.2)=true;rw[x6];rfl) (wk bu Rd)
 ·refine aa.f (by show(!x.p.aW.2)=false;rw[x6];rfl) ?_
  refine ae.ah vt (x:=(5:Int)) (by rw[x6];rfl) (aa.t rfl ?_);refine ae.ah vt (x:=(5:Int)) (by rw[x6];rfl) (aa.t rfl (wk bu Rd))
end Go.Proofs.YtmkehncgjnhhcaaGreatDoor
