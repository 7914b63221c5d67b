/-
  Texts of this claim, put together.
  Conditions: those of each theorem.
-/
import Derived.Test.YtfolkckcakndkaaGreatDoorQDS0
import Derived.Test.YtfolkckcakndkaaGreatDoorQDS2
import Derived.Test.YtfolkckcakndkaaGreatDoorQDS3
import Derived.KernelRfl
import Derived.Test.YtfolkckcakndkaaGreatDoorProg
set_option linter.unusedVariables false
namespace Go.Proofs.YtfolkckcakndkaaGreatDoor
open Vc
set_option maxRecDepth 100000
set_option maxHeartbeats 2000000
variable {w w':ah}{b g N fb fg c g1 j:Nat}{F S A:bz}{p q:PeerM}{kb bs x:ai}{l:fE}{E:Int}{a:cE}{T:TypeId}
def j8 (s:cL)(d:Bool)(x:ai):cL×Bool×Int×Bool:=
 if d||s.dead then(s,true,11,false) else if(x.length:Int) > 4000 then(s,false,5,false) else
 if(gN s (eL x)).2≠0 then((gN s (eL x)).1,(gN s (eL x)).2==11,(gN s (eL x)).2,false) else
 if(j7 (gN s (eL x)).1).2≠0 then((j7 (gN s (eL x)).1).1,(j7 (gN s (eL x)).1).2==11,(j7 (gN s (eL x)).1).2,false) else
 ((j7 (gN s (eL x)).1).1,false,0,true)
def ade (i j l:Nat)(W0 W1:ah)(Q:ah->Prop):(Nat->Bool)->ah->Prop:=λ D w=>
 (D i=false->w=W0)/\(D i=true->D j=false->w=W1)/\(D j=true->D i=true/\D l=true/\Q w)
def adf (W0 W1 W2 W3:ah)(Q:ah->Prop):(Nat->Bool)->ah->Prop:=λ D w=>
 (D 6=false->w=W0)/\(D 6=true->D 7=false->w=W1)/\(D 7=true->D 6=true)/\(D 7=true->D 8=false->w=W2)/\(D 8=true->D 7=true/\D 4=true)/\(D 8=true->D 11=false->w=W3)/\(D 11=true->D 8=true/\Q w)
theorem kO.flag {p:Nat}{s:cL}{d:Bool}{rs:List (ai)}(h:kO w S p b g s d rs)(e:Bool){K:ah->Prop}(k:∀ w1,Fr (only p) w w1->kO w1 S p b g s e rs->K w1):aK ((⟨p,0,none⟩:Addr).add 2) (.bool e) w K:=by
 obtain⟨a,⟨jl,b1,b2⟩,c,o⟩:=h;refine aK.aw b1 bm rfl λ w1 aE f1 _=>k w1 f1 ?_;exact⟨a.ao f1 (λ t=>c.1 (Eq.symm t)) (λ t=>c.2 (Eq.symm t)),⟨jl,aE,b2.ao f1 (λ k hk t=>(o k hk).1 t)⟩,c,o⟩
theorem Uk {p:Nat}{s:cL}{d:Bool}{rs:List (ai)}{v:Sl}{x:ai}(h:kO w S p b g s d rs)(hv:bO w v x)(NC:∀ k,aH v k->k<w.heap.size/\k≠p/\k≠b/\¬ S k)(hl:rs.length<=1000000):
  au 72 #[aZ p,.slice v.1 v.2.1 v.2.2] w λ r w'=>r=aa (j8 s d x).2.2.1/\NB w S p b g (j8 s d x).1 (j8 s d x).2.1 (if(j8 s d x).2.2.2 then rs++[x] else rs) w':=by
 have dD:=hv.len;have CU:∀ w w',Fr (only p) w w'->Fr (yD S p b) w w':=λ w w' f=>f.mono λ k _ t=>.inl t;have bin:∀ w w',Fr (only b) w w'->Fr (yD S p b) w w':=λ w w' f=>f.mono λ k _ t=>.inr (.inl t);refine c72 _ v.1 v.2.1 v.2.2 w _ ?_;unfold C72;refine dc.of (λ _ w1=>Fr (only p) w w1/\kO w1 S p b g s (d||s.dead) rs) ?_ ?_
 ·have h0:=h
  obtain⟨hf,⟨jl,hp,_⟩,_⟩:=h0;refine af.aw hp rfl ?_;refine ae.by (λ hd=>?_) (λ hd=>?_)
  ·refine h.flag true λ w1 f1 h1=>⟨f1,?_⟩
   rw[hd];exact h1
  ·refine af.aw hp (x:=some ⟨b,0,none⟩) rfl ?_
   refine an.of (T1 hf) ?_;rintro _ _ ⟨rfl,rfl⟩;refine⟨_,rfl,?_⟩;refine h.flag s.dead λ w1 f1 h1=>⟨f1,?_⟩;rw[hd,lv];exact h1
 rintro _ _ w1 ⟨f1,h1⟩;have oL:=h1;obtain⟨Ch,⟨jl,IX,hj1⟩,aL,ND⟩:=h1;have air:=oL.Fy;have ais:=oL.slt;have yg:bO w1 v x:=hv.ao f1 (λ k hk t=>(NC k hk).2.1 t);have ait:=f1.size;refine af.aw IX rfl ?_;unfold j8;refine ae.by (λ hd=>?_) (λ hd=>?_)
 ·rw[if_pos hd]
  rw[hd] at oL;exact⟨rfl,CU _ _ f1,S,g,λ k hk=>.inl hk,.inr (.inl rfl),oL⟩
 rw[if_neg (by rw[hd];simp)];rw[hd] at oL;refine ae.dec (λ hq=>?_) (λ hq=>?_)
 ·rw[if_pos (by rw[<- dD];exact hq)]
  exact⟨rfl,CU _ _ f1,S,g,λ k hk=>.inl hk,.inr (.inl rfl),oL⟩
 rw[if_neg (by rw[<- dD];exact hq)];have nU:x.length<=4000:=ab
 -- pack, and append
 have r0:=BM w1;generalize NF:({ w1 with drawn:=w1.drawn+1 }:ah)=W0 at r0
 obtain⟨u,W1,fM,hu,q1,yE⟩:=ac8 (yg.ag r0) nU;have Ul:=(oL.ag r0).ag q1;have Um:=r0.ag IX;have adg:=q1.ag Um;have e1:w1.heap.size<=W0.heap.size:=r0.size;have e2:W0.heap.size<=W1.heap.size:=q1.size;refine⟨⟨ade 5 6 3 W0 W1 (mB W1 b g (gN s (eL x)).1),⟨λ _=>NF,(λ t=>by cases t),(λ t=>by cases t)⟩,?_⟩⟩;refine⟨some ⟨b,0,none⟩,λ D w5 hD _ hC=>?_,?_⟩
 ·obtain⟨k1,k2,k3⟩:=hC
  have h6:D 6=false:=by
   cases hd6:D 6 with
   | false=>rfl
   | true=>have:=(k3 hd6).2.1;rw[hD] at this;cases this
  have Fz:∃ jl:Sl,w5.heap[p]? = some (.cells #[aZ b,.slice jl.1 jl.2.1 jl.2.2,.bool (d||s.dead)] 220 (0,0)):=by
   cases h5:D 5 with
   | false=>rw[k1 h5];exact⟨jl,Um⟩
   | true=>rw[k2 h5 h6];exact⟨jl,adg⟩
  obtain⟨_,Fz⟩:=Fz;refine af.aw Fz (x:=some ⟨b,0,none⟩) rfl ⟨rfl,λ t=>?_,λ t t'=>?_,λ t=>?_⟩
  ·rw[ia _ ar] at t;exact k1 t
  ·rw[ia _ ar] at t t';exact k2 t t'
  ·rw[ia _ ar] at t;rw[h6] at t;cases t
 refine⟨u,λ D w5 hD _ hC=>?_,?_⟩
 ·obtain⟨k1,k2,k3⟩:=hC
  obtain rfl:=k1 hD;refine an.of fM ?_;rintro _ _ ⟨rfl,rfl⟩;refine⟨u,rfl,rfl,λ t=>?_,λ _ _=>rfl,λ t=>?_⟩
  ·rw[yA] at t;cases t
  ·rw[ia _ ar] at t;have:=(k3 t).1;rw[hD] at this;cases this
 refine⟨(gN s (eL x)).2,λ D w5 hD hp hC=>?_,?_⟩
 ·obtain⟨k1,k2,k3⟩:=hC
  have h5:=hp 5 bm;have h3:=hp 3 bm;obtain rfl:=k2 h5 hD;refine an.of (acK Ul.file hu.rd (λ t=>by have:=yE b t;have:=oL.file.lt;omega)) ?_;rintro _ w6 ⟨rfl,f6⟩;refine⟨_,rfl,rfl,λ t=>?_,λ _ t=>?_,λ _=>⟨?_,?_,f6⟩⟩
  ·rw[ia _ ar,h5] at t;cases t
  ·rw[yA] at t;cases t
  ·rw[ia _ ar,h5]
  ·rw[ia _ ar,h3]
 intro w2 hC;obtain⟨_,_,t2⟩:=hC.2.2 rfl;have Un:Fr (yD S p b) w W1:=((CU _ _ f1).et r0).et q1;have f12:=t2.1;have zr:bO w2 v x:=((yg.ag r0).ag q1).ao f12 (λ k hk t=>(NC k hk).2.2.1 t);obtain⟨g2,qI,h2⟩:=Ul.uk t2;have NG:Fr (yD S p b) w w2:=Un.trans (bin _ _ f12);have Uo:g2=b\/g2=g\/w.heap.size<=g2:=qI.imp id (Or.imp id (ez Un.size));clear hC t2;generalize(gN s (eL x))=A at *;obtain⟨s1,ea⟩:=A;dsimp only at *;refine ae.eq (λ he=>?_) (λ he=>?_)
 ·subst he
  rw[if_neg bm];have h20:=h2;obtain⟨nP,⟨jl2,IY,mC⟩,NH,aiu⟩:=h2;refine af.aw IY (x:=some ⟨b,0,none⟩) rfl ?_;refine an.of (acM nP) ?_;rintro _ w3 ⟨rfl,t3⟩;refine⟨_,rfl,?_⟩;have f23:=t3.1;have uW:bO w3 v x:=zr.ao f23 (λ k hk t=>(NC k hk).2.2.1 t);obtain⟨g3,pV,h3⟩:=h20.uk t3;have NI:Fr (yD S p b) w w3:=NG.trans (bin _ _ f23);have Up:g3=b\/g3=g\/w.heap.size<=g3:=by
   rcases pV with t | t | t
   ·exact .inl t
   ·rw[t];exact Uo
   ·exact .inr (.inr (ez NG.size t))
  clear t3;generalize(j7 s1)=B at *;obtain⟨s2,eb⟩:=B;dsimp only at *;refine ae.ne (λ hb=>?_) (λ hb=>?_)
  ·rw[if_pos hb]
   refine h3.flag (eb==11) λ w4 f4 h4=>⟨rfl,NI.trans (CU _ _ f4),S,g3,λ k hk=>.inl hk,Up,h4⟩
  ·subst hb
   rw[if_neg bm];have AN:=h3;obtain⟨pZ,⟨CV,CW,te⟩,NJ,IZ⟩:=h3;have s0:=BM w3;generalize hV0:({ w3 with drawn:=w3.drawn+1 }:ah)=V0 at s0
   obtain⟨c,V1,rJ,AM,m1,CX⟩:=Uh (uW.ag s0) ab;have adh:=(te.ag s0).ag m1;have hsz0:w3.heap.size<=V0.heap.size:=s0.size;have adi:=te.lt;obtain⟨y,V2,z,V3,hy,m2,hz,m3,S',pd,hjr⟩:=adh.snoc AM.rd AM.cap (λ k hk=>⟨aV.lt AM hk,λ t=>by have:=adi k t;have:=CX k hk;omega⟩) hl;have Uq:=s0.ag CW;have NK:=m1.ag Uq;have adj:=m2.ag NK;have NL:¬ aH CV p:=λ t=>(IZ p (te.own p t)).1 rfl;have adk:=m3.ao NK NL;have fV3:Fr (yD S p b) w3 V3:=((s0.trans m1).mono λ _ _ t=>t.elim).trans (m3.mono λ k _ t=>.inr (.inr (te.own k t)));have adl:js V3 b g3 s2:=((pZ.ag s0).ag m1).ao m3 (λ t=>(IZ b (te.own b t)).2.1 rfl) (λ t=>(IZ g3 (te.own g3 t)).2.2 rfl);have aiv:=AN.Fy;have aiw:=pZ.lt;have aix:=pZ.ug;have Q4:=m1.size;have FA:∀ k,S' k->S k\/w3.heap.size<=k:=λ k hk=>by
    rcases pd k hk with t | t | t
    ·exact .inl t
    ·have:=CX k t;exact .inr ab
    ·exact .inr ab
   have Ur:∀ k,S' k->k≠p/\k≠b/\k≠g3:=λ k hk=>by
    rcases FA k hk with t | t
    ·exact IZ k t
    ·omega
   refine⟨⟨adf V0 V1 V2 V3 (λ w9=>Fr (only p) V3 w9/\w9.heap[p]? = some (.cells #[aZ b,.slice z.1 z.2.1 z.2.2,.bool false] 220 (0,0))),⟨λ _=>hV0,(λ t=>by cases t),(λ t=>by cases t),(λ t=>by cases t),(λ t=>by cases t),(λ t=>by cases t),(λ t=>by cases t)⟩,?_⟩⟩;refine⟨CV,λ D w5 hD _ hC=>?_,?_⟩
   ·obtain⟨k1,k2,k3,k4,k5,k6,k7⟩:=hC
    have h8:D 8=false:=by
     cases hd:D 8 with
     | false=>rfl
     | true=>have:=(k5 hd).2;rw[hD] at this;cases this
    have rS:D 11=false:=by
     cases hd:D 11 with
     | false=>rfl
     | true=>have:=(k7 hd).1;rw[h8] at this;cases this
    have Fz:w5.heap[p]? = some (.cells #[aZ b,.slice CV.1 CV.2.1 CV.2.2,.bool (d||s.dead)] 220 (0,0)):=by
     rw[hd];cases h6:D 6 with
     | false=>rw[k1 h6];exact Uq
     | true=>
      cases h7:D 7 with
      | false=>rw[k2 h6 h7];exact NK
      | true=>rw[k4 h7 h8];exact adj
    refine af.aw Fz (x:=CV) rfl ⟨rfl,λ t=>?_,λ t t'=>?_,λ t=>?_,λ t t'=>?_,λ t=>?_,λ t=>?_,λ t=>?_⟩
    ·rw[ia _ ar] at t;exact k1 t
    ·rw[ia _ ar] at t t';exact k2 t t'
    ·rw[ia _ ar] at t ⊢;exact k3 t
    ·rw[ia _ ar] at t t';exact k4 t t'
    ·rw[ia _ ar] at t;rw[h8] at t;cases t
    ·rw[ia _ ar] at t;rw[h8] at t;cases t
    ·rw[ia _ ar] at t;rw[rS] at t;cases t
   refine⟨c,λ D w5 hD _ hC=>?_,?_⟩
   ·obtain⟨k1,k2,k3,k4,k5,k6,k7⟩:=hC
    have h7:D 7=false:=by
     cases hd:D 7 with
     | false=>rfl
     | true=>have:=k3 hd;rw[hD] at this;cases this
    have h8:D 8=false:=by
     cases hd:D 8 with
     | false=>rfl
     | true=>have:=(k5 hd).1;rw[h7] at this;cases this
    have rS:D 11=false:=by
     cases hd:D 11 with
     | false=>rfl
     | true=>have:=(k7 hd).1;rw[h8] at this;cases this
    obtain rfl:=k1 hD;refine an.of rJ ?_;rintro _ _ ⟨rfl,rfl⟩;refine⟨c,rfl,rfl,λ t=>?_,λ _ _=>rfl,λ _=>yA _ _,λ t=>?_,λ t=>?_,λ t=>?_,λ t=>?_⟩
    ·rw[yA] at t;cases t
    ·rw[ia _ ar] at t;rw[h7] at t;cases t
    ·rw[ia _ ar] at t;rw[h8] at t;cases t
    ·rw[ia _ ar] at t;rw[h8] at t;cases t
    ·rw[ia _ ar] at t;rw[rS] at t;cases t
   refine⟨y,λ D w5 hD hp hC=>?_,?_⟩
   ·obtain⟨k1,k2,k3,k4,k5,k6,k7⟩:=hC
    have h6:=hp 6 bm;have h8:D 8=false:=by
     cases hd:D 8 with
     | false=>rfl
     | true=>have:=(k5 hd).1;rw[hD] at this;cases this
    have rS:D 11=false:=by
     cases hd:D 11 with
     | false=>rfl
     | true=>have:=(k7 hd).1;rw[h8] at this;cases this
    obtain rfl:=k2 h6 hD;refine⟨y,V2,hy,rfl,λ t=>?_,λ _ t=>?_,λ _=>?_,λ _ _=>rfl,λ t=>?_,λ t=>?_,λ t=>?_⟩
    ·rw[ia _ ar,h6] at t;cases t
    ·rw[yA] at t;cases t
    ·rw[ia _ ar,h6]
    ·rw[ia _ ar] at t;rw[h8] at t;cases t
    ·rw[ia _ ar] at t;rw[h8] at t;cases t
    ·rw[ia _ ar] at t;rw[rS] at t;cases t
   refine⟨z,λ D w5 hD hp hC=>?_,?_⟩
   ·obtain⟨k1,k2,k3,k4,k5,k6,k7⟩:=hC
    have h4:=hp 4 bm;have h6:=hp 6 bm;have h7:=hp 7 bm;have rS:D 11=false:=by
     cases hd:D 11 with
     | false=>rfl
     | true=>have:=(k7 hd).1;rw[hD] at this;cases this
    obtain rfl:=k4 h7 hD;refine⟨z,V3,hz,rfl,λ t=>?_,λ _ t=>?_,λ _=>?_,λ _ t=>?_,λ _=>⟨?_,?_⟩,λ _ _=>rfl,λ t=>?_⟩
    ·rw[ia _ ar,h6] at t;cases t
    ·rw[ia _ ar,h7] at t;cases t
    ·rw[ia _ ar,h6]
    ·rw[yA] at t;cases t
    ·rw[ia _ ar,h7]
    ·rw[ia _ ar,h4]
    ·rw[ia _ ar] at t;rw[rS] at t;cases t
   refine⟨(),λ D w5 hD hp hC=>?_,?_⟩
   ·obtain⟨k1,k2,k3,k4,k5,k6,k7⟩:=hC
    have h4:=hp 4 bm;have h6:=hp 6 bm;have h7:=hp 7 bm;have h8:=hp 8 bm;obtain rfl:=k6 h8 hD;refine aK.aw adk bm rfl λ w9 NM f9 _=>⟨rfl,λ t=>?_,λ _ t=>?_,λ _=>?_,λ _ t=>?_,λ _=>⟨?_,?_⟩,λ _ t=>?_,λ _=>⟨?_,f9,?_⟩⟩
    ·rw[ia _ ar,h6] at t;cases t
    ·rw[ia _ ar,h7] at t;cases t
    ·rw[ia _ ar,h6]
    ·rw[ia _ ar,h8] at t;cases t
    ·rw[ia _ ar,h7]
    ·rw[ia _ ar,h4]
    ·rw[yA] at t;cases t
    ·rw[ia _ ar,h8]
    ·exact NM
   intro w9 hC;obtain⟨_,f9,NM⟩:=hC.2.2.2.2.2.2 rfl;refine⟨rfl,(NI.trans fV3).trans (CU _ _ f9),S',g3,λ k hk=>(FA k hk).imp id (ez NI.size),Up,adl.ao f9 (λ t=>NJ.1 (Eq.symm t)) (λ t=>NJ.2 (Eq.symm t)),⟨z,NM,hjr.ao f9 (λ k hk t=>(Ur k hk).1 t)⟩,NJ,Ur⟩
 ·refine ae.ne (λ hb=>?_) (λ hb=>absurd hb he)
  rw[if_pos hb];exact h2.flag (ea==11) λ w4 f4 h4=>⟨rfl,NG.trans (CU _ _ f4),S,g2,λ k hk=>.inl hk,Uo,h4⟩
theorem adm {s:cL}(hl:s.lit=false)(hd:s.dead=false)(hx:x.length<=4000)(h:(x.length:Int)+3<=s.cK - s.b.length):
  (j8 s false x).2.2.1=0/\(j8 s false x).2.2.2=true/\(j8 s false x).2.1=false/\(j8 s false x).1.b=s.b++eL x/\(j8 s false x).1.cK=s.cK/\(j8 s false x).1.synced=(s.b++eL x).length/\(j8 s false x).1.lit=false/\(j8 s false x).1.dead=false:=by
 obtain⟨a1,a2,a3,a4,a5,a6⟩:=ac2 (s:=s) (x:=eL x) hl hd (by rw[wZ];omega);obtain⟨b1,b2,b3,b4,b5,b6⟩:=ac4 a5 a6;unfold j8;rw[hd,if_neg bm,if_neg ab,if_neg (by rw[a1];simp),if_neg (by rw[b1];simp)];exact⟨rfl,rfl,rfl,b2.trans a2,b3.trans a3,by rw[b4,a2],b5,b6⟩
theorem adn {s:cL}(hd:s.dead=false)(hx:x.length<=4000)(h:(x.length:Int)+3 > s.cK - s.b.length):j8 s false x=(s,false,10,false):=by
 unfold j8;rw[ac3 (s:=s) (x:=eL x) hd (by rw[wZ];omega),hd,if_neg bm,if_neg ab,if_pos bm];rfl
theorem Us {z:Int}(h0:0<=z)(h1:z<=255):((toByte z).toNat:Int)=z:=by
 have:=Ny h0 h1;unfold bc at this;injection this with _ h
 omega
theorem bO.cellAt {v:Sl}(h:bO w v bs){i:Int}(h0:0<=i)(h1:i<v.2.1):∃ a,v.1=some a/\∀ w',Fr none1 w w'->w'.cell? (a.add (i.toNat * 1))=some (.int .u8 ((bs.getD i.toNat 0).toNat:Int)):=by
 have hl:=h.len;obtain⟨q1,q2,q3⟩:=h;cases hv:v.1 with
 | none=>have:=(q2 hv).1;omega
 | some a=>
  refine⟨a,rfl,λ w' f=>f.cell0 ?_⟩;have:=BK (bs.map bc) 0 i.toNat (bc (bs.getD i.toNat 0)) (q3 a hv) (by
   rw[ig,cV ab,dB,cV ab];rfl)
  rw[eP] at this;rw[jg];exact this
def rT (bs:ai):Nat:=256 * (bs.getD 0 0).toNat+(bs.getD 1 0).toNat
def qT (bs:ai):Option (ai×ai):=
 if bs.length<2 then none else if 4000<rT bs then none else if bs.length<rT bs+3 then none else
 if bs.getD (2+rT bs) 0≠ui 150 (bs.take (2+rT bs)) then none else some ((bs.drop 2).take (rT bs),bs.drop (rT bs+3))
theorem ado (a b:UInt8):((BitVec.ofInt 64 ((a.toNat:Int) * 256) ||| BitVec.ofInt 64 (b.toNat:Int)).toNat:Int)=256 * (a.toNat:Int)+(b.toNat:Int):=by
 have ha:=UInt8.toNat_lt a;have hb:=UInt8.toNat_lt b;have e1:(BitVec.ofInt 64 ((a.toNat:Int) * 256)).toNat=2 ^ 8 * a.toNat:=by
  rw[show(a.toNat:Int) * 256=((2 ^ 8 * a.toNat:Nat):Int) by omega,BitVec.ofInt_natCast,BitVec.toNat_ofNat,oA ab]
 have e2:(BitVec.ofInt 64 (b.toNat:Int)).toNat=b.toNat:=by
  rw[BitVec.ofInt_natCast,BitVec.toNat_ofNat,oA ab]
 rw[BitVec.toNat_or,e1,e2,<- Nat.two_pow_add_eq_or_of_lt ab];omega
def Ut (w:ah)(v:Sl)(bs:ai)(r:av)(w':ah):Prop:=
 Fr none1 w w'/\match qT bs with
 | none=>r=.tuple #[.slice none 0 0,.slice v.1 v.2.1 v.2.2,.bool false]
 | some (x,t)=>∃ u q:Sl,r=.tuple #[.slice u.1 u.2.1 u.2.2,.slice q.1 q.2.1 q.2.2,.bool true]/\cT w' u x/\(∀ k,aH u k->w.heap.size<=k)/\bO w' q t/\q.2.1<=q.2.2/\∀ k,aH q k->aH v k
theorem adp {w:World}{v:Sl}{bs:List UInt8}(h:bO w v bs)(hc:v.2.1<=v.2.2)(hl:bs.length<=1000000):Ret Tryz.prog 96 #[.slice v.1 v.2.1 v.2.2] w (Ut w v bs):=by
 have dD:=h.len;refine c96 v.1 v.2.1 v.2.2 w _ ?_;unfold C96 Ut qT;refine ae.dec (λ h2=>?_) (λ h2=>?_)
 ·rw[if_pos ab];exact⟨Fr.refl _ _,rfl⟩
 rw[if_neg ab];obtain⟨a0,ha0,adq⟩:=h.cellAt (i:=0) ab ab;obtain⟨a1,ha1,adr⟩:=h.cellAt (i:=1) ab ab;have b0:=UInt8.toNat_lt (bs.getD 0 0);have b1:=UInt8.toNat_lt (bs.getD 1 0);refine su.qO ?_;refine⟨a0,ha0,by omega,by omega,?_⟩;refine iZ.qO ((bs.getD 0 0).toNat:Int) (λ w7 f7=>af.cell (adq w7 f7) ⟨rfl,f7⟩) ?_;refine iZ.qO (IntKind.i64.wrap ((bs.getD 0 0).toNat:Int)) (λ w7 f7=>⟨rfl,f7⟩) ?_;refine⟨by omega,a1,ha1,by omega,by omega,?_⟩;refine iZ.qO ((bs.getD 1 0).toNat:Int) (λ w7 f7=>af.cell (adr w7 f7) ⟨rfl,f7⟩) ?_;refine iZ.qO (IntKind.i64.wrap ((bs.getD 1 0).toNat:Int)) (λ w7 f7=>⟨rfl,f7⟩) ?_;intro w1 f1;have f1:Fr none1 w w1:=f1;have esz:IntKind.i64.wrap ((BitVec.ofInt 64 (IntKind.i64.wrap (IntKind.i64.wrap ((bs.getD 0 0).toNat:Int) * 2 ^ (min (Int.toNat 8) 64))) ||| BitVec.ofInt 64 (IntKind.i64.wrap ((bs.getD 1 0).toNat:Int))).toNat:Int)=(rT bs:Int):=by
  rw[wI (x:=((bs.getD 0 0).toNat:Int)) ab ab,wI (x:=((bs.getD 1 0).toNat:Int)) ab ab,show(2:Int) ^ (min (Int.toNat 8) 64)=256 from rfl,wI (x:=((bs.getD 0 0).toNat:Int) * 256) ab ab,ado];unfold rT;rw[wI ab ab];omega
 have aiy:rT bs<=65535:=by unfold rT;omega
 rw[esz];generalize rT bs=n at *;rw[wI (x:=2+(n:Int)) ab ab,wI (x:=2+(n:Int)+1) ab ab];refine su.qO ?_;refine ae.dec (λ h3=>?_) (λ h3=>?_)
 ·rw[if_pos ab]
  refine⟨λ D w2 f2=>f2,⟨λ D w2 f2=>f2,λ w2 f2=>?_⟩⟩;have f2:Fr none1 w1 w2:=f2;exact⟨f1.trans f2,rfl⟩
 rw[if_neg ab];refine ae.dec (λ h4=>?_) (λ h4=>?_)
 ·rw[if_pos ab]
  refine⟨λ D w2 f2=>f2,⟨λ D w2 f2=>f2,λ w2 f2=>?_⟩⟩;have f2:Fr none1 w1 w2:=f2;exact⟨f1.trans f2,rfl⟩
 rw[if_neg ab];have r1:=h.ag f1;obtain⟨a2,ha2,Uu⟩:=r1.cellAt (i:=2+(n:Int)) ab ab;rw[show(2+(n:Int)).toNat=2+n by omega] at Uu;refine⟨a2,ha2,by omega,by omega,?_⟩;rw[show(2+(n:Int)).toNat=2+n by omega];refine iZ.qO ((bs.getD (2+n) 0).toNat:Int) (λ w7 f7=>af.cell (Uu w7 f7) ⟨rfl,f7⟩) ?_;refine bO.sub r1 (n:=2+(n:Int)) ab ab hc λ hs=>?_;rw[show(2+(n:Int)).toNat=2+n by omega] at hs;refine iZ.qO ((ui 150 (bs.take (2+n))).toNat:Int) (λ w7 f7=>?_) ?_
 ·have UU:=Ui (w:=w7) (v:=(v.1,(2+(n:Int)).toNat,v.2.2)) (bs:=bs.take (2+n))
  refine an.of (UU ?_ (by simp only[ga];omega)) ?_
  ·rw[show(2+(n:Int)).toNat=2+n by omega];exact hs.ag f7
  rintro _ _ ⟨rfl,rfl⟩;exact⟨_,rfl,rfl,f7⟩
 intro w2 f2;have f2:Fr none1 w1 w2:=f2;refine ae.ne (λ aL=>?_) (λ heq=>?_)
 ·rw[if_pos (λ t=>aL (by rw[t]))]
  exact⟨f1.trans f2,rfl⟩
 rw[if_neg (by rw[Decidable.not_not];exact UInt8.toNat_inj.1 ab)];have qU:=f1.trans f2;have r0:=BM w2;generalize NF:({ w2 with drawn:=w2.drawn+1 }:World)=W0 at r0
 have Uv:=(h.ag qU).ag r0;have ads:((bs.drop (2:Int).toNat).take (2+(n:Int) - 2).toNat)=(bs.drop 2).take n:=by rw[show(2+(n:Int) - 2).toNat=n by omega];rfl
 -- the record in new memory
 obtain⟨my,adt,adu⟩:∃ my:Sl,bO W0 my ((bs.drop 2).take n)/\∀ K:Option Addr->Nat->Nat->Prop,K my.1 my.2.1 my.2.2->gQ v.1 v.2.2 2 (2+(n:Int)) v.2.2 1 K:=by
  have:=bO.my Uv (lo:=2) (hi:=2+(n:Int)) (K:=λ a l c=>∃ u:Sl,u=(a,l,c)/\bO W0 u ((bs.drop 2).take n)) ab ab ab hc (λ u hu _ _ _=>⟨u,rfl,by rw[ads] at hu;exact hu⟩);obtain⟨q1,q2,q3,q4,u,hu,hr⟩:=this.out;exact⟨u,hr,λ K hK=>⟨q1,q2,q3,q4,by rw[hu] at hK;exact hK⟩⟩
 obtain⟨u,W1,fM,hu,q1,yE⟩:=Uh adt (by simp only[ga,kD];omega);refine⟨⟨λ D w9=>(D 4=false->w9=W0)/\(D 4=true->w9=W1),⟨λ _=>NF,(λ t=>by cases t)⟩,?_⟩⟩;refine adu _ ?_;refine⟨u,λ D w9 hD _ hC=>?_,?_⟩
 ·obtain rfl:=hC.1 hD
  refine an.of fM ?_;rintro _ _ ⟨rfl,rfl⟩;exact⟨u,rfl,rfl,(λ t=>by rw[yA] at t;cases t),λ _=>rfl⟩
 refine bO.my ((Uv.ag q1)) (lo:=2+(n:Int)+1) (hi:=v.2.1) ab ab (kC _) hc λ q hq I0 _ um=>?_;intro w9 hC;obtain rfl:=hC.2 rfl;have e4:((bs.drop (2+(n:Int)+1).toNat).take ((v.2.1:Int) - (2+(n:Int)+1)).toNat)=bs.drop (n+3):=by
  rw[show(2+(n:Int)+1).toNat=n+3 by omega,gV (by simp only[kD];omega)]
 rw[e4] at hq;refine⟨(qU.trans r0).trans q1,u,q,rfl,hu,λ k hk=>?_,hq,I0,um⟩;exact ez (qU.trans r0).size (yE k hk)
theorem NN {t:ai}(h:qT bs=some (x,t)):t.length+3<=bs.length/\x.length+t.length+3=bs.length/\x.length<=4000:=by
 unfold qT at h;split at h
 ·cases h
 split at h
 ·cases h
 split at h
 ·cases h
 split at h
 ·cases h
 injection h with h
 injection h with h1 h2
 subst h1;subst h2;simp only[ga,kD];omega
inductive tf:ai->List (ai)->ai->Prop where
 | stop {bs:ai}:qT bs=none->tf bs [] bs
 | next {bs x t q:ai} {l:List (ai)}:qT bs=some (x,t)->tf t l q->tf bs (x::l) q
theorem tf.len {q:ai}{l:List (ai)}(h:tf bs l q):q.length+3 * l.length<=bs.length/\∀ r∈l,r.length<=4000:=by
 induction h with
 | stop _=>simp
 | next h _ ih=>
  have:=NN h;simp only[cY,tI];refine⟨by omega,λ r hr=>?_⟩
  rcases hr with rfl | hr
  ·exact this.2.2
  ·exact ih.2 r hr
theorem kv.row {v:Sl}{rs:List (ai)}(h:kv w S v rs){i:Int}(h0:0<=i)(h1:i<v.2.1){K:Sl->Prop}(k:∀ u:Sl,bO w u (rs.getD i.toNat [])->K u):cz v.1 v.2.1 i 1 λ p=>af .bE p w K:=by
 have hl:=h.len;obtain⟨⟨us,a1,a2,a3,a4⟩,o,l⟩:=h;have hi:i.toNat<us.length:=ab;exact aV.ld a1 h0 h1 (x:=us.getD i.toNat yC) (by rw[ig,dB,cV hi];rfl) (k _ (a3 i.toNat hi))
theorem kv.Uw {v:Sl}{rs:List (ai)}(h:kv w S v rs){i:Int}(h0:0<=i)(h1:i<v.2.1){K:Sl->Prop}(k:∀ u:Sl,bO w u (rs.getD i.toNat [])->u.2.1<=u.2.2->(∀ k,aH u k->S k)->K u):cz v.1 v.2.1 i 1 λ p=>af .bE p w K:=by
 have hl:=h.len;obtain⟨⟨us,a1,a2,a3,a4⟩,o,l⟩:=h;have hi:i.toNat<us.length:=ab;have hm:us.getD i.toNat yC∈us:=by rw[dB,cV hi];exact nQ hi
 exact aV.ld a1 h0 h1 (x:=us.getD i.toNat yC) (by rw[ig,dB,cV hi];rfl) (k _ (a3 i.toNat hi) (a4 _ hm).2 λ k hk=>((a4 _ hm).1 k hk).1)
def hd (n:Nat):ai:=[toByte ((n:Int) / 256),toByte ((n:Int) % 256)]
theorem adv {n:Nat}(h:n<=4000)(t:ai):rT (hd n++t)=n:=by
 have e1:=Us (z:=(n:Int) / 256) ab ab;have e2:=Us (z:=(n:Int) % 256) ab ab;show 256 * (toByte ((n:Int) / 256)).toNat+(toByte ((n:Int) % 256)).toNat=n;omega
theorem adw {n:Nat}(hn:n<=4000){m t:ai}(hm:m.length=n)(e:UInt8):qT (hd n++m++[e]++t)=if e=ui 150 (hd n++m) then some (m,t) else none:=by
 have hs:rT (hd n++m++[e]++t)=n:=by
  rw[gI,gI];exact adv hn _
 have hlen:(hd n++m).length=2+n:=by rw[bU,hm];rfl
 unfold qT;have aiz:(hd n++m++[e]++t).length=2+n+1+t.length:=by rw[bU,bU,hlen];rfl
 rw[hs,if_neg ab,if_neg ab,if_neg ab];have e1:(hd n++m++[e]++t).getD (2+n) 0=e:=by
  rw[dB,gI,qw ab,hlen,Nat.sub_self];rfl
 have e2:(hd n++m++[e]++t).take (2+n)=hd n++m:=by
  rw[gI,<- hlen,List.take_left]
 have e3:((hd n++m++[e]++t).drop 2).take n=m:=by
  show((m++[e]++t)).take n=m;rw[gI,<- hm,List.take_left]
 have e4:(hd n++m++[e]++t).drop (n+3)=t:=by
  rw[show n+3=(hd n++m++[e]).length by simp[hd,hm],List.drop_left]
 rw[e1,e2,e3,e4]
 by_cases h:e=ui 150 (hd n++m)
 ·rw[if_neg (by simpa using h),if_pos h]
 ·rw[if_pos h,if_neg h]
theorem adx (x:ai):eL x=hd x.length++x++[ui 150 (hd x.length++x)]:=rfl
theorem Ux (t:ai)(h:x.length<=4000):qT (eL x++t)=some (x,t):=by
 rw[adx,adw h rfl,if_pos rfl]
def kP:List (ai)->ai
 | []=>[]
 | x::l=>eL x++kP l
theorem ady (a b:List (ai)):kP (a++b)=kP a++kP b:=by
 induction a with
 | nil=>rfl
 | cons x l ih=>show eL x++kP (l++b)=(eL x++kP l)++kP b;rw[ih,gI]
theorem I1 (a:List (ai))(x:ai):kP (a++[x])=kP a++eL x:=by
 rw[ady];show kP a++(eL x++[])=_;rw[dV]
def adz (w:ah)(b g:Nat)(s:cL)(rows:List (ai))(rest:ai)(r:av)(w':ah):Prop:=
 (∃ (p:Nat) (S:bz) (g':Nat) (s':cL),r=.tuple #[aZ p,aa 0]/\w.heap.size<=p/\Fr (only b) w w'/\(∀ k,S k->w.heap.size<=k)/\(g'=b\/g'=g\/w.heap.size<=g')/\kO w' S p b g' s' false rows /\
  (rest=[]/\s'=s\/rest≠[]/\(oJ s ((s.b.length - rest.length:Nat):Int)).2=0/\s'=(oJ s ((s.b.length - rest.length:Nat):Int)).1)) \/
 (rest≠[]/\(oJ s ((s.b.length - rest.length:Nat):Int)).2≠0/\r=.tuple #[.pointer none,aa (oJ s ((s.b.length - rest.length:Nat):Int)).2]/\mB w b g (oJ s ((s.b.length - rest.length:Nat):Int)).1 w')
theorem adA {s:cL}{rows:List (ai)}{rest:ai}(h:js w b g s)(hd:s.dead=false)(hP:tf s.b rows rest):
  au 67 #[aZ b] w (adz w b g s rows rest):=by
 have pF:=h.lt;have o9:=h.ug;have jW:=h.ok.len;refine c67 _ w _ ?_;refine an.of (T1 h) ?_;rintro _ _ ⟨rfl,rfl⟩;rw[hd];refine⟨_,rfl,ae.f rfl ?_⟩;refine aC.of λ p w1 hp IX f1 ng=>?_;have h1:=h.ag f1;refine an.of (acI h1) ?_;rintro _ w2 ⟨u,rfl,hu,f2,yE⟩;refine⟨u,rfl,?_⟩;have dP:=hu.len;have qU:=f1.trans f2;have acL:=f2.size;have Uy:∀ k,aH u k->k<w2.heap.size:=λ k hk=>aV.lt hu hk;have F0:Fr (only p) w2 w2:=Fr.refl _ _;refine cp.of (λ q w'=>∃ (jl:Sl) (S:bz) (rs:List (ai)) (bs:ai),bO w' q.1 bs/\q.1.2.1<=q.1.2.2/\(∀ k,aH q.1 k->aH u k)/\(∃ l,rows=rs++l/\tf bs l rest)/\bs.length+3 * rs.length<=s.b.length /\
   w'.heap[p]? = some (.cells #[aZ b,.slice jl.1 jl.2.1 jl.2.2,.bool false] 220 (0,0))/\kv w' S jl rs/\(∀ k,S k->w2.heap.size<=k)/\Fr (only p) w2 w') (λ q _=>q.1.2.1)
  ⟨(none,0,0),λ _=>False,[],s.b,hu.rd,hu.cap,λ k hk=>hk,⟨rows,rfl,hP⟩,by simp,f2.ag IX,Fw _ _ (λ k t=>t.elim),λ k t=>t.elim,F0⟩ ?_
 rintro _ ⟨q,_⟩ w3 ⟨jl,S,rs,bs,hq,I0,um,⟨l,vn,I2⟩,hlen,CW,te,hS,f3⟩;dsimp only at hq I0 um ⊢;have CY:=hq.len;refine an.of (adp hq I0 ab) ?_;rintro r w4 ⟨f4,hr⟩;have CZ:=f4.ag CW;have Uz:=te.ag f4;have f24:Fr (only p) w2 w4:=f3.et f4;have s24:=f24.size;cases I2 with
 | stop hn=>
  rw[hn] at hr;dsimp only at hr;subst hr;refine⟨((none,0,0),(q.1,q.2.1,q.2.2),false,()),rfl,ae.t rfl ?_⟩;rw[dV] at vn;subst vn;have h4:js w4 b g s:=(h.ag qU).ao f24 (λ t=>by have:b=p:=t;omega) (λ t=>by have:g=p:=t;omega);have j4:kO w4 S p b g s false rows:=⟨h4,⟨jl,CZ,Uz⟩,by omega,λ k hk=>by have:=hS k hk;omega⟩;refine ae.dec (λ sE=>?_) (λ hz=>?_)
  ·have IN:((u.2.1:Int) - (q.2.1:Int))=((s.b.length - rest.length:Nat):Int):=ab
   rw[wI (x:=(u.2.1:Int) - (q.2.1:Int)) ab ab,IN];have ET:rest≠[]:=λ e=>by rw[e,kX] at CY;omega
   refine an.of (acN h4 _) ?_;rintro _ w5 ⟨rfl,t5⟩;have f5:=t5.1;have Eu:=qU.fresh f24 ab;obtain⟨g',qV,j5⟩:=j4.uk t5;have FB:g'=b\/g'=g\/w.heap.size<=g':=by
    have:=Eu.size
    rcases qV with t | t | t
    ·exact .inl t
    ·exact .inr (.inl t)
    ·exact .inr (.inr ab)
   refine⟨_,rfl,ae.ne (λ he=>?_) (λ he=>?_)⟩
   ·refine .inr ⟨ET,he,rfl,(Eu.mono λ _ _ t=>t.elim).trans f5,g',FB,j5.file⟩
   ·exact .inl ⟨p,S,g',_,rfl,by omega,(Eu.mono λ _ _ t=>t.elim).trans f5,λ k hk=>ez qU.size (hS k hk),FB,j5,.inr ⟨ET,he,rfl⟩⟩
  ·have hr0:rest=[]:=tH ab
   exact .inl ⟨p,S,g,s,rfl,by omega,(qU.fresh f24 ab).mono λ _ _ t=>t.elim,λ k hk=>ez qU.size (hS k hk),.inr (.inl rfl),j4,.inl ⟨hr0,rfl⟩⟩
 | next hf hPt=>
  rename_i x t l';rw[hf] at hr;obtain⟨y,q2,hr,hy,UA,sD,adB,I3⟩:=hr;subst hr;have bI:=NN hf;refine⟨((y.1,y.2.1,y.2.2),(q2.1,q2.2.1,q2.2.2),true,()),rfl,ae.f rfl ?_⟩;refine af.aw CZ (x:=jl) rfl ?_;have I4:=f4.size;have s23:=f3.size;have IW:=te.lt;obtain⟨m,w5,z,w6,r1,f5,r2,f6,S',pd,hz⟩:=Uz.snoc hy.rd hy.cap (λ k hk=>⟨aV.lt hy hk,λ t=>by have:=IW k t;have:=UA k hk;omega⟩) ab;refine⟨m,w5,r1,z,w6,r2,?_⟩;have NL:¬ aH jl p:=λ t=>by have:=hS p (te.own p t);omega
  have hp6:=f6.ao CZ NL;refine aK.aw hp6 bm rfl λ w7 hp7 f7 _=>?_;have FA:∀ k,S' k->w2.heap.size<=k:=λ k hk=>by
   rcases pd k hk with t | t | t
   ·exact hS k t
   ·have:=UA k t;omega
   ·omega
  have f46:∀ k,aH q2 k->¬ aH jl k:=λ k hk t=>by have:=Uy k (um k (I3 k hk));have:=hS k (te.own k t);omega
  have hq7:bO w7 q2 t:=(sD.ao f6 f46).ao f7 (λ k hk t=>by have:=Uy k (um k (I3 k hk));have:=yE k (um k (I3 k hk));have:k=p:=t;omega);refine⟨⟨z,S',rs++[x],t,hq7,adB,λ k hk=>um k (I3 k hk),⟨l',by rw[vn];simp,hPt⟩,by simp only[bU,fZ];omega,hp7,hz.ao f7 (λ k hk t=>by have:=FA k hk;have:k=p:=t;omega),FA,?_⟩,?_⟩
  ·exact(f24.comp f6 (λ x hx t=>by have:=hS x (te.own x t);omega)).trans f7
  ·have:=sD.len
   dsimp only;omega
theorem adC:∀ (n:Nat) (bs:ai),bs.length<=n->∃ rows rest,tf bs rows rest:=by
 intro n
 induction n with
 | zero=>
  intro bs h;refine⟨[],bs,.stop ?_⟩;unfold qT;rw[if_pos ab]
 | succ n ih=>
  intro bs h;cases hf:qT bs with
  | none=>exact⟨[],bs,.stop hf⟩
  | some xt=>
   obtain⟨x,t⟩:=xt;have:=NN hf;obtain⟨rows,rest,hp⟩:=ih t ab;exact⟨x::rows,rest,.next hf hp⟩
set_option maxRecDepth 100000
def C0:Nat->ai->List (ai)×ai
 | 0,bs=>([],bs)
 | n+1,bs=>match qT bs with
  | none=>([],bs)
  | some (x,t)=>(x::(C0 n t).1,(C0 n t).2)
def AO (bs:ai):List (ai)×ai:=C0 bs.length bs
def oh (s:cL):cL×List (ai)×Int:=
 if s.dead=true then(s,[],11) else if(AO s.b).2=[] then(s,(AO s.b).1,0) else
 ((oJ s ((s.b.length - (AO s.b).2.length:Nat):Int)).1,if(oJ s ((s.b.length - (AO s.b).2.length:Nat):Int)).2≠0 then[] else(AO s.b).1,(oJ s ((s.b.length - (AO s.b).2.length:Nat):Int)).2)
structure lI where
 fs:cL
 d:Bool
 rs:List (ai)
def lI.put (j:lI)(x:ai):lI×Int:=
 (⟨(j8 j.fs j.d x).1,(j8 j.fs j.d x).2.1,if(j8 j.fs j.d x).2.2.2=true then j.rs++[x] else j.rs⟩,(j8 j.fs j.d x).2.2.1)
structure lY where
 e:Int
 h:Int
 s:Int->Bool
def C3:lY:=⟨-1,-1,λ _=>false⟩
def lY.acc (w:lY)(ep n:Int):Bool:=lj w.e w.h w.s ep n
def lY.accept (w:lY)(ep n:Int):lY:=⟨vj w.e ep (w.acc ep n),qS w.e w.h ep n (w.acc ep n),vk w.e ep n w.s (w.acc ep n)⟩
structure NodeM where
 kb:ai
 side:Int
 j:lI
 p:PeerM
 w:lY
 aY:Int
 number:Int
namespace NodeM
def record (n:NodeM)(b:ai):NodeM×Bool:=
 match b with
 | []=>(n,false)
 | c::r=>
  if c=1 then({ n with aY:=n.aY+1 },r.isEmpty)
  else if c=2 then
   (if(kM false r).2≠0 then(n,false) else({ n with p:=(n.p.bx { bq with cP:=true,bB:=(kM false r).1 }).1 },(n.p.bx { bq with cP:=true,bB:=(kM false r).1 }).2==0))
  else if c=3 then
   (if(iN false r).2≠0 then(n,false) else if n.p.len % 2≠n.side then(n,false) else({ n with p:=(n.p.bx { bq with dz:=true,cI:=(iN false r).1 }).1 },true))
  else(n,false)
def records (n:NodeM):List (ai)->NodeM×Bool
 | []=>(n,true)
 | b::l=>if(n.record b).2=true then records (n.record b).1 l else((n.record b).1,false)
def fresh (kb:ai)(side:Int)(fs:cL)(rs:List (ai)):NodeM:=⟨kb,side,⟨fs,false,rs⟩,j6 kb side,C3,0,0⟩
def open_ (kb:ai)(side:Int)(s:cL):cL×Option NodeM×Int:=
 if side≠0/\side≠1 then(s,none,1) else if(oh s).2.2≠0 then((oh s).1,none,(oh s).2.2) else
 if((fresh kb side (oh s).1 (oh s).2.1).records (oh s).2.1).2=false then((oh s).1,none,12) else
 let n:=((fresh kb side (oh s).1 (oh s).2.1).records (oh s).2.1).1
 if(n.j.put [1]).2≠0 then((n.j.put [1]).1.fs,none,(n.j.put [1]).2) else((n.j.put [1]).1.fs,some { n with j:=(n.j.put [1]).1,aY:=n.aY+1 },0)
def dead (n:NodeM):Bool:=n.j.d
def offer (n:NodeM)(m:bu):NodeM×Int:=if n.dead=true then(n,11) else({ n with p:=(n.p.offer m).1 },(n.p.offer m).2)
def refuse (n:NodeM)(kinds:Int):NodeM:={ n with p:={ n.p with refused:=kinds } }
def fp (a:cE):ai×Int:=if a.cP=true then(2::(iz a.bB).1,(iz a.bB).2) else(3::(dZ a.cI).1,(dZ a.cI).2)
def ao (n:NodeM)(a:cE):NodeM×Int:=
 if a.cP=false/\a.dz=false then(n,0) else if(fp a).2≠0 then(n,(fp a).2) else({ n with j:=(n.j.put (fp a).1).1 },(n.j.put (fp a).1).2)
def lJ (kb:ai)(side aY:Int):List bS->Int->List (ai)×Int×Int
 | [],n=>([],n,0)
 | f::l,n=>
  if(jN kb (side,aY,n,f.2.2.2)).2≠0 then([],n,(jN kb (side,aY,n,f.2.2.2)).2) else
  if(lJ kb side aY l (n+1)).2.2≠0 then([],(lJ kb side aY l (n+1)).2.1,(lJ kb side aY l (n+1)).2.2) else
  ((jN kb (side,aY,n,f.2.2.2)).1::(lJ kb side aY l (n+1)).1,(lJ kb side aY l (n+1)).2.1,0)
def act (n:NodeM)(a:cE):NodeM×List (ai)×Int:=
 if(n.ao a).2≠0 then((n.ao a).1,[],(n.ao a).2) else
 if((n.ao a).1.p.bx a).2≠0 then((n.ao a).1,[],((n.ao a).1.p.bx a).2) else
 ({ (n.ao a).1 with p:=((n.ao a).1.p.bx a).1,number:=(lJ n.kb n.side n.aY a.bg n.number).2.1 },(lJ n.kb n.side n.aY a.bg n.number).1,(lJ n.kb n.side n.aY a.bg n.number).2.2)
def tick (n:NodeM):NodeM×List (ai)×Int:=if n.dead=true then(n,[],11) else n.act n.p.tick
def take (n:NodeM)(b:ai):NodeM×List (ai)×Int:=
 if n.dead=true then(n,[],11) else if(cM n.kb b).2≠0 then(n,[],(cM n.kb b).2) else if(cM n.kb b).1.1=n.side then(n,[],8) else
 if n.w.acc (cM n.kb b).1.2.1 (cM n.kb b).1.2.2.1=false then(n,[],4) else
 ({ n with w:=n.w.accept (cM n.kb b).1.2.1 (cM n.kb b).1.2.2.1 }:NodeM).act (n.p.take (cM n.kb b).1)
end NodeM
theorem vo (n:Int):dI n=true↔-1000000000000<=n/\n<=1000000000000:=by unfold dI;rw[dp,decide_eq_true_eq,decide_eq_true_eq]
theorem UB {a b:Int}(h:(nZ a b).2=true):dI a=true/\dI b=true/\dI (a * b)=true/\(nZ a b).1=a * b:=by
 unfold nZ at *;split at h
 ·rename_i hc
  rw[dp,dp] at hc;rw[if_pos (by rw[hc.1.1,hc.1.2,hc.2];rfl)];exact⟨hc.1.1,hc.1.2,hc.2,rfl⟩
 ·cases h
theorem UC {n:Int}(h:dI n=true):dI (-n)=true:=by rw[vo] at *;omega
structure FC (w:eH):Prop where
 fx:∀ x∈w.fx,dI x.2=true
 fxl:w.fx.length<=32
 ch:∀ x∈w.ch,(x.2.1=0\/x.2.1=1)/\0<=x.2.2/\x.2.2<=10000
theorem UD {κ ν:Type}[DecidableEq κ]{k:κ}{v:ν}:∀ {l:List (κ×ν)},cg k l=some v->(k,v)∈l
 | [],h=>by simp[cg] at h
 | (a,u)::l,h=>by
  unfold cg at h;split at h
  ·rename_i e;subst e;injection h with h;subst h;simp
  ·exact BY _ (UD h)
theorem I5 {κ ν:Type}[DecidableEq κ]{k:κ}{v:ν}{x:κ×ν}:∀ {l:List (κ×ν)},x∈mw k v l->x∈l\/x=(k,v)
 | [],h=>by simp[mw] at h;exact .inr h
 | (a,u)::l,h=>by
  unfold mw at h;split at h
  ·rename_i e;subst e
   rcases tI.1 h with h | h
   ·exact .inr h
   ·exact .inl (BY _ h)
  ·rcases tI.1 h with h | h
   ·exact .inl (by simp[h])
   ·rcases I5 h with h | h
    ·exact .inl (BY _ h)
    ·exact .inr h
theorem adD (o:Ob):(dm o).length<=cv o:=by
 have hf:∀ (l out:List (ai)),(l.foldl jm out).length<=out.length+l.length:=by
  intro l
  induction l with
  | nil=>intro out;simp
  | cons s l ih=>
   intro out;have:=ih (jm out s);have h2:(jm out s).length<=out.length+1:=by unfold jm;split<;>simp
   simp only[lO,cY];omega
 induction o with
 | none=>simp[dm]
 | const n=>simp[dm]
 | fix s=>simp[dm,cv]
 | neg o ih=>unfold dm cv;have:=hf (dm o) [];simp at this;omega
 | add l r a b=>unfold dm cv;have h1:=hf (dm l) [];have h2:=hf (dm r) ((dm l).foldl jm []);simp at h1;omega
 | mul l r a b=>unfold dm cv;have h1:=hf (dm l) [];have h2:=hf (dm r) ((dm l).foldl jm []);simp at h1;omega
 | max l r a b=>unfold dm cv;have h1:=hf (dm l) [];have h2:=hf (dm r) ((dm l).foldl jm []);simp at h1;omega
theorem NO (w:eH)(d:Int)(o:Ob):(qM w d o).length<=cv o:=by
 unfold qM;split
 ·simp
 ·exact ez (Ed _ _) (adD o)
theorem FD (d:Int):∀ (names:List (ai)) (ws:List jn),∃ new,oE d names ws=ws++new/\new.length<=names.length
 | [],ws=>⟨[],by simp[oE],by simp⟩
 | s::names,ws=>by
  unfold oE;simp only[lO];split
  ·obtain⟨new,h1,h2⟩:=FD d names ws
   exact⟨new,h1,by simp;omega⟩
  ·obtain⟨new,h1,h2⟩:=FD d names (ws++[(false,s,[],d,0)])
   refine⟨(false,s,[],d,0)::new,?_,by simp;omega⟩;unfold oE at h1;rw[h1];simp
theorem UE (id:ai)(w:eH):∀ (t:Tm) (d k:Int) (x:kL),∃ fs ws,(dw id w t d k x).1=(x.1++fs,x.2++ws)/\fs.length<=bj t/\ws.length<=bj t/\(dI k=true->∀ f∈fs,dI f.2.2=true):=by
 intro t
 induction t with
 | none=>intro d k x;exact⟨[],[],by simp[dw],by simp,by simp,by simp⟩
 | zero=>intro d k x;exact⟨[],[],by simp[dw],by simp,by simp,by simp⟩
 | one s=>intro d k x;exact⟨[(d,s,k)],[],by simp[dw],by simp[bj],by simp,λ h f hf=>by simp at hf;subst hf;exact h⟩
 | dy t ih=>
  intro d k x;obtain⟨fs,ws,h1,h2,h3,h4⟩:=ih d (-k) x;exact⟨fs,ws,h1,by unfold bj;omega,by unfold bj;omega,λ h=>h4 (UC h)⟩
 | and l r a b=>
  intro d k x;obtain⟨fs,ws,h1,h2,h3,h4⟩:=a d k x;obtain⟨NP,ws',g1,g2,g3,g4⟩:=b d k (dw id w l d k x).1;unfold dw;split
  ·exact⟨fs,ws,h1,by unfold bj;omega,by unfold bj;omega,h4⟩
  ·refine⟨fs++NP,ws++ws',by rw[g1,h1];simp,by unfold bj;simp;omega,by unfold bj;simp;omega,λ h f hf=>?_⟩
   rcases kE.1 hf with hf | hf
   ·exact h4 h f hf
   ·exact g4 h f hf
 | when n t ih=>
  intro d k x;obtain⟨fs,ws,h1,h2,h3,h4⟩:=ih (max d n) k x;exact⟨fs,ws,h1,by unfold bj;omega,by unfold bj;omega,h4⟩
 | scale o t ih=>
  intro d k x;unfold dw;split
  ·exact⟨[],[],by simp,by simp,by simp,by simp⟩
  split
  ·obtain⟨new,h1,h2⟩:=FD d (qM w d o) x.2
   have:=NO w d o;exact⟨[],new,by simp[h1],by simp,by unfold bj;omega,by simp⟩
  split
  ·exact⟨[],[],by simp,by simp,by simp,by simp⟩
  rename_i hm;split
  ·exact⟨[],[],by simp,by simp,by simp,by simp⟩
  ·obtain⟨fs,ws,h1,h2,h3,h4⟩:=ih d (nZ k (hU w d o).1).1 x
   have hm:=UB (by simpa using hm);exact⟨fs,ws,h1,by unfold bj;omega,by unfold bj;omega,λ _=>h4 (by rw[hm.2.2.2];exact hm.2.2.1)⟩
 | cond o l r a b=>
  intro d k x;unfold dw;split
  ·exact⟨[],[],by simp,by simp,by simp,by simp⟩
  split
  ·obtain⟨new,h1,h2⟩:=FD d (qM w d o) x.2
   have:=NO w d o;exact⟨[],new,by simp[h1],by simp,by unfold bj;omega,by simp⟩
  split
  ·obtain⟨fs,ws,h1,h2,h3,h4⟩:=a d k x
   exact⟨fs,ws,h1,by unfold bj;omega,by unfold bj;omega,h4⟩
  ·obtain⟨fs,ws,h1,h2,h3,h4⟩:=b d k x
   exact⟨fs,ws,h1,by unfold bj;omega,by unfold bj;omega,h4⟩
 | or s l r a b=>
  intro d k x;unfold dw;split
  ·exact⟨[],_,by simp;rfl,by simp,by unfold bj;simp,by simp⟩
  ·rename_i p since _
   split
   ·obtain⟨fs,ws,h1,h2,h3,h4⟩:=a (max d since) k x
    exact⟨fs,ws,h1,by unfold bj;omega,by unfold bj;omega,h4⟩
   ·obtain⟨fs,ws,h1,h2,h3,h4⟩:=b (max d since) k x
    exact⟨fs,ws,h1,by unfold bj;omega,by unfold bj;omega,h4⟩
theorem UF {id:ai}{t:Tm}{day:Int}{w:eH}(h:(iy id t day w).2=0):mu t=0/\0<=day/\day<=10000/\(dw id w t day 1 ([],[])).2=0/\(iy id t day w).1=(dw id w t day 1 ([],[])).1:=by
 unfold iy at h ⊢;split at h
 ·cases h
 ·rename_i h1
  rw[if_neg h1];split at h
  ·rename_i h2;exact absurd h h2
  ·rename_i h2
   rw[if_neg h2];have h1:¬ mu t≠0/\¬ day<0/\¬ 10000<day:=⟨λ q=>h1 (.inl q),λ q=>h1 (.inr (.inl q)),λ q=>h1 (.inr (.inr q))⟩;exact⟨iG.1 h1.1,by omega,by omega,iG.1 h2,rfl⟩
theorem NQ {t:Tm}(h:mu t=0):dJ t=true/\bj t<=60/\dv t<=12/\(iL t).Nodup:=by
 unfold mu at h;split at h
 ·cases h
 split at h
 ·cases h
 split at h
 ·cases h
 split at h
 ·rename_i h1 h2 h3 h4;exact⟨by simpa using h1,by omega,by omega,h4⟩
 ·cases h
theorem NR (id:ai)(t:Tm)(day:Int)(w:eH):(iy id t day w).1.1.length<=60/\(iy id t day w).1.2.length<=60/\∀ f∈(iy id t day w).1.1,dI f.2.2=true:=by
 by_cases h:(iy id t day w).2=0
 ·obtain⟨h1,_,_,_,h5⟩:=UF h
  obtain⟨_,h6,_⟩:=NQ h1;obtain⟨fs,ws,g1,g2,g3,g4⟩:=UE id w t day 1 ([],[]);rw[h5,g1];simp only[iR];exact⟨by omega,by omega,g4 rfl⟩
 ·have:(iy id t day w).1=([],[]):=by
   unfold iy at h ⊢;split
   ·rfl
   ·rename_i h1
    rw[if_neg h1] at h;split
    ·rfl
    ·rename_i h2;rw[if_neg h2] at h;exact absurd rfl h
  rw[this];exact⟨by simp,by simp,by simp⟩
structure p8 (l:fE):Prop where
 day:0<=l.day/\l.day<=10000
 num:l.dT.length<=8
 ids:(l.dT.map (·.1)).Nodup
 ok:∀ d∈l.dT,(iy d.1 d.2.2 d.2.1 l.w).2=0
 w:FC l.w
 iW:∀ x∈l.iW,-480000000000000<=x.2/\x.2<=480000000000000
theorem adE:p8 Au:=⟨⟨by decide,by decide⟩,by decide,List.nodup_nil,(λ d hd=>nomatch hd),⟨(λ x hx=>nomatch hx),by decide,(λ x hx=>nomatch hx)⟩,(λ x hx=>nomatch hx)⟩
theorem UG (w:eH):∀ (l:List mP) (x:kL),(∀ f∈x.1,dI f.2.2=true)->(rK w l x).1.1.length<=x.1.length+60 * l.length/\(rK w l x).1.2.length<=x.2.length+60 * l.length/\∀ f∈(rK w l x).1.1,dI f.2.2=true
 | [],x,h=>by unfold rK;exact⟨by simp,by simp,h⟩
 | d::l,x,h=>by
  unfold rK;obtain⟨h1,h2,h3⟩:=NR d.1 d.2.2 d.2.1 w;split
  ·exact⟨by simp,by simp,by simp⟩
  ·obtain⟨g1,g2,g3⟩:=UG w l (x.1++(iy d.1 d.2.2 d.2.1 w).1.1,x.2++(iy d.1 d.2.2 d.2.1 w).1.2) (by
    intro f hf
    rcases kE.1 hf with hf | hf
    ·exact h f hf
    ·exact h3 f hf)
   simp only[bU] at g1 g2;refine⟨?_,?_,g3⟩<;>simp only[cY]<;>omega
theorem NS (h:p8 l):l.all.1.1.length<=480/\l.all.1.2.length<=480/\∀ f∈l.all.1.1,dI f.2.2=true:=by
 have:=h.num;obtain⟨h1,h2,h3⟩:=UG l.w l.dT ([],[]) bm;exact⟨by unfold fE.all;simp at h1;omega,by unfold fE.all;simp at h2;omega,h3⟩
theorem I6 (d:Int)(c:ai):∀ (fs:List oD) (n:Int),(∀ f∈fs,dI f.2.2=true)->n - 1000000000000 * fs.length<=nA d c n fs/\nA d c n fs<=n+1000000000000 * fs.length
 | [],n,_=>by simp[nA]
 | f::fs,n,h=>by
  have h1:=(vo _).1 (h f bm);unfold nA;simp only[lO,cY];have ih:=I6 d c fs (if f.1=d/\f.2.1=c then n+f.2.2 else n) (λ g hg=>h g (by simp[hg]));unfold nA at ih;split at ih<;>rename_i hc
  ·rw[if_pos hc];omega
  ·rw[if_neg hc];omega
theorem NT (d:Int)(c:ai):∀ (fs:List oD) (n:Int),nA d c n fs=n+nA d c 0 fs
 | [],n=>by simp[nA]
 | f::fs,n=>by
  have e:∀ n,nA d c n (f::fs)=nA d c (if f.1=d/\f.2.1=c then n+f.2.2 else n) fs:=λ n=>rfl;rw[e,e,NT d c fs,NT d c fs (if f.1=d/\f.2.1=c then 0+f.2.2 else 0)];split<;>omega
theorem NU (h:p8 l)(d:Int)(c:ai):-480000000000000<=l.mQ d c/\l.mQ d c<=480000000000000:=by
 unfold fE.mQ;cases hg:cg (d,c) l.iW with
 | none=>simp
 | some v=>exact h.iW _ (UD hg)
theorem adF {id:ai}{w w':eH}(hf:w'.fx=w.fx)(hc:∀ s,cg (id,s) w'.ch=cg (id,s) w.ch):∀ (t:Tm) (d k:Int) (x:kL),dw id w' t d k x=dw id w t d k x:=by
 have hn:∀ d o,gz w' d o=gz w d o:=by
  intro d o
  induction o with
  | none=>rfl
  | const n=>rfl
  | fix s=>unfold gz;rw[hf]
  | add l r a b=>unfold gz;rw[a,b]
  | mul l r a b=>unfold gz;rw[a,b]
  | max l r a b=>unfold gz;rw[a,b]
  | neg o ih=>unfold gz;rw[ih]
 have hv:∀ d o,hU w' d o=hU w d o:=λ d o=>by unfold hU;rw[hn]
 have hd:∀ d o,qM w' d o=qM w d o:=λ d o=>by unfold qM;rw[hf]
 intro t
 induction t with
 | none=>intro d k x;rfl
 | zero=>intro d k x;rfl
 | one s=>intro d k x;rfl
 | dy t ih=>intro d k x;unfold dw;exact ih _ _ _
 | and l r a b=>intro d k x;unfold dw;rw[a,b]
 | when n t ih=>intro d k x;unfold dw;exact ih _ _ _
 | scale o t ih=>intro d k x;unfold dw;rw[hv,hd,ih]
 | cond o l r a b=>intro d k x;unfold dw;rw[hv,hd,a,b]
 | or s l r a b=>intro d k x;unfold dw;rw[hc];split<;>simp only[a,b]
theorem adG {id:ai}{w w':eH}(hf:w'.fx=w.fx)(hc:∀ s,cg (id,s) w'.ch=cg (id,s) w.ch)(t:Tm)(d:Int):iy id t d w'=iy id t d w:=by
 unfold iy;rw[adF hf hc]
theorem UH {w:eH}:∀ {l:List mP} {x:kL},(rK w l x).2=0↔∀ d∈l,(iy d.1 d.2.2 d.2.1 w).2=0
 | [],x=>by simp[rK]
 | d::l,x=>by
  unfold rK;split
  ·rename_i h
   constructor
   ·intro h2;exact absurd h2 h
   ·intro h2;exact absurd (h2 d bm) h
  ·rename_i h
   rw[UH]
   constructor
   ·intro h2 e he
    rcases tI.1 he with rfl | he
    ·exact iG.1 h
    ·exact h2 e he
   ·intro h2 e he;exact h2 e (BY _ he)
theorem adH {w:eH}(hw:FC w){s:ai}{d v:Int}:FC (vd w s d v).1:=by
 unfold vd;split
 ·exact hw
 split
 ·exact hw
 split
 ·exact hw
 ·rename_i h1 h2 h3
  refine⟨λ x hx=>?_,?_,hw.ch⟩
  ·rcases I5 hx with hx | rfl
   ·exact hw.fx x hx
   ·have:¬ dI v=false:=λ q=>h1 (.inr (.inr q))
    simpa using this
  ·rw[Is _ _ _ (by simpa using h2)]
   simp;omega
theorem adI {w:eH}(hw:FC w){id label:ai}{side day:Int}:FC (oF w id label side day).1:=by
 unfold oF;split
 ·exact hw
 split
 ·exact hw
 ·rename_i h1 h2
  refine⟨hw.fx,hw.fxl,λ x hx=>?_⟩
  rcases I5 hx with hx | rfl
  ·exact hw.ch x hx
  ·have a:¬ (side≠0/\side≠1):=λ q=>h1 (.inr (.inr (.inl q)))
   have b:¬ yl day=false:=λ q=>h1 (.inr (.inr (.inr q)));unfold yl at b;simp only[Bool.not_eq_false,dp,decide_eq_true_eq] at b;exact⟨by dsimp only;omega,b⟩
theorem adJ {m:bu}(h:ik m=0):0<=m.day/\m.day<=10000:=by
 obtain⟨_,_,_,h4,h5,_⟩:=Iq h;exact⟨h4,h5⟩
theorem adK (h:p8 l)(m:bu)(b:Int):p8 (jo l m b).1:=by
 unfold jo;split
 ·exact h
 split
 ·exact h
 rename_i hb hc;have hd:=adJ (iG.1 hc);split
 ·unfold ym
  split
  ·exact h
  split
  ·exact h
  split
  ·exact h
  ·rename_i h1 h2 h3
   refine⟨h.day,by simp;omega,?_,?_,h.w,h.iW⟩
   ·simp only[jG,gU,gb]
    rw[List.nodup_append];refine⟨h.ids,by simp,?_⟩;intro a ha c hc;simp at hc;subst hc;intro e;apply h1;rw[kF] at ha;obtain⟨x,hx,rfl⟩:=ha;rw[List.any_eq_true];exact⟨x,hx,by simp[e]⟩
   ·intro d hd
    rcases kE.1 hd with hd | hd
    ·exact h.ok d hd
    ·simp at hd;subst hd;exact iG.1 h3
 split
 ·unfold wO
  split
  ·exact h
  split
  ·exact h
  split
  ·exact h
  ·rename_i h1 h2 h3
   have h3:=iG.1 h3;exact⟨h.day,h.num,h.ids,UH.1 h3,adH h.w,h.iW⟩
 split
 ·unfold wP
  split
  ·exact h
  ·rename_i d uo
   split
   ·exact h
   ·rename_i x hfx
    split
    ·exact h
    split
    ·exact h
    split
    ·exact h
    split
    ·exact h
    ·rename_i h1 h2 h3 h4
     have adL:d.1=m.id:=by
      have:=List.find?_some uo;simpa using this
     have C4:=List.mem_of_find?_eq_some uo;refine⟨h.day,h.num,h.ids,λ e he=>?_,adI h.w,h.iW⟩
     by_cases hid:e.1=m.id
     ·have:e=d:=by
       have hn:=h.ids;obtain⟨i,hi,rfl⟩:=List.getElem_of_mem he;obtain⟨j,hj,rfl⟩:=List.getElem_of_mem C4;have ox:i=j:=by
        have h5:(l.dT.map (·.1))[i]'(by simpa using hi)=(l.dT.map (·.1))[j]'(by simpa using hj):=by simp[hid,adL]
        exact(List.getElem_inj hn).1 h5
       subst ox;rfl
      subst this;exact iG.1 h4
     ·rw[show(({ l with w:=(oF l.w m.id m.label m.val l.day).1 }:fE).w)=(oF l.w m.id m.label m.val l.day).1 from rfl]
      rw[adG (w:=l.w) (w':=(oF l.w m.id m.label m.val l.day).1) ?_ ?_]
      ·exact h.ok e he
      ·unfold oF;split
       ·rfl
       split<;>rfl
      ·intro s
       unfold oF;split
       ·rfl
       split
       ·rfl
       ·dsimp only
        rw[SF,if_neg (λ q=>hid (by injection q with q _;exact q.symm))]
 split
 ·unfold yn
  split
  ·exact h
  split
  ·exact h
  split
  ·exact h
  ·refine⟨h.day,h.num,h.ids,h.ok,h.w,λ x hx=>?_⟩
   rcases I5 hx with hx | rfl
   ·exact h.iW x hx
   ·obtain⟨a1,_,a3⟩:=NS h
    have:=I6 m.day m.cur l.all.1.1 0 a3;dsimp only;unfold fE.rL;rw[NT];omega
 split
 ·split
  ·exact h
  ·exact⟨hd,h.num,h.ids,h.ok,h.w,h.iW⟩
 ·exact h
structure cX (p:PeerM):Prop where
 kb:p.kb.length=16
 side:p.side=0\/p.side=1
 hs:p.hs.length=p.es.length+1
 num:p.es.length<=64
 lH:∀ h∈p.hs,0<=h/\h<18446744073709551616
 es:∀ x∈p.es,eT x.1
 off:eT p.off.1
 aW:eT p.aW.1
 bX:p8 p.bX
theorem fK:eT bH:=⟨by decide,by decide,by decide,by decide,by decide⟩
theorem UI:eT nB:=⟨by decide,by decide,by decide,by decide,by decide⟩
theorem UJ (hk:kb.length=16)(side:Int):cX (j6 kb side):=
 ⟨hk,(by unfold j6;dsimp only;split<;>simp),rfl,fj _,(by intro h hh;simp[j6] at hh;subst hh;decide),(λ x hx=>nomatch hx),fK,fK,adE⟩
theorem cX.AP (h:cX p):0<=p.head/\p.head<18446744073709551616:=by
 unfold PeerM.head;have hl:=h.hs;rw[dB,cV ab];exact h.lH _ (nQ _)
theorem cX.adM (h:cX p)(n:Int):0<=(p.at_ n).1/\(p.at_ n).1<18446744073709551616:=by
 unfold PeerM.at_;split
 ·decide
 ·dsimp only
  rw[dB,cV ab];exact h.lH _ (nQ _)
theorem UK (kb:ai)(h:Int)(x:dS):0<=(dF kb h x).1/\(dF kb h x).1<18446744073709551616:=by
 unfold dF;split
 ·dsimp only;omega
 ·exact MA _ _
theorem cX.entry (h:cX p){x:dS}(hx:eT x.1):cX (p.entry x).1:=by
 unfold PeerM.entry;split
 ·exact h
 split
 ·exact h
 split
 ·exact h
 ·rename_i h1 h2 h3
  have hs:=h.hs;refine⟨h.kb,h.side,by simp[hs],by simp;omega,λ y hy=>?_,λ y hy=>?_,h.off,fK,?_⟩
  ·rcases kE.1 hy with hy | hy
   ·exact h.lH y hy
   ·simp at hy;subst hy;exact UK _ _ _
  ·rcases kE.1 hy with hy | hy
   ·exact h.es y hy
   ·simp at hy;subst hy;exact hx
  ·dsimp only
   split
   ·exact h.bX
   ·exact adK h.bX _ _
theorem cX.ended (h:cX p){a:cE}(hp:eT a.cI):cX (p.ended a):=by
 have ho:eT (if p.oI a=true then((bH,false):bu×Bool) else p.off).1:=by
  split
  ·exact fK
  ·exact h.off
 unfold PeerM.ended PeerM.lg;split
 ·exact⟨h.kb,h.side,h.hs,h.num,h.lH,h.es,ho,hp,h.bX⟩
 ·exact⟨h.kb,h.side,h.hs,h.num,h.lH,h.es,ho,h.aW,h.bX⟩
theorem cX.bx (h:cX p){a:cE}(he:eT a.bB.1)(hp:eT a.cI):cX (p.bx a).1:=by
 unfold PeerM.bx;split
 ·split
  ·exact h
  ·exact(h.entry he).ended hp
 ·exact h.ended hp
theorem cX.offer (h:cX p){m:bu}(hm:eT m):cX (p.offer m).1:=by
 unfold PeerM.offer;split
 ·exact h
 split
 ·exact h
 split
 ·exact h
 split
 ·exact h
 ·exact⟨h.kb,h.side,h.hs,h.num,h.lH,h.es,hm,h.aW,h.bX⟩
structure mT (a:cE):Prop where
 bB:eT a.bB.1
 cI:eT a.cI
 bg:∀ f∈a.bg,eT f.m/\0<=f.2.2.2.2.2.1/\f.2.2.2.2.2.1<18446744073709551616
 num:a.bg.length<=1
theorem Da:mT bq:=⟨fK,fK,(λ f hf=>nomatch hf),fj _⟩
theorem yF (h1:eT a.bB.1)(h2:eT a.cI)(h3:a.bg=[]):mT a:=⟨h1,h2,(by rw[h3];exact(λ f hf=>nomatch hf)),(by rw[h3];decide)⟩
theorem AQ {f:bS}(h1:eT f.m)(h2:0<=f.2.2.2.2.2.1/\f.2.2.2.2.2.1<18446744073709551616):(∀ g∈[f],eT g.m/\0<=g.2.2.2.2.2.1/\g.2.2.2.2.2.1<18446744073709551616)/\([f]:List bS).length<=1:=
 ⟨(λ g hg=>by simp at hg;subst hg;exact⟨h1,h2⟩),eR _⟩
theorem cX.fH (h:cX p){m:bu}(hm:eT m):mT (p.fH m):=by
 unfold PeerM.fH;split
 ·exact yF fK fK rfl
 ·have:=AQ (f:=p.fG 1 false m) hm h.AP
  exact⟨fK,hm,this.1,this.2⟩
theorem cX.tick (h:cX p):mT p.tick:=by
 unfold PeerM.tick;split
 ·have:=AQ (f:=p.fG 4 true bH) fK h.AP
  exact⟨fK,fK,this.1,this.2⟩
 split
 ·exact Da
 split
 ·have:=AQ (f:=p.fG 1 false p.aW.1) h.aW h.AP
  exact⟨fK,fK,this.1,this.2⟩
 split
 ·exact h.fH h.off
 split
 ·exact h.fH UI
 split
 ·have:=AQ (f:=p.fG 3 false bH) fK h.AP
  exact⟨fK,fK,this.1,this.2⟩
 ·exact Da
theorem cX.take (h:cX p){f:bS}(hf:eT f.m):mT (p.take f):=by
 unfold PeerM.take;split
 ·exact Da
 split
 ·unfold PeerM.lH
  have:=AQ (f:=p.fG 4 false bH) fK h.AP;refine⟨fK,fK,?_,?_⟩<;>dsimp only<;>split
  ·exact this.1
  ·exact λ f hf=>nomatch hf
  ·exact this.2
  ·decide
 split
 ·exact Da
 split
 ·unfold PeerM.want
  split<;>exact yF fK fK rfl
 split
 ·unfold PeerM.la
  split
  ·exact yF fK fK rfl
  split
  ·have:=AQ (f:=PeerM.fr 2 f.2.2.2.2.1 (p.at_ (f.2.2.2.2.1+1)).1 (p.es.getD f.2.2.2.2.1.toNat (bH,false)).2 bH) fK (h.adM _)
   exact⟨fK,fK,this.1,this.2⟩
  split
  ·exact Da
  split
  ·exact Da
  ·have:=AQ (f:=PeerM.fr 2 f.2.2.2.2.1 (dF p.kb p.head (f.m,p.cu f.m)).1 (p.cu f.m) bH) fK (UK _ _ _)
   exact⟨hf,fK,this.1,this.2⟩
 ·unfold PeerM.mS
  split
  ·exact yF fK fK rfl
  split
  ·exact yF fK fK rfl
  split
  ·exact yF fK fK rfl
  split
  ·exact yF fK fK rfl
  ·exact yF h.aW fK rfl
theorem I7 (m:bS):(fB m.f).all cG=true:=Nf (Tm.cU _)
theorem adN {v:Sl}(h:bO w v bs)(hc:v.2.1<=v.2.2)(hl:35<=bs.length)(ht:TabW w):au 131 #[.slice v.1 v.2.1 v.2.2] w λ r w'=>r=oH (jB bs).f/\Fr none1 w w':=by
 refine c131 v.1 v.2.1 v.2.2 w _ ?_;unfold C131;have dD:=h.len;refine aC.of λ g1 w1 eG aE f1 ng=>?_;have aE:w1.heap[g1]? = some (.cells (fB lG.f).toArray 214 (0,0)):=aE;refine aU.of λ w2 _ f2=>bL.of (λ k=>k<w.heap.size) ?_;have f12:=f1.trans f2;have h2:=h.ag f12;have aL:bs≠[]:=λ t=>by rw[t] at hl;simp at hl
 have hS:∀ a,v.1=some a->(λ k=>k<w.heap.size) a.block:=λ a ha=>h.MV aL ⟨a,ha,rfl⟩;refine cz.M6 hS (bO.at h2 ar ab (cz.M6 hS (bO.at h2 ar ab (cz.M6 hS (bO.at h2 ar ab ?_)))));rw[show Int.toNat 0=0 by rfl,show Int.toNat 17=17 by rfl,show Int.toNat 34=34 by rfl];have b0:=(bs.getD 0 0).toNat_lt;have Nk:=(bs.getD 17 0).toNat_lt;rw[wI (x:=((bs.getD 0 0).toNat:Int)) ab ab,wI (x:=((bs.getD 17 0).toNat:Int)) ab ab];have gd:=f12.size;refine aC.of λ g w3 hg bJ f3 sX=>az.of f3 ?_;obtain⟨fl,mq⟩:∃ fl,fl=(((bs.getD 34 0).toNat:Int)==1):=⟨_,rfl⟩;rw[<- mq];obtain⟨X,hX⟩:∃ X:bS,X=(((bs.getD 0 0).toNat:Int),0,0,((bs.getD 17 0).toNat:Int),0,0,fl,bH):=⟨_,rfl⟩;refine aG.aR (cs:=fB lG.f) (vs:=fB (bu.e bH |> λ e=>((((bs.getD 0 0).toNat:Int),0,0,((bs.getD 17 0).toNat:Int),0,0,fl,e):oe))) bJ rfl (Nf rfl) λ w4 df f4 wS=>az.on f4 (λ k hk t=>by have:k=g:=t;omega) ?_;have F4:Fr none1 w w4:=(f12.trans f3).fresh f4 ab;have g14:=f4.ao (f3.ag (f2.ag aE)) (λ t=>by have:g1=g:=t;have:=cQ aE;have:=f2.size;omega);have h4:=h.ag F4;refine bO.my h4 ar ar ab hc λ u1 FE _ _ _=>?_;refine an.of (HB FE) ?_;rintro _ _ ⟨rfl,rfl⟩;refine⟨((jS (hZ bs 1 9)).1,(jS (hZ bs 1 9)).2,()),rfl,?_⟩;refine aK.aw df (by show 0+1<15;omega) rfl λ w5 dN f5 _=>?_;have F5:Fr none1 w w5:=F4.fresh f5 ab;have h5:=h.ag F5;have g15:=f5.ao g14 (λ t=>by have:g1=g:=t;have:=cQ aE;have:=f2.size;omega);refine bO.my h5 ar ar ab hc λ u2 zp _ _ _=>?_;refine an.of (HB zp) ?_;rintro _ _ ⟨rfl,rfl⟩;refine⟨((jS (hZ bs 9 17)).1,(jS (hZ bs 9 17)).2,()),rfl,?_⟩;refine aK.aw dN (by show 0+2<15;omega) rfl λ w6 gM f6 _=>?_;have F6:Fr none1 w w6:=F5.fresh f6 ab;have h6:=h.ag F6;have g16:=f6.ao g15 (λ t=>by have:g1=g:=t;have:=cQ aE;have:=f2.size;omega);refine bO.my h6 ar ar ab hc λ u3 nL _ _ _=>?_;refine an.of (HB nL) ?_;rintro _ _ ⟨rfl,rfl⟩;refine⟨((jS (hZ bs 18 26)).1,(jS (hZ bs 18 26)).2,()),rfl,?_⟩;refine aK.aw gM (by show 0+4<15;omega) rfl λ w7 gL f7 _=>?_;have F7:Fr none1 w w7:=F6.fresh f7 ab;have h7:=h.ag F7;have g17:=f7.ao g16 (λ t=>by have:g1=g:=t;have:=cQ aE;have:=f2.size;omega);refine bO.my h7 ar ar ab hc λ u4 Cg _ _ _=>?_;have Na:(hZ bs 26 34).length=8:=by unfold hZ;rw[ga,kD];omega
 have Cg:bO w7 u4 (hZ bs 26 34):=Cg;refine an.of (aci Cg) ?_;rintro _ _ ⟨rfl,rfl⟩;rw[if_pos Na];refine⟨((jz (hZ bs 26 34):Int),decide ((hZ bs 26 34).length=8),()),rfl,?_⟩;refine aK.aw gL (by show 0+5<15;omega) rfl λ w8 lU f8 _=>?_;have F8:Fr none1 w w8:=F7.fresh f8 ab;have h8:=h.ag F8;have g18:=f8.ao g17 (λ t=>by have:g1=g:=t;have:=cQ aE;have:=f2.size;omega);have lU:w8.heap[g]? = some (.cells (fB (bS.f (((bs.getD 0 0).toNat:Int),(jS (hZ bs 1 9)).1,(jS (hZ bs 9 17)).1,((bs.getD 17 0).toNat:Int),(jS (hZ bs 18 26)).1,(jz (hZ bs 26 34):Int),fl,bH))).toArray 214 (0,0)):=by rw[lU];rfl
 have fin:∀ (Y:bS) (w9:ah),w9.heap[g]? = some (.cells (fB Y.f).toArray 214 (0,0))->w9.heap[g1]? = some (.cells (fB lG.f).toArray 214 (0,0))->Fr none1 w w9->Y=jB bs ->
   aF FK ⟨g,0,none⟩ w9 (λ(kZ:Cs FK)=>aG ⟨g1,0,none⟩ (Cs.vals FK kZ) w9 (λ kf=>aF FK ⟨g1,0,none⟩ kf (λ(fu:Cs FK)=>(Value.agg (Cs.vals FK fu).toArray)=oH (jB bs).f/\Fr none1 w kf))):=λ Y w9 hY h1 F9 e=>by
  subst e;refine aF.aR (cks:=FK) (x:=(jB bs).f) hY ?_;refine aG.aR (cs:=fB lG.f) (vs:=fB (jB bs).f) h1 rfl (I7 _) λ aX oK f10 _=>aF.aR (cks:=FK) (x:=(jB bs).f) oK ?_;exact⟨rfl,F9.fresh f10 ab⟩
 have UL:((bs.getD 34 0).toNat==1)=fl:=by
  rw[mq,xL];simp only[beq_iff_eq];omega
 refine af.aw lU (x:=((bs.getD 17 0).toNat:Int)) rfl ?_;refine ae.eq (λ h1=>?_) (λ h1=>?_)
 ·refine bO.my h8 ar ab (kC _) hc λ u5 qE adO _ _=>?_
  have e35:(bs.drop (35:Int).toNat).take ((v.2.1:Int) - 35).toNat=bs.drop 35:=by
   rw[show(35:Int).toNat=35 by rfl];exact gV (by rw[kD];omega)
  rw[e35] at qE;refine an.of (M0 qE adO (ht.ag F8)) ?_;rintro _ w9 ⟨rfl,f9⟩;refine⟨((iN false (bs.drop 35)).1.e,(iN false (bs.drop 35)).2,()),rfl,?_⟩;have e:jB bs=(((bs.getD 0 0).toNat:Int),(jS (hZ bs 1 9)).1,(jS (hZ bs 9 17)).1,((bs.getD 17 0).toNat:Int),(jS (hZ bs 18 26)).1,(jz (hZ bs 26 34):Int),fl,(iN false (bs.drop 35)).1):=by
   unfold jB;rw[if_pos ab,UL]
  obtain⟨a1,a2,a3,a4⟩:=K2 (T:=214) (b:=g) (kj (iN false (bs.drop 35)).1.e) w9 [aa ((bs.getD 0 0).toNat:Int),aa (jS (hZ bs 1 9)).1,aa (jS (hZ bs 9 17)).1,aa ((bs.getD 17 0).toNat:Int),aa (jS (hZ bs 18 26)).1,.int .u64 (jz (hZ bs 26 34):Int),.bool fl] (kj bH.e) (f9.ag lU) rfl (MI (Tm.cU _));refine⟨Ty _ _ 0 a1,?_⟩;rw[Tz];refine fin _ _ ?_ (a3.ao (f9.ag g18) (λ t=>by have:g1=g:=t;have:=cQ aE;have:=f2.size;omega)) ((F8.trans f9).fresh a3 ab) e.symm;exact a2
 ·refine fin _ w8 lU g18 F8 ?_
  unfold jB;rw[if_neg ab,UL]
theorem UM (bs:ai):eT (jB bs).m:=by
 unfold jB;show eT (if(bs.getD 17 0).toNat=1 then(iN false (bs.drop 35)).1 else bH);have hz:eT bH:=⟨by decide,by decide,by decide,by decide,by decide⟩;split
 ·unfold iN;split
  ·exact MY false _
  ·exact hz
 ·exact hz
theorem adP (bs:ai):0<=(jB bs).2.2.2.2.2.1/\(jB bs).2.2.2.2.2.1<18446744073709551616:=by
 unfold jB;dsimp only;have h:=Iw (hZ bs 26 34);have h2:256 ^ (hZ bs 26 34).length<=256 ^ 8:=zH ar (by unfold hZ;rw[ga];omega);have:(256:Nat) ^ 8=18446744073709551616:=ar;omega
theorem adQ (m:bS)(hs:tQ m.m.e)(hn:bj m.m.t<=1000000)(hh:0<=m.2.2.2.2.2.1/\m.2.2.2.2.2.1<18446744073709551616)(w:ah)(ht:TabW w):
  au 132 #[oH m.f] w λ r w'=>∃ v:Sl,r=.tuple #[.slice v.1 v.2.1 v.2.2,aa (mA m).2]/\Own w w' v (mA m).1/\Fr none1 w w':=by
 have hl:=yj m.m.t;exact TG m.f (Az m.m.t) hs hh (bT m.m.t).1 ab (bT m.m.t).2 w (IM m.m.t hn ht)
theorem adR (kb:ai)(hk:kb.length=16)(m:bS)(hs:tQ m.m.e)(hn:bj m.m.t<=1000000)(hh:0<=m.2.2.2.2.2.1/\m.2.2.2.2.2.1<18446744073709551616)(w:ah)(ht:TabW w):
  au 109 #[.agg (dh kb).toArray,oH m.f] w λ r w'=>∃ v:Sl,r=.tuple #[.slice v.1 v.2.1 v.2.2,aa (jN kb m).2]/\Own w w' v (jN kb m).1/\Fr none1 w w':=by
 have hl:=yj m.m.t;exact acp kb hk m.f (Az m.m.t) hs hh (bT m.m.t).1 ab (bT m.m.t).2 w (IM m.m.t hn ht)
theorem adS (m:bS)(hn:bj m.m.t<=1000000)(w:ah)(ht:TabW w):au 134 #[oH m.f] w λ r w'=>r=aa (mz m.f (bT m.m.t).2)/\Fr none1 w w':=
 TE m.f (Az m.m.t) (bT m.m.t).1 (bT m.m.t).2 w (IM m.m.t hn ht)
theorem adT (kb:ai)(hk:kb.length=16){w:ah}{v:Sl}{bs:ai}(h:bO w v bs)(hc:v.2.1<=v.2.2)(hl:bs.length<=140737488355300)(ht:TabW w):
  au 90 #[.agg (dh kb).toArray,.slice v.1 v.2.1 v.2.2] w λ r w'=>r=.tuple #[oH (cM kb bs).1.f,aa (cM kb bs).2]/\Fr none1 w w':=by
 refine c90 (dh kb) v.1 v.2.1 v.2.2 w _ ?_;unfold C90;have dD:=h.len;refine aC.of λ g0 w0 Fg wL f0 uM=>aC.of λ g w1 hg aE f1 ng=>?_;have aE:w1.heap[g]? = some (.cells (fB lG.f).toArray 214 (0,0)):=aE;have AJ:=f0.trans f1;have fail:∀ (code:Int),cM kb bs=(lG,code)->∀ w2,w2.heap[g]? = some (.cells (fB lG.f).toArray 214 (0,0))->Fr none1 w w2->aG ⟨g,0,none⟩ (fB lG.f) w2 (λ w5=>aF FK ⟨g,0,none⟩ w5 (λ(x6:Cs FK)=>(Value.tuple #[.agg (Cs.vals FK x6).toArray,aa code])=.tuple #[oH (cM kb bs).1.f,aa (cM kb bs).2]/\Fr none1 w w5)):=λ code e w2 hb f2=>by
  rw[e];refine aG.aR (cs:=fB lG.f) (vs:=fB lG.f) hb rfl (I7 lG) λ w3 bJ f3 _=>aF.aR (cks:=FK) (x:=lG.f) bJ ?_;exact⟨rfl,f2.fresh f3 ab⟩
 have s01:=AJ.size;have hO:cM kb bs=if bs.length<8 then(lG,2) else if CO bs≠jA (qN kb (jq bs)) then(lG,12) else if(jq bs).length<35 then(lG,2)
   else if(mA (jB (jq bs))).2≠0\/(mA (jB (jq bs))).1≠jq bs then(lG,2) else(jB (jq bs),0):=rfl
 refine ae.dec (λ bI=>?_) (λ gk=>?_)
 ·exact fail 2 (by rw[hO,if_pos ab]) w1 aE AJ
 rw[if_neg ab] at hO;refine aU.of λ w2 _ f2=>?_;have qU:=AJ.trans f2;have ba:=f2.ag aE;have h2:=h.ag qU;rw[wI (x:=(v.2.1:Int) - 8) ab ab];obtain⟨n,hn⟩:∃ n,n=bs.length - 8:=⟨_,rfl⟩;refine bO.sub h2 ab ab hc λ hT=>?_;refine bO.my h2 ab ab (kC _) hc λ u hu vh dP pU=>?_;have en:((v.2.1:Int) - 8).toNat=n:=ab;have e8:((v.2.1:Int) - ((v.2.1:Int) - 8)).toNat=8:=ab;rw[en] at hT hu ⊢;rw[e8,gV (by rw[kD];omega)] at hu;have zA:n<=v.2.2:=ab;have UN:jq bs=bs.take n:=by unfold jq;rw[hn]
 have etl:CO bs=bs.drop n:=by unfold CO;rw[hn]
 rw[<- UN] at hT;rw[<- etl] at hu;have Ie:(jq bs).length=n:=by rw[UN,ga];omega
 refine fL.of (f2.ag (f1.ag wL)) (by simp[dh,hk]) ?_;refine an.of (Nb (v:=(v.1,n,v.2.2)) hk hT zA ab) ?_;rintro _ w3 ⟨rfl,f3⟩;refine⟨_,rfl,?_⟩;have hr:=MA kb (jq bs);refine Nj _ hr.1 hr.2 w3 λ q w4 hq f4=>?_;have f24:=f3.trans f4;refine an.of (acj (hu.ag f24) hq.rd) ?_;rintro _ _ ⟨rfl,rfl⟩;refine⟨_,rfl,?_⟩;have I8:=qU.trans f24;have df:=f24.ag ba;refine ae.not (ae.by (λ heq=>?_) (λ aL=>fail 12 (by rw[hO,if_pos (by intro t;rw[t] at aL;simp at aL)]) w4 df I8));rw[if_neg (by simpa using heq)] at hO;refine ae.dec (λ bI=>?_) (λ aiA=>?_)
 ·exact fail 2 (by rw[hO,if_pos ab]) w4 df I8
 rw[if_neg ab] at hO;have UO:=hT.ag f24;have rO:=UM (jq bs);have hph:=adP (jq bs);refine an.of (adN (v:=(v.1,n,v.2.2)) UO zA ab (ht.ag I8)) ?_;rintro _ w5 ⟨rfl,f5⟩;generalize jq bs=tx at *;generalize jB tx=X at *;refine⟨X.f,rfl,?_⟩;refine dO (zs:=fB lG.f) (vs:=fB X.f) rfl (I7 X) λ g6 w6 NV gM f6=>?_;have f46:=f5.trans f6;have I9:=I8.trans f46;refine aF.aR (cks:=FK) (x:=X.f) gM ?_;refine an.of (adQ X rO.e rO.2.2.2.2 hph w6 (ht.ag I9)) ?_;rintro _ w7 ⟨y,rfl,hy,f7⟩;refine⟨(y,(mA X).2,()),rfl,?_⟩;have FF:=I9.trans f7;have gL:=f7.ag (f46.ag df);dsimp only;refine ae.ne (λ aL=>?_) (λ he=>?_)
 ·exact fail 2 (by rw[hO,if_pos (.inl aL)]) w7 gL FF
 refine an.of (MZ (u:=(v.1,n,v.2.2)) hy.is.rd ((UO.ag f46).ag f7)) ?_;rintro _ _ ⟨rfl,rfl⟩;refine⟨_,rfl,ae.not (ae.by (λ pO=>?_) (λ NH=>?_))⟩
 ·rw[if_neg (by rw[he];simpa using pO)] at hO
  rw[hO];refine aF.aR (cks:=FK) (x:=X.f) (f7.ag gM) ?_;refine aG.aR (cs:=fB lG.f) (vs:=fB X.f) gL rfl (I7 X) λ w8 lU f8 _=>aF.aR (cks:=FK) (x:=X.f) lU ?_;exact⟨rfl,FF.fresh f8 ab⟩
 ·exact fail 2 (by rw[hO,if_pos (.inr (by intro t;rw[t] at NH;simp at NH))]) w7 gL FF
theorem UP (kb:ai):cM kb []=(lG,2):=by unfold cM;rw[if_pos ar]
theorem Db (m:bu):(dZ m).2=ik m:=by
 unfold dZ lA ik;split
 ·rfl
 ·rename_i h;exact(iG.1 h).symm
theorem Dc (x:dS):(iz x).2=ik x.1:=by
 have h:=Db x.1;unfold dZ at h;unfold iz yo;split
 ·exact h
 ·rename_i h2;rw[h] at h2;exact(iG.1 h2).symm
theorem Ja {m:bu}(h:ik m=0):dZ m=((dZ m).1,0):=by
 have:=Db m;rw[h] at this;exact Prod.ext rfl this
theorem UQ {m:bu}(h:ik m=0):iN false (dZ m).1=(m,0):=SD false (Ja h)
theorem NW {x:dS}(h:ik x.1=0):(iz x).1=(if x.2=true then 1 else 0)::(dZ x.1).1:=by
 have h2:=Db x.1;rw[h] at h2;unfold iz yo;rw[if_neg (λ t=>t h2)];rfl
theorem adU {x:dS}(h:ik x.1=0):kM false (iz x).1=(x,0):=by
 have e:=UQ h;rw[NW h];unfold kM;obtain⟨m,r⟩:=x;rw[if_neg (by cases r<;>simp),if_neg (by rw[List.drop_one,List.tail_cons,e];simp)]
 rw[List.drop_one,List.tail_cons,e];cases r<;>rfl
theorem NX (bs:ai):eT (iN false bs).1:=by
 unfold iN;split
 ·exact MY false bs
 ·exact fK
theorem UR (bs:ai):eT (kM false bs).1.1:=by
 unfold kM;split
 ·exact fK
 split
 ·exact fK
 ·exact NX _
theorem Dd (kb bs:ai):eT (cM kb bs).1.m:=by
 unfold cM
 repeat' split
 all_goals first | exact fK | exact UM _
theorem adV {m:bu}(h:ik m=0):(dX m.1 73=true->m.2.1.length<=48)/\(dX m.1 78=true->m.2.2.1.length<=48)/\(dX m.1 76=true->m.2.2.2.1.length<=48)/\(dX m.1 67=true->m.2.2.2.2.1.length<=48):=by
 obtain⟨_,_,hn,_⟩:=Iq h;unfold sI at hn;simp only[dp,Bool.or_eq_true,Bool.not_eq_true'] at hn;have nm:∀ s:ai,tN (str s)=true->s.length<=48:=λ s hs=>HZ (by unfold tN at hs;unfold gY;simpa[str] using hs);obtain⟨⟨⟨h1,h2⟩,h3⟩,h4⟩:=hn;have e0:m.e.1=m.1:=rfl;rw[e0] at h1 h2 h3 h4;refine⟨λ q=>?_,λ q=>?_,λ q=>?_,λ q=>?_⟩
 ·rw[q] at h1;exact nm _ (h1.resolve_left bm)
 ·rw[q] at h2;exact nm _ (h2.resolve_left bm)
 ·rw[q] at h3;exact nm _ (h3.resolve_left bm)
 ·rw[q] at h4;exact nm _ (h4.resolve_left bm)
def NY (c:UInt8):Nat:=if c=68 then 8 else if c=86 then 8 else if c=84 then 1002 else 49
theorem US (q:UInt8->Bool)(f:UInt8->ai):∀ l:ai,(∀ c∈l,q c=true->(f c).length<=NY c)->((l.filter q).flatMap f).length<=(l.map NY).sum
 | [],_=>by simp
 | c::l,h=>by
  have ih:=US q f l λ d hd=>h d (BY _ hd);rw[List.filter_cons,gU,List.sum_cons];split
  ·rename_i hq
   have:=h c bm hq;rw[ni,bU];omega
  ·omega
theorem FG {m:bu}(h:ik m=0):(dZ m).1.length<=1215:=by
 obtain⟨n1,n2,n3,n4⟩:=adV h;have hw:=yj m.t;have h':pN m.e (bT m.t).2=0:=h;unfold dZ lA;rw[if_neg (λ t=>t h')];have:=US (dX m.1) (gX m.e (bT m.t).1) tP (λ c hc hq=>by
  simp only[tP,tI,List.not_mem_nil,or_false] at hc;have sz:∀ s:ai,s.length<=48->(nr (str s).data.toList).length<=49:=λ s hs=>by unfold nr;simp[str];omega
  rcases hc with rfl | rfl | rfl | rfl | rfl | rfl | rfl
  ·exact sz m.2.1 (n1 hq)
  ·exact sz m.2.2.1 (n2 hq)
  ·exact sz m.2.2.2.1 (n3 hq)
  ·exact sz m.2.2.2.2.1 (n4 hq)
  ·show(dj _).length<=8;rw[kG];exact eR _
  ·show(dj _).length<=8;rw[kG];exact eR _
  ·show(_::_::(bT m.t).1).length<=1002;simp only[cY];omega)
 have e:(tP.map NY).sum=1214:=ar;rw[e] at this;simp only[cY];have e2:(gJ m.e.1).flatMap (gX m.e (bT m.t).1)=(tP.filter (dX m.1)).flatMap (gX m.e (bT m.t).1):=rfl;rw[e2];omega
theorem UT {x:dS}(h:ik x.1=0):(iz x).1.length<=1216:=by
 rw[NW h,cY];have:=FG h;omega
structure cC (p q:PeerM):Prop where
 kb:p.kb=q.kb
 side:p.side=q.side
 es:p.es=q.es
 hs:p.hs=q.hs
 bX:p.bX=q.bX
 aW:p.aW=q.aW
theorem cC.refl (p:PeerM):cC p p:=⟨rfl,rfl,rfl,rfl,rfl,rfl⟩
theorem cC.symm (h:cC p q):cC q p:=⟨h.kb.symm,h.side.symm,h.es.symm,h.hs.symm,h.bX.symm,h.aW.symm⟩
theorem cC.trans {r:PeerM}(h:cC p q)(k:cC q r):cC p r:=⟨h.kb.trans k.kb,h.side.trans k.side,h.es.trans k.es,h.hs.trans k.hs,h.bX.trans k.bX,h.aW.trans k.aW⟩
theorem cC.len (h:cC p q):p.len=q.len:=by unfold PeerM.len;rw[h.es]
theorem cC.head (h:cC p q):p.head=q.head:=by unfold PeerM.head;rw[h.es,h.hs]
theorem cC.at_ (h:cC p q)(n:Int):p.at_ n=q.at_ n:=by unfold PeerM.at_;rw[h.hs]
theorem cC.entry (h:cC p q)(x:dS):(p.entry x).2=(q.entry x).2/\cC (p.entry x).1 (q.entry x).1:=by
 unfold PeerM.entry;rw[h.es,h.kb,h.head,h.bX,h.len];split
 ·exact⟨rfl,h⟩
 split
 ·exact⟨rfl,h⟩
 split
 ·exact⟨rfl,h⟩
 ·exact⟨rfl,rfl,h.side,rfl,(by dsimp only;rw[h.hs]),rfl,rfl⟩
theorem mD (p:PeerM)(a:cE):cC (p.ended a) { p with aW:=if a.dz=true then(a.cI,true) else p.aW }:=by
 unfold PeerM.ended PeerM.lg;split
 ·exact⟨rfl,rfl,rfl,rfl,rfl,rfl⟩
 ·exact⟨rfl,rfl,rfl,rfl,rfl,rfl⟩
theorem cC.ended (h:cC p q){a b:cE}(hp:a.dz=b.dz)(he:a.dz=true->a.cI=b.cI):cC (p.ended a) (q.ended b):=by
 refine(mD p a).trans (cC.trans ?_ (mD q b).symm);refine⟨h.kb,h.side,h.es,h.hs,h.bX,?_⟩;dsimp only;rw[<- hp];split
 ·rename_i t;rw[he t]
 ·exact h.aW
theorem cC.bx (h:cC p q){a b:cE}(hE:a.cP=b.cP)(hx:a.cP=true->a.bB=b.bB)(hp:a.dz=b.dz)(he:a.dz=true->a.cI=b.cI):(p.bx a).2=(q.bx b).2/\cC (p.bx a).1 (q.bx b).1:=by
 unfold PeerM.bx;rw[<- hE];split
 ·rename_i t
  rw[<- hx t,(h.entry a.bB).1];split
  ·exact⟨rfl,h⟩
  ·exact⟨rfl,(h.entry a.bB).2.ended hp he⟩
 ·exact⟨rfl,h.ended hp he⟩
def AR:cL:=⟨[],0,0,false,0,false⟩
def log (kb:ai)(side:Int)(rs:List (ai)):NodeM×Bool:=(NodeM.fresh kb side AR []).records rs
theorem adW (n:NodeM)(j:lI)(b:ai):({ n with j:=j }:NodeM).record b=({ (n.record b).1 with j:=j },(n.record b).2):=by
 unfold NodeM.record;cases b with
 | nil=>rfl
 | cons c r=>
  dsimp only;split
  ·rfl
  split
  ·split<;>rfl
  split
  ·split
   ·rfl
   split<;>rfl
  ·rfl
theorem yG (n:NodeM)(b:ai)(l:List (ai)):n.records (b::l)=if(n.record b).2=true then(n.record b).1.records l else((n.record b).1,false):=rfl
theorem UW (j:lI):∀ (l:List (ai)) (n:NodeM),({ n with j:=j }:NodeM).records l=({ (n.records l).1 with j:=j },(n.records l).2)
 | [],n=>rfl
 | b::l,n=>by
  rw[yG,yG,adW];dsimp only;split
  ·exact UW j l _
  ·rfl
theorem adX (kb:ai)(side:Int)(fs:cL)(rs l:List (ai)):(NodeM.fresh kb side fs rs).records l=({ (log kb side l).1 with j:=⟨fs,false,rs⟩ },(log kb side l).2):=
 UW ⟨fs,false,rs⟩ l (NodeM.fresh kb side AR [])
theorem UX:∀ (l m:List (ai)) (n:NodeM),n.records (l++m)=if(n.records l).2=true then(n.records l).1.records m else n.records l
 | [],m,n=>by simp[NodeM.records]
 | b::l,m,n=>by
  rw[kW,yG,yG]
  by_cases h:(n.record b).2=true
  ·rw[if_pos h,if_pos h,UX l m]
  ·rw[if_neg h,if_neg h];simp
theorem yH {side:Int}{l:List (ai)}{b:ai}(h:(log kb side l).2=true):log kb side (l++[b])=(log kb side l).1.record b:=by
 unfold log at *;rw[UX,if_pos h,yG];generalize((NodeM.fresh kb side AR []).records l).1.record b=r
 by_cases t:r.2=true
 ·rw[if_pos t];exact Prod.ext rfl t.symm
 ·rw[if_neg t];exact Prod.ext rfl (by simpa using t)
theorem UY (n:NodeM)(b:ai):(n.record b).1.kb=n.kb/\(n.record b).1.side=n.side/\(n.record b).1.j=n.j/\(n.record b).1.w=n.w/\(n.record b).1.number=n.number:=by
 unfold NodeM.record;cases b with
 | nil=>exact⟨rfl,rfl,rfl,rfl,rfl⟩
 | cons c r=>
  dsimp only;split
  ·exact⟨rfl,rfl,rfl,rfl,rfl⟩
  split
  ·split<;>exact⟨rfl,rfl,rfl,rfl,rfl⟩
  split
  ·split
   ·exact⟨rfl,rfl,rfl,rfl,rfl⟩
   split<;>exact⟨rfl,rfl,rfl,rfl,rfl⟩
  ·exact⟨rfl,rfl,rfl,rfl,rfl⟩
theorem NZ:∀ (l:List (ai)) (n:NodeM),(n.records l).1.kb=n.kb/\(n.records l).1.side=n.side/\(n.records l).1.j=n.j/\(n.records l).1.w=n.w/\(n.records l).1.number=n.number
 | [],n=>⟨rfl,rfl,rfl,rfl,rfl⟩
 | b::l,n=>by
  rw[yG];obtain⟨a1,a2,a3,a4,a5⟩:=UY n b;split
  ·obtain⟨b1,b2,b3,b4,b5⟩:=NZ l (n.record b).1
   exact⟨b1.trans a1,b2.trans a2,b3.trans a3,b4.trans a4,b5.trans a5⟩
  ·exact⟨a1,a2,a3,a4,a5⟩
theorem pe {m:bu}{b:Int}(h:gT l m b=0):ik m=0:=by
 unfold gT jo at h;split at h
 ·cases h
 split at h
 ·exact h
 ·rename_i t;exact iG.1 t
theorem Jb (n:Int):PeerM.owner n=0\/PeerM.owner n=1:=by unfold PeerM.owner;split<;>simp
theorem UZ {n s:Int}(h:PeerM.owner n=s):n % 2=s:=by
 unfold PeerM.owner at h;split at h<;>omega
def qW (p:PeerM):Prop:=p.aW.2=true->PeerM.owner p.len=p.side/\gT p.bX p.aW.1 p.side=0/\p.es.length<64
structure Fits (p:PeerM)(a:cE):Prop where
 one:a.cP=true->a.dz=false
 own:a.dz=true->PeerM.owner p.len=p.side/\gT p.bX a.cI p.side=0/\p.es.length<64
 bB:a.cP=true->(p.entry a.bB).2=0
 new:a.dz=true->p.aW.2=false/\(p.off.2=true/\a.cI=p.off.1\/p.off.2=false/\a.cI=nB)
 src:a.cP=true->PeerM.owner p.len≠p.side\/p.aW.2=true/\a.bB.1=p.aW.1
theorem om (h1:a.cP=false)(h2:a.dz=false):Fits p a:=⟨λ t=>(by rw[h1] at t;cases t),λ t=>(by rw[h2] at t;cases t),λ t=>(by rw[h1] at t;cases t),λ t=>(by rw[h2] at t;cases t),λ t=>(by rw[h1] at t;cases t)⟩
theorem U0 (m:bu)(ho:PeerM.owner p.len=p.side)(hf:¬ p.full=true)(hp:¬ p.aW.2=true)(hm:p.off.2=true/\m=p.off.1\/p.off.2=false/\m=nB):Fits p (p.fH m):=by
 unfold PeerM.fH;split
 ·exact om rfl rfl
 ·rename_i t
  exact⟨λ t=>(by cases t),λ _=>⟨ho,iG.1 t,by unfold PeerM.full at hf;simpa using hf⟩,λ t=>(by cases t),λ _=>⟨by simpa using hp,hm⟩,λ t=>(by cases t)⟩
theorem AS (p:PeerM):Fits p p.tick:=by
 unfold PeerM.tick;split
 ·exact om rfl rfl
 split
 ·exact om rfl rfl
 rename_i hf;split
 ·exact om rfl rfl
 rename_i hp;split
 ·rename_i t;exact U0 _ t.1 hf hp (.inl ⟨t.2,rfl⟩)
 rename_i ho;split
 ·rename_i t;exact U0 _ t.1 hf hp (.inr ⟨by simpa using λ q=>ho ⟨t.1,q⟩,rfl⟩)
 split
 ·exact om rfl rfl
 ·exact om rfl rfl
theorem Jc {x:dS}(h1:p.es.length<64)(h2:(dF p.kb p.head x).2=0)(h3:x.2=false->gT p.bX x.1 (PeerM.owner p.len)=0):(p.entry x).2=0:=by
 unfold PeerM.entry;rw[if_neg ab,if_neg (λ t=>t h2),if_neg (λ t=>t.2 (h3 t.1))]
theorem Jd (hs:p.side=0\/p.side=1)(hp:qW p)(f:bS):Fits p (p.take f):=by
 unfold PeerM.take;split
 ·exact om rfl rfl
 split
 ·exact om rfl rfl
 split
 ·exact om rfl rfl
 split
 ·unfold PeerM.want;split<;>exact om rfl rfl
 split
 ·unfold PeerM.la
  split
  ·exact om rfl rfl
  split
  ·exact om rfl rfl
  split
  ·exact om rfl rfl
  split
  ·exact om rfl rfl
  ·rename_i h1 h2 h3 h4
   refine⟨λ _=>rfl,λ t=>(by cases t),λ _=>?_,λ t=>(by cases t),λ _=>.inl ?_⟩
   rotate_left
   ·have hl:f.2.2.2.2.1=p.len:=by have:¬ p.len<f.2.2.2.2.1:=λ t=>h3 (.inl t);omega
    rw[<- hl];exact λ t=>h1 (.inl t)
   have hl:f.2.2.2.2.1=p.len:=by have:¬ p.len<f.2.2.2.2.1:=λ t=>h3 (.inl t);omega
   have ho:PeerM.owner p.len=1 - p.side:=by
    have h5:¬ PeerM.owner f.2.2.2.2.1=p.side:=λ t=>h1 (.inl t);rw[hl] at h5
    rcases Jb p.len with t | t<;>omega
   refine Jc ?_ (iG.1 h4) λ t=>?_
   ·have:¬ p.full=true:=λ t=>h3 (.inr t)
    unfold PeerM.full at this;simpa using this
   ·rw[ho]
    dsimp only at t;unfold PeerM.cu at t;rw[Bool.or_eq_false_iff] at t;simpa using t.1
 ·unfold PeerM.mS
  split
  ·exact om rfl rfl
  split
  ·exact om rfl rfl
  split
  ·exact om rfl rfl
  split
  ·exact om rfl rfl
  ·rename_i h1 h2 h3 h4
   refine⟨λ _=>rfl,λ t=>(by cases t),λ _=>?_,λ t=>(by cases t),λ _=>.inr ⟨by simpa using h3,rfl⟩⟩;obtain⟨o1,o2,FH⟩:=hp (by simpa using h3);refine Jc FH (iG.1 λ t=>h4 (.inl t)) λ t=>?_;rw[o1];exact o2
theorem Fits.bx (h:Fits p a):(p.bx a).2=0:=by
 unfold PeerM.bx;split
 ·rename_i t;rw[if_neg (λ q=>q (h.bB t))]
 ·rfl
theorem qW.bx (hp:qW p)(h:Fits p a):qW (p.bx a).1:=by
 have hc:∀ q:PeerM,cC p q->qW q:=λ q s t=>by
  obtain⟨a1,a2,a3⟩:=hp (by rw[s.aW];exact t);rw[<- s.len,<- s.side,<- s.bX,<- s.aW,<- s.es];exact⟨a1,a2,a3⟩
 unfold PeerM.bx;split
 ·rename_i t
  rw[if_neg (λ q=>q (h.bB t))];have e:=mD (p.entry a.bB).1 a;have hP:=h.one t;intro w;rw[e.aW] at w;dsimp only at w;rw[if_neg (by rw[hP];simp)] at w
  exfalso
  have h0:=h.bB t;unfold PeerM.entry at w h0;split at h0
  ·cases h0
  rename_i g1;rw[if_neg g1] at w;split at h0
  ·rename_i q;exact q h0
  rename_i g2;rw[if_neg g2] at w;split at h0
  ·rename_i q;exact q.2 h0
  rename_i g3;rw[if_neg g3] at w;cases w
 ·have e:=mD p a
  intro w;rw[e.aW] at w;rw[e.len,e.side,e.bX,e.aW,e.es];dsimp only at w ⊢;cases hP:a.dz with
  | true=>rw[if_pos rfl];exact h.own hP
  | false=>rw[hP] at w;rw[if_neg bm] at w ⊢;exact hp w
theorem Je (s:cL):(eU s).2=true->(eU s).1.dead=s.dead:=by
 unfold eU;split
 ·intro h;cases h
 ·intro _;rfl
theorem N0 (s:cL)(h:s.lit=false):(eU s).2=true/\(eU s).1.lit=false:=by
 unfold eU;rw[h];exact⟨rfl,rfl⟩
def Holds (s:cL)(rs:List (ai))(y:ai):Prop:=s.b=kP rs++y/\s.synced=((kP rs).length:Int)
theorem FI {j:lI}(hd:j.d=false)(hf:j.fs.dead=false)(hb:Holds j.fs j.rs [])(hx:x.length<=4000):
  ((j.put x).2=0/\(j.put x).1.d=false/\(j.put x).1.rs=j.rs++[x]/\(j.put x).1.fs.dead=false/\Holds (j.put x).1.fs (j.rs++[x]) []) \/
  ((j.put x).2=10/\(j.put x).1.d=false/\(j.put x).1.rs=j.rs/\(j.put x).1.fs=j.fs) \/
  ((j.put x).2=11/\(j.put x).1.d=true/\(j.put x).1.rs=j.rs/\((j.put x).1.fs.b=j.fs.b\/(j.put x).1.fs.b=j.fs.b++eL x)/\(j.put x).1.fs.synced=j.fs.synced):=by
 obtain⟨hb,hs⟩:=hb;rw[dV] at hb;unfold lI.put j8;dsimp only;rw[if_neg (by rw[hd,hf];simp),if_neg ab];obtain⟨e1,e2,e3⟩:=tb j.fs;have hA:gN j.fs (eL x)=if((eL x).length:Int) > j.fs.cK - j.fs.b.length then(j.fs,10) else if(eU j.fs).2 then({ (eU j.fs).1 with b:=j.fs.b++eL x },0) else((eU j.fs).1,11):=by
  unfold gN;rw[if_neg (by rw[hf];simp)]
 by_cases hq:((eL x).length:Int) > j.fs.cK - j.fs.b.length
 ·rw[hA,if_pos hq,if_pos bm]
  exact .inr (.inl ⟨rfl,rfl,rfl,rfl⟩)
 rw[if_neg hq] at hA
 by_cases h1:(eU j.fs).2=true
 ·rw[if_pos h1] at hA
  rw[hA,if_neg (λ t=>t rfl)];generalize iQ:({ (eU j.fs).1 with b:=j.fs.b++eL x }:cL)=s2
  have d2:s2.dead=false:=by rw[<- iQ];exact(Je _ h1).trans hf
  have b2:s2.b=j.fs.b++eL x:=by rw[<- iQ]
  have y2:s2.synced=j.fs.synced:=by rw[<- iQ];exact e3
  obtain⟨g1,g2,g3⟩:=tb s2;have hS:j7 s2=if(eU s2).2 then({ (eU s2).1 with synced:=s2.b.length },0) else((eU s2).1,11):=by unfold j7;rw[if_neg (by rw[d2];simp)]
  by_cases h2:(eU s2).2=true
  ·rw[if_pos h2] at hS
   rw[hS,if_neg (λ t=>t rfl)];refine .inl ⟨rfl,rfl,rfl,(Je _ h2).trans d2,?_,?_⟩
   ·show(eU s2).1.b=_
    rw[g1,b2,hb,I1,dV]
   ·show(s2.b.length:Int)=_
    rw[b2,hb,I1]
  ·rw[if_neg h2] at hS
   rw[hS,if_pos bm];exact .inr (.inr ⟨rfl,rfl,rfl,.inr (g1.trans b2),g3.trans y2⟩)
 ·rw[if_neg h1] at hA
  rw[hA,if_pos bm];exact .inr (.inr ⟨rfl,rfl,rfl,.inl e1,e3⟩)
theorem U1 {L:NodeM}(hc:cC L.p p)(hs:L.side=p.side)(hf:Fits p a)(hb:a.cP=true\/a.dz=true)(h0:(NodeM.fp a).2=0):
  (L.record (NodeM.fp a).1).2=true/\cC (L.record (NodeM.fp a).1).1.p (p.bx a).1/\(L.record (NodeM.fp a).1).1.aY=L.aY:=by
 have uX:=hf.bx;unfold NodeM.fp at h0 ⊢
 by_cases hE:a.cP=true
 ·rw[if_pos hE] at h0 ⊢
  have hP:=hf.one hE;have hk:ik a.bB.1=0:=by rw[<- Dc];exact h0
  unfold NodeM.record;dsimp only;rw[if_neg ar,if_pos rfl,adU hk,if_neg (λ t=>t rfl)];dsimp only;have:=hc.bx (a:={ bq with cP:=true,bB:=a.bB }) (b:=a) hE.symm (λ _=>rfl) hP.symm (λ t=>by cases t)
  refine⟨?_,this.2,rfl⟩;rw[this.1,uX];rfl
 ·rw[if_neg hE] at h0 ⊢
  have hP:a.dz=true:=hb.resolve_left hE;obtain⟨o1,o2,o3⟩:=hf.own hP;have hk:ik a.cI=0:=pe o2;unfold NodeM.record;dsimp only;rw[if_neg ar,if_neg ar,if_pos rfl,UQ hk,if_neg (λ t=>t rfl),if_neg (by rw[hc.len,hs];exact λ t=>t (UZ o1))];have hE':a.cP=false:=by simpa using hE
  have:=hc.bx (a:={ bq with dz:=true,cI:=a.cI }) (b:=a) hE'.symm (λ t=>by cases t) hP.symm (λ _=>rfl)
  exact⟨rfl,this.2,rfl⟩
theorem adY (h0:(NodeM.fp a).2=0):(NodeM.fp a).1.length<=4000:=by
 unfold NodeM.fp at h0 ⊢;split
 ·rename_i t
  rw[if_pos t] at h0;have:=UT (x:=a.bB) (by rw[<- Dc];exact h0);simp only[cY];omega
 ·rename_i t
  rw[if_neg t] at h0;have:=FG (m:=a.cI) (by rw[<- Db];exact h0);simp only[cY];omega
def U2 (n:NodeM)(x:ai):Prop:=
 x.length<=4000/\(log n.kb n.side (n.j.rs++[x])).2=true/\∃ a,Fits n.p a/\(a.cP=true\/a.dz=true)/\mT a/\cC (log n.kb n.side (n.j.rs++[x])).1.p (n.p.bx a).1/\(log n.kb n.side (n.j.rs++[x])).1.aY=n.aY
structure Jf (n:NodeM):Prop where
 ok:(log n.kb n.side n.j.rs).2=true
 p:cC (log n.kb n.side n.j.rs).1.p n.p
 aY:(log n.kb n.side n.j.rs).1.aY=n.aY
 rows:∀ r∈n.j.rs,r.length<=4000
structure Live (n:NodeM):Prop where
 ok:cX n.p
 side:n.p.side=n.side
 kb:n.p.kb=n.kb
 aW:qW n.p
 log:Jf n
 De:n.j.fs.Ok
 live:n.j.d=false->n.j.fs.dead=false/\Holds n.j.fs n.j.rs []
 dead:n.j.d=true->∃ y,Holds n.j.fs n.j.rs y/\(y=[]\/∃ x,y=eL x/\U2 n x)
theorem N1 {s:cL}(h:s.Ok):(eU s).1.Ok:=by
 unfold eU;split<;>exact⟨h.len,h.q0,h.q1,h.s0,h.s1⟩
theorem U3 {s:cL}(h:s.Ok)(d:Bool)(x:ai):(j8 s d x).1.Ok:=by
 have xe:=N1 h;obtain⟨e1,e2,e3⟩:=tb s;have hA:(gN s (eL x)).1.Ok:=by
  unfold gN;split
  ·exact h
  split
  ·exact h
  rename_i hq;split
  ·have h4:=h.s1;have h5:=h.q1
   refine⟨?_,xe.q0,xe.q1,xe.s0,?_⟩
   ·show(s.b++eL x).length<=_
    rw[bU];omega
   ·show(eU s).1.synced<=((s.b++eL x).length:Int)
    rw[e3,bU];omega
  ·exact xe
 have hS:∀ {s:cL},s.Ok->(j7 s).1.Ok:=λ{s} h=>by
  have xe:=N1 h;obtain⟨e1,e2,e3⟩:=tb s;unfold j7;split
  ·exact h
  split
  ·refine⟨xe.len,xe.q0,xe.q1,?_,?_⟩
   ·show(0:Int)<=(s.b.length:Int);omega
   ·show(s.b.length:Int)<=((eU s).1.b.length:Int);rw[e1];exact kC _
  ·exact xe
 unfold j8;split
 ·exact h
 split
 ·exact h
 split
 ·exact hA
 split
 ·exact hS hA
 ·exact hS hA
theorem Jf.snoc {n n':NodeM}(h:Jf n){x:ai}(hk:n'.kb=n.kb)(hs:n'.side=n.side)(hr:n'.j.rs=n.j.rs++[x])(hx:x.length<=4000)(h1:((log n.kb n.side n.j.rs).1.record x).2=true)(h2:cC ((log n.kb n.side n.j.rs).1.record x).1.p n'.p)(h3:((log n.kb n.side n.j.rs).1.record x).1.aY=n'.aY):Jf n':=by
 have e:=yH (b:=x) h.ok;refine⟨?_,?_,?_,?_⟩
 ·rw[hk,hs,hr,e];exact h1
 ·rw[hk,hs,hr,e];exact h2
 ·rw[hk,hs,hr,e];exact h3
 ·rw[hr];intro r hr
  rcases kE.1 hr with hr | hr
  ·exact h.rows r hr
  ·simp at hr;subst hr;exact hx
theorem N2 (kb:ai)(side:Int)(l:List (ai)):(log kb side l).1.kb=kb/\(log kb side l).1.side=side/\(log kb side l).1.number=0:=by
 obtain⟨a,b,c,d,e⟩:=NZ l (NodeM.fresh kb side AR []);exact⟨a,b,e⟩
theorem Live.ao {n:NodeM}(h:Live n)(hd:n.j.d=false){a:cE}(hf:Fits n.p a)(ha:mT a):
  ((n.ao a).2=0/\(n.ao a).1.j.d=false/\(n.ao a).1.p=n.p/\Live { (n.ao a).1 with p:=(n.p.bx a).1 }/\(n.ao a).1.aY=n.aY/\(n.ao a).1.number=n.number/\(n.ao a).1.kb=n.kb/\(n.ao a).1.side=n.side/\(n.ao a).1.w=n.w) \/
  ((n.ao a).2≠0/\(n.ao a).1.p=n.p/\Live (n.ao a).1/\((n.ao a).2=11↔(n.ao a).1.j.d=true)/\(n.ao a).1.aY=n.aY/\(n.ao a).1.number=n.number/\(n.ao a).1.kb=n.kb/\(n.ao a).1.side=n.side/\(n.ao a).1.w=n.w/\((n.ao a).1.j.d=false->(n.ao a).1=n)):=by
 obtain⟨uo,hH⟩:=h.live hd
 by_cases hn:a.cP=false/\a.dz=false
 ·have e:n.ao a=(n,0):=by unfold NodeM.ao;rw[if_pos hn]
  rw[e];refine .inl ⟨rfl,hd,rfl,?_,rfl,rfl,rfl,rfl,rfl⟩;have hc:cC n.p (n.p.bx a).1:=by
   unfold PeerM.bx;rw[if_neg (by rw[hn.1];simp)];refine cC.symm ((mD n.p a).trans ?_);rw[hn.2];exact cC.refl _
  exact⟨h.ok.bx ha.bB ha.cI,hc.side.symm.trans h.side,hc.kb.symm.trans h.kb,h.aW.bx hf,⟨h.log.ok,h.log.p.trans hc,h.log.aY,h.log.rows⟩,h.De,h.live,λ t=>by rw[hd] at t;cases t⟩
 have hb:a.cP=true\/a.dz=true:=by
  cases hE:a.cP
  ·cases hP:a.dz
   ·exact absurd ⟨hE,hP⟩ hn
   ·exact .inr rfl
  ·exact .inl rfl
 have N3:(NodeM.fp a).2=0:=by
  unfold NodeM.fp;split
  ·rename_i t
   have h0:=hf.bB t;show(iz a.bB).2=0;unfold PeerM.entry at h0;split at h0
   ·cases h0
   split at h0
   ·rename_i q;exact absurd h0 q
   rename_i q;have q:=iG.1 q;unfold dF at q;split at q
   ·rename_i r;exact q
   ·rename_i r;exact iG.1 r
  ·rename_i t
   have:=hf.own (hb.resolve_left t);show(dZ a.cI).2=0;rw[Db];exact pe this.2.1
 have hx:=adY N3;have e:n.ao a=({ n with j:=(n.j.put (NodeM.fp a).1).1 },(n.j.put (NodeM.fp a).1).2):=by
  unfold NodeM.ao;rw[if_neg hn,if_neg (λ t=>t N3)]
 obtain⟨lk,ls,ln⟩:=N2 n.kb n.side n.j.rs;have ot:=U1 h.log.p (ls.trans h.side.symm) hf hb N3;have U4:(n.j.put (NodeM.fp a).1).1.fs.Ok:=U3 h.De _ _;have hcs:(n.p.bx a).1.side=n.p.side/\(n.p.bx a).1.kb=n.p.kb:=by
  unfold PeerM.bx;split
  ·split
   ·exact⟨rfl,rfl⟩
   ·have:=mD (n.p.entry a.bB).1 a
    have e2:(n.p.entry a.bB).1.side=n.p.side/\(n.p.entry a.bB).1.kb=n.p.kb:=by
     unfold PeerM.entry;split
     ·exact⟨rfl,rfl⟩
     split
     ·exact⟨rfl,rfl⟩
     split<;>exact⟨rfl,rfl⟩
    exact⟨this.side.trans e2.1,this.kb.trans e2.2⟩
  ·have:=mD n.p a
   exact⟨this.side,this.kb⟩
 rw[e]
 rcases FI hd uo hH hx with⟨c0,c1,c2,c3,c4⟩ | ⟨c0,c1,c2,c3⟩ | ⟨c0,c1,c2,c3,c4⟩
 ·refine .inl ⟨c0,c1,rfl,?_,rfl,rfl,rfl,rfl,rfl⟩
  refine⟨h.ok.bx ha.bB ha.cI,hcs.1.trans h.side,hcs.2.trans h.kb,h.aW.bx hf,?_,U4,λ _=>⟨c3,by rw[<- c2] at c4;exact c4⟩,λ t=>by rw[c1] at t;cases t⟩;exact h.log.snoc rfl rfl c2 hx ot.1 ot.2.1 (ot.2.2.trans h.log.aY)
 ·refine .inr ⟨by rw[c0];decide,rfl,?_,⟨λ t=>(by rw[c0] at t;cases t),λ t=>(by rw[c1] at t;cases t)⟩,rfl,rfl,rfl,rfl,rfl,λ _=>?_⟩
  ·have ej:(n.j.put (NodeM.fp a).1).1=n.j:=by
    generalize(n.j.put (NodeM.fp a).1).1=j' at c1 c2 c3;cases j';simp only at c1 c2 c3;cases xh:n.j;rw[xh] at c2 c3 hd;simp only at c2 c3 hd;rw[c1,c2,c3,hd]
   rw[ej];exact h
  ·have ej:(n.j.put (NodeM.fp a).1).1=n.j:=by
    generalize(n.j.put (NodeM.fp a).1).1=j' at c1 c2 c3;cases j';simp only at c1 c2 c3;cases xh:n.j;rw[xh] at c2 c3 hd;simp only at c2 c3 hd;rw[c1,c2,c3,hd]
   rw[ej]
 ·refine .inr ⟨by rw[c0];decide,rfl,?_,⟨λ _=>c1,λ _=>c0⟩,rfl,rfl,rfl,rfl,rfl,λ t=>by dsimp only at t;rw[c1] at t;cases t⟩
  refine⟨h.ok,h.side,h.kb,h.aW,⟨?_,?_,?_,?_⟩,U4,λ t=>(by rw[c1] at t;cases t),λ _=>?_⟩
  ·dsimp only;rw[c2];exact h.log.ok
  ·dsimp only;rw[c2];exact h.log.p
  ·dsimp only;rw[c2];exact h.log.aY
  ·dsimp only;rw[c2];exact h.log.rows
  ·dsimp only
   obtain⟨aE,ba⟩:=hH;rw[dV] at aE
   rcases c3 with c3 | c3
   ·exact⟨[],⟨by rw[c2,c3,aE,dV],by rw[c2,c4,ba]⟩,.inl rfl⟩
   ·refine⟨eL (NodeM.fp a).1,⟨by rw[c2,c3,aE],by rw[c2,c4,ba]⟩,.inr ⟨_,rfl,hx,?_,a,hf,hb,ha,?_,?_⟩⟩
    ·rw[c2,yH h.log.ok];exact ot.1
    ·rw[c2,yH h.log.ok];exact ot.2.1
    ·rw[c2,yH h.log.ok];exact ot.2.2.trans h.log.aY
theorem Live.adZ {n:NodeM}(h:Live n)(k:Int):Live { n with number:=k }:=⟨h.ok,h.side,h.kb,h.aW,⟨h.log.ok,h.log.p,h.log.aY,h.log.rows⟩,h.De,h.live,λ t=>h.dead t⟩
theorem Live.N4 {n:NodeM}(h:Live n)(w:lY):Live { n with w:=w }:=⟨h.ok,h.side,h.kb,h.aW,⟨h.log.ok,h.log.p,h.log.aY,h.log.rows⟩,h.De,h.live,λ t=>h.dead t⟩
theorem Live.ad0 {n:NodeM}(h:Live n){p:PeerM}(hp:cC n.p p)(ho:eT p.off.1)(hq:n.j.d=false\/p.off=n.p.off):Live { n with p:=p }:=by
 have hpk:qW p:=λ t=>by
  obtain⟨a1,a2,a3⟩:=h.aW (by rw[hp.aW];exact t);rw[<- hp.len,<- hp.side,<- hp.bX,<- hp.aW,<- hp.es];exact⟨a1,a2,a3⟩
 refine⟨⟨?_,?_,?_,?_,?_,?_,ho,?_,?_⟩,hp.side.symm.trans h.side,hp.kb.symm.trans h.kb,hpk,⟨h.log.ok,h.log.p.trans hp,h.log.aY,h.log.rows⟩,h.De,h.live,λ t=>?_⟩
 ·rw[<- hp.kb];exact h.ok.kb
 ·rw[<- hp.side];exact h.ok.side
 ·rw[<- hp.hs,<- hp.es];exact h.ok.hs
 ·rw[<- hp.es];exact h.ok.num
 ·rw[<- hp.hs];exact h.ok.lH
 ·rw[<- hp.es];exact h.ok.es
 ·rw[<- hp.aW];exact h.ok.aW
 ·rw[<- hp.bX];exact h.ok.bX
 ·obtain⟨y,hy,hx⟩:=h.dead t
  have hq:=hq.resolve_left (λ u=>by have t:n.j.d=true:=t;rw[t] at u;cases u);refine⟨y,hy,hx.imp id λ⟨x,q,l,r1,a,hf,hb,ha,r2,r3⟩=>⟨x,q,l,r1,a,?_,hb,ha,?_,r3⟩⟩
  ·refine⟨hf.one,λ t=>?_,λ t=>?_,λ t=>?_,λ t=>?_⟩
   ·have:=hf.own t
    rw[<- hp.len,<- hp.side,<- hp.bX,<- hp.es];exact this
   ·have:=hf.bB t
    rw[<- (hp.entry a.bB).1];exact this
   ·have:=hf.new t
    rw[<- hp.aW,hq];exact this
   ·have:=hf.src t
    rw[<- hp.len,<- hp.side,<- hp.aW];exact this
  ·exact r2.trans (hp.bx rfl (λ _=>rfl) rfl (λ _=>rfl)).2
theorem Live.act {n:NodeM}(h:Live n)(hd:n.j.d=false){a:cE}(hf:Fits n.p a)(ha:mT a):Live (n.act a).1:=by
 unfold NodeM.act
 rcases h.ao hd hf ha with⟨c0,c1,c2,c3,c4,c5,c6,c7,c8⟩ | ⟨c0,c1,c2,c3⟩
 ·rw[if_neg (λ t=>t c0),c2,if_neg (λ t=>t hf.bx)]
  exact Live.adZ c3 _
 ·rw[if_pos c0];exact c2
theorem Live.tick {n:NodeM}(h:Live n):Live n.tick.1:=by
 unfold NodeM.tick NodeM.dead;split
 ·exact h
 ·rename_i hd;exact h.act (by simpa using hd) (AS _) h.ok.tick
theorem Live.offer {n:NodeM}(h:Live n){m:bu}(hm:eT m):Live (n.offer m).1:=by
 unfold NodeM.offer NodeM.dead;split
 ·exact h
 ·rename_i hd
  refine h.ad0 ?_ (h.ok.offer hm).off (.inl (by simpa using hd));unfold PeerM.offer;split
  ·exact cC.refl _
  split
  ·exact cC.refl _
  split
  ·exact cC.refl _
  split
  ·exact cC.refl _
  ·exact⟨rfl,rfl,rfl,rfl,rfl,rfl⟩
theorem ad1 {q:ai}{l:List (ai)}(h:tf bs l q):∀ n,l.length<=n->C0 n bs=(l,q):=by
 induction h with
 | stop h0=>
  intro n _;cases n with
  | zero=>rfl
  | succ n=>unfold C0;rw[h0]
 | next h0 _ ih=>
  intro n hn;cases n with
  | zero=>simp at hn
  | succ n=>
   unfold C0;rw[h0];dsimp only;rw[ih n (by simpa using hn)]
theorem N5 {q:ai}{l:List (ai)}(h:tf bs l q):AO bs=(l,q):=ad1 h _ (by have:=h.len;omega)
theorem N6 {j:lI}(hd:j.d=false)(hf:j.fs.dead=false)(hl:j.fs.lit=false)(hx:x.length<=4000):
  (j.put x).2≠11/\(j.put x).1.fs.lit=false/\(j.put x).1.fs.cK=j.fs.cK/\((j.put x).2=10->j.fs.cK - j.fs.b.length<x.length+3):=by
 obtain⟨e1,e2,e3⟩:=tb j.fs;obtain⟨k1,k2⟩:=N0 _ hl;unfold lI.put j8;dsimp only;rw[if_neg (by rw[hd,hf];simp),if_neg ab];have hA:gN j.fs (eL x)=if((eL x).length:Int) > j.fs.cK - j.fs.b.length then(j.fs,10) else({ (eU j.fs).1 with b:=j.fs.b++eL x },0):=by
  unfold gN;rw[if_neg (by rw[hf];simp),if_pos k1]
 by_cases hq:((eL x).length:Int) > j.fs.cK - j.fs.b.length
 ·rw[hA,if_pos hq,if_pos bm]
  refine⟨by simp,hl,rfl,λ _=>?_⟩;rw[wZ] at hq;omega
 rw[if_neg hq] at hA;rw[hA,if_neg (λ t=>t rfl)];generalize iQ:({ (eU j.fs).1 with b:=j.fs.b++eL x }:cL)=s2
 have d2:s2.dead=false:=by rw[<- iQ];exact(Je _ k1).trans hf
 have l2:s2.lit=false:=by rw[<- iQ];exact k2
 have q2:s2.cK=j.fs.cK:=by rw[<- iQ];exact e2
 obtain⟨g1,g2,g3⟩:=tb s2;obtain⟨m1,m2⟩:=N0 _ l2;have hS:j7 s2=({ (eU s2).1 with synced:=s2.b.length },0):=by unfold j7;rw[if_neg (by rw[d2];simp),if_pos m1]
 rw[hS,if_neg (λ t=>t rfl)];exact⟨by simp,m2,g2.trans q2,λ t=>by cases t⟩
theorem U5:([1]:ai).length<=4000:=ar
theorem ad2 (hk:kb.length=16){side:Int}(hs:side=0\/side=1){s:cL}(ok:s.Ok)(hd:s.dead=false)(hl:s.lit=false){R:List (ai)}{rest:ai}(hP:tf s.b R rest)(ht:s.b.take (s.b.length - rest.length)=kP R)
  (rU:s.synced=(s.b.length:Int)) (hR:∀ r∈R,r.length<=4000) (Jg:(log kb side R).2=true) (kH:cX (log kb side R).1.p) (hp:qW (log kb side R).1.p) (ND:(log kb side R).1.p.side=side/\(log kb side R).1.p.kb=kb) :
  (∃ m,NodeM.open_ kb side s=(m.j.fs,some m,0)/\Live m/\m.kb=kb/\m.side=side/\m.p=(log kb side R).1.p/\m.aY=(log kb side R).1.aY+1/\m.number=0/\m.w=C3/\m.j.rs=R++[[1]]/\m.j.d=false/\m.j.fs.lit=false/\m.j.fs.cK=s.cK) \/
  (∃ s',NodeM.open_ kb side s=(s',none,10)/\s'.cK - s'.b.length<4/\s'.b=kP R/\s'.cK=s.cK):=by
 have U6:rest.length<=s.b.length:=by have:=hP.len;omega
 obtain⟨s1,e1,b1,d1,l1,y1,ok1,q1⟩:∃ s1,oh s=(s1,R,0)/\s1.b=kP R/\s1.dead=false/\s1.lit=false/\s1.synced=((kP R).length:Int)/\s1.Ok/\s1.cK=s.cK:=by
  unfold oh;rw[N5 hP,if_neg (by rw[hd];simp)];dsimp only
  by_cases h0:rest=[]
  ·subst h0
   rw[if_pos rfl];have:s.b=kP R:=by rw[<- ht];simp
   exact⟨s,rfl,this,hd,hl,by rw[rU,this],ok,rfl⟩
  ·rw[if_neg h0]
   have dH:=N0 s hl;obtain⟨g1,g2,g3⟩:=tb s;have hc:oJ s ((s.b.length - rest.length:Nat):Int)=({ (eU s).1 with b:=s.b.take (s.b.length - rest.length),synced:=((s.b.length - rest.length:Nat):Int) },0):=by
    unfold oJ;rw[if_neg (by rw[hd];simp),if_neg ab,if_neg ab,if_pos dH.1];rfl
   rw[hc];have hlen:(kP R).length=s.b.length - rest.length:=by rw[<- ht,ga];omega
   have Df:=N1 ok;refine⟨_,rfl,ht,(Je _ dH.1).trans hd,dH.2,by rw[hlen],?_,g2⟩;have:=ok.len;exact⟨by dsimp only;rw[ht];omega,Df.q0,Df.q1,by dsimp only;omega,by dsimp only;rw[ht];omega⟩
 unfold NodeM.open_;rw[if_neg (by rcases hs with rfl | rfl<;>decide),e1]
 dsimp only;rw[if_neg (λ t=>t rfl),adX,Jg,if_neg bm];obtain⟨lk,ls,ln⟩:=N2 kb side R;have lw:(log kb side R).1.w=C3:=(NZ R (NodeM.fresh kb side AR [])).2.2.2.1;have hH:Holds s1 R []:=⟨by rw[b1,dV],y1⟩;obtain⟨p1,p2,p3,p4⟩:=N6 (j:=⟨s1,false,R⟩) (x:=[1]) rfl d1 l1 U5
 rcases FI (j:=⟨s1,false,R⟩) (x:=[1]) rfl d1 hH U5 with⟨c0,c1,c2,c3,c4⟩ | ⟨c0,c1,c2,c3⟩ | ⟨c0,_⟩
 ·rw[if_neg (λ t=>t c0)]
  refine .inl ⟨{ (log kb side R).1 with j:=(lI.put ⟨s1,false,R⟩ [1]).1,aY:=(log kb side R).1.aY+1 },rfl,?_,lk,ls,rfl,rfl,ln,lw,c2,c1,p2,p3.trans q1⟩
  refine⟨kH,ND.1.trans ls.symm,ND.2.trans lk.symm,hp,?_,U3 ok1 _ _,λ _=>⟨c3,by dsimp only;rw[c2];exact c4⟩,λ t=>by dsimp only at t;rw[c1] at t;cases t⟩;refine⟨?_,?_,?_,?_⟩<;>dsimp only<;>rw[c2]
  ·rw[lk,ls,yH Jg];rfl
  ·rw[lk,ls,yH Jg];exact cC.refl _
  ·rw[lk,ls,yH Jg];rfl
  ·intro r hr
   rcases kE.1 hr with hr | hr
   ·exact hR r hr
   ·simp at hr;subst hr;decide
 ·rw[if_pos (by rw[c0];decide),c0]
  refine .inr ⟨_,rfl,?_⟩;have:=p4 c0;have c3:(lI.put ⟨s1,false,R⟩ [1]).1.fs=s1:=c3;rw[c3];have e:([1]:ai).length=1:=rfl;rw[e] at this;dsimp only at this;exact⟨by omega,b1,q1⟩
 ·exact absurd c0 p1
theorem U7 {n:NodeM}(h:cX n.p)(b:ai):cX (n.record b).1.p/\(n.record b).1.p.side=n.p.side/\(n.record b).1.p.kb=n.p.kb:=by
 have hcs:∀ a:cE,(n.p.bx a).1.side=n.p.side/\(n.p.bx a).1.kb=n.p.kb:=by
  intro a;unfold PeerM.bx;split
  ·split
   ·exact⟨rfl,rfl⟩
   ·have:=mD (n.p.entry a.bB).1 a
    have e2:(n.p.entry a.bB).1.side=n.p.side/\(n.p.entry a.bB).1.kb=n.p.kb:=by
     unfold PeerM.entry;split
     ·exact⟨rfl,rfl⟩
     split
     ·exact⟨rfl,rfl⟩
     split<;>exact⟨rfl,rfl⟩
    exact⟨this.side.trans e2.1,this.kb.trans e2.2⟩
  ·have:=mD n.p a
   exact⟨this.side,this.kb⟩
 unfold NodeM.record;cases b with
 | nil=>exact⟨h,rfl,rfl⟩
 | cons c r=>
  dsimp only;split
  ·exact⟨h,rfl,rfl⟩
  split
  ·split
   ·exact⟨h,rfl,rfl⟩
   ·exact⟨h.bx (UR r) fK,hcs _⟩
  split
  ·split
   ·exact⟨h,rfl,rfl⟩
   split
   ·exact⟨h,rfl,rfl⟩
   ·exact⟨h.bx fK (NX r),hcs _⟩
  ·exact⟨h,rfl,rfl⟩
theorem U8:∀ (l:List (ai)) {n:NodeM},cX n.p->cX (n.records l).1.p/\(n.records l).1.p.side=n.p.side/\(n.records l).1.p.kb=n.p.kb
 | [],n,h=>⟨h,rfl,rfl⟩
 | b::l,n,h=>by
  rw[yG];obtain⟨a1,a2,a3⟩:=U7 h b;split
  ·obtain⟨b1,b2,b3⟩:=U8 l a1
   exact⟨b1,b2.trans a2,b3.trans a3⟩
  ·exact⟨a1,a2,a3⟩
theorem ad3 (hk:kb.length=16){side:Int}(hs:side=0\/side=1)(l:List (ai)):cX (log kb side l).1.p/\(log kb side l).1.p.side=side/\(log kb side l).1.p.kb=kb:=by
 obtain⟨a,b,c⟩:=U8 l (n:=NodeM.fresh kb side AR []) (UJ hk side);refine⟨a,b.trans ?_,c⟩
 rcases hs with rfl | rfl<;>rfl
def qa (f:bS):Prop:=∀ side aY number:Int,(side=0\/side=1)->gF aY=true->gF number=true->pY (side,aY,number,f.2.2.2)=0
theorem AT {kind slot head:Int}{flag:Bool}{m:bu}(hk:1<=kind/\kind<=4)(hs:gF slot=true)(hf:flag=true->kind≠1/\kind≠3)(h1:kind=1->ik m=0)(h2:kind≠1->m=bH):qa (PeerM.fr kind slot head flag m):=by
 intro side aY number a b c;show mz (side,aY,number,kind,slot,head,flag,m.e) (bT m.t).2=0;have e1:qR (side,aY,number,kind,slot,head,flag,m.e)=true:=by
  unfold qR;dsimp only;rw[b,c,hs];rcases a with rfl | rfl<;>rfl
 have e2:yy (side,aY,number,kind,slot,head,flag,m.e)=true:=by
  unfold yy;dsimp only;rw[decide_eq_true hk.1,decide_eq_true hk.2];cases flag with
  | false=>rfl
  | true=>obtain⟨x,y⟩:=hf rfl;simp[x,y]
 unfold mz;rw[if_neg (by rw[e1];simp),if_neg (by rw[e2];simp)]
 by_cases k:kind=1
 ·rw[if_pos (by exact k)];exact h1 k
 ·have hz:wU bH.e=true:=by decide +kernel
  rw[if_neg (by exact k),if_neg];rw[h2 k];show ¬ wU bH.e=false;rw[hz];simp
theorem FJ (h:cX p):gF p.len=true:=by
 have:=h.num;unfold gF PeerM.len;rw[decide_eq_true ab,decide_eq_true ab];rfl
theorem AU {g:bS}(h:qa g):∀ f∈[g],qa f:=λ f hf=>by
 have:f=g:=by simpa using hf
 rw[this];exact h
theorem U9 (h:cX p)(m:bu):∀ f∈(p.fH m).bg,qa f:=by
 unfold PeerM.fH;split
 ·exact λ f hf=>nomatch hf
 ·rename_i t
  exact AU (AT ar (FJ h) (λ t=>by cases t) (λ _=>pe (iG.1 t)) (λ t=>absurd rfl t))
theorem FL (h:cX p)(hp:qW p):∀ f∈p.tick.bg,qa f:=by
 unfold PeerM.tick;split
 ·exact AU (AT ar (FJ h) (λ _=>by decide) (λ t=>by cases t) (λ _=>rfl))
 split
 ·exact λ f hf=>nomatch hf
 split
 ·rename_i t
  exact AU (AT ar (FJ h) (λ t=>by cases t) (λ _=>pe (hp t).2.1) (λ t=>absurd rfl t))
 split
 ·exact U9 h _
 split
 ·exact U9 h _
 split
 ·exact AU (AT ar (FJ h) (λ t=>by cases t) (λ t=>by cases t) (λ _=>rfl))
 ·exact λ f hf=>nomatch hf
theorem N7 (h:cX p)(f:bS):∀ g∈(p.take f).bg,qa g:=by
 unfold PeerM.take;split
 ·exact λ f hf=>nomatch hf
 rename_i hc;have hc:pY f=0:=iG.1 λ t=>hc (.inl t);have jW:0<=f.2.2.2.2.1/\f.2.2.2.2.1<=2147483647:=(CP hc).2.2.2.1;have hcs:gF f.2.2.2.2.1=true:=by unfold gF;rw[decide_eq_true jW.1,decide_eq_true jW.2];rfl
 split
 ·unfold PeerM.lH
  dsimp only;split
  ·exact AU (AT ar (FJ h) (λ t=>by cases t) (λ t=>by cases t) (λ _=>rfl))
  ·exact λ f hf=>nomatch hf
 split
 ·exact λ f hf=>nomatch hf
 split
 ·unfold PeerM.want;split<;>exact λ f hf=>nomatch hf
 split
 ·unfold PeerM.la
  split
  ·exact λ f hf=>nomatch hf
  split
  ·exact AU (AT ar hcs (λ _=>by decide) (λ t=>by cases t) (λ _=>rfl))
  split
  ·exact λ f hf=>nomatch hf
  split
  ·exact λ f hf=>nomatch hf
  ·exact AU (AT ar hcs (λ _=>by decide) (λ t=>by cases t) (λ _=>rfl))
 ·unfold PeerM.mS
  split
  ·exact λ f hf=>nomatch hf
  split
  ·exact λ f hf=>nomatch hf
  split
  ·exact λ f hf=>nomatch hf
  split
  ·exact λ f hf=>nomatch hf
  ·exact λ f hf=>nomatch hf
theorem ad4 {m:bS}(h:pY m=0):(jN kb m).2=0:=by
 have h:mz m.f (bT m.m.t).2=0:=h;have hb:(ku m.f (bT m.m.t).1 (bT m.m.t).2).2=0:=by
  unfold ku;rw[if_neg (λ t=>t h)];split<;>rfl
 unfold jN wV;rw[if_neg (λ t=>t hb)]
theorem FM {m:bS}(h:pY m=0)(hh:0<=m.2.2.2.2.2.1/\m.2.2.2.2.2.1<18446744073709551616):cM kb (jN kb m).1=(m,0):=by
 have h:mz m.f (bT m.m.t).2=0:=h;have hb:(ku m.f (bT m.m.t).1 (bT m.m.t).2).2=0:=by
  unfold ku;rw[if_neg (λ t=>t h)];split<;>rfl
 have e:(jN kb m).1=(mA m).1++jA (qN kb (mA m).1):=by
  unfold jN wV;rw[if_neg (λ t=>t hb)];rfl
 rw[e];exact acu hh (show mA m=((mA m).1,0) from Prod.ext rfl hb)
theorem Va {m:bS}(h:pY m=0):(jN kb m).1.length<=5000:=by
 have h:mz m.f (bT m.m.t).2=0:=h;have hx:(ku m.f (bT m.m.t).1 (bT m.m.t).2).2=0:=by
  unfold ku;rw[if_neg (λ t=>t h)];split<;>rfl
 unfold jN wV;rw[if_neg (λ t=>t hx),bU,sW];unfold ku;rw[if_neg (λ t=>t h)];split
 ·show(sY _).length+8<=5000
  rw[AG];decide
 ·rename_i o0
  have ll:ik m.m=0:=(CP h).2.2.2.2.2.1 (iG.1 o0);have:=FG ll;show(sY _++(dZ m.m).1).length+8<=5000;rw[bU,AG];omega
theorem Dg {n:NodeM}(hf:Fits n.p a):(a.cP=false/\a.dz=false/\n.ao a=(n,0)) \/
  ((a.cP=true\/a.dz=true)/\(NodeM.fp a).2=0/\(NodeM.fp a).1.length<=1217/\n.ao a=({ n with j:=(n.j.put (NodeM.fp a).1).1 },(n.j.put (NodeM.fp a).1).2)):=by
 by_cases hn:a.cP=false/\a.dz=false
 ·exact .inl ⟨hn.1,hn.2,by unfold NodeM.ao;rw[if_pos hn]⟩
 have hb:a.cP=true\/a.dz=true:=by
  cases hE:a.cP
  ·cases hP:a.dz
   ·exact absurd ⟨hE,hP⟩ hn
   ·exact .inr rfl
  ·exact .inl rfl
 have both:(NodeM.fp a).2=0/\(NodeM.fp a).1.length<=1217:=by
  unfold NodeM.fp
  by_cases hE:a.cP=true
  ·rw[if_pos hE]
   have h0:=hf.bB hE;have hk:ik a.bB.1=0:=by
    rw[<- Dc];unfold PeerM.entry at h0;split at h0
    ·cases h0
    split at h0
    ·rename_i q;exact absurd h0 q
    rename_i q;have q:=iG.1 q;unfold dF at q;split at q
    ·exact q
    ·rename_i r;exact iG.1 r
   refine⟨by rw[show((2:UInt8)::(iz a.bB).1,(iz a.bB).2).2=(iz a.bB).2 from rfl,Dc];exact hk,?_⟩;have:=UT hk;simp only[cY];omega
  ·rw[if_neg hE]
   have hk:ik a.cI=0:=pe (hf.own (hb.resolve_left hE)).2.1;refine⟨by rw[show((3:UInt8)::(dZ a.cI).1,(dZ a.cI).2).2=(dZ a.cI).2 from rfl,Db];exact hk,?_⟩;have:=FG hk;simp only[cY];omega
 exact .inr ⟨hb,both.1,both.2,by unfold NodeM.ao;rw[if_neg hn,if_neg (λ t=>t both.1)]⟩
theorem xi {n:NodeM}(a:cE):(n.ao a).1.p=n.p/\(n.ao a).1.kb=n.kb/\(n.ao a).1.side=n.side/\(n.ao a).1.aY=n.aY/\(n.ao a).1.number=n.number/\(n.ao a).1.w=n.w:=by
 unfold NodeM.ao;split
 ·exact⟨rfl,rfl,rfl,rfl,rfl,rfl⟩
 split<;>exact⟨rfl,rfl,rfl,rfl,rfl,rfl⟩
theorem N8 {n:NodeM}(h:Live n)(hf:Fits n.p a)(ha:mT a)(hk:(n.ao a).2=0)(hs:∀ f∈a.bg,qa f)(he:gF n.aY=true)(hn:gF n.number=true):
  n.act a=({ (n.ao a).1 with p:=(n.p.bx a).1,number:=n.number+(a.bg.length:Int) },a.bg.map (λ f=>(jN n.kb (n.side,n.aY,n.number,f.2.2.2)).1),0):=by
 obtain⟨k1,k2,k3,k4,k5,k6⟩:=xi (n:=n) a;have kQ:n.side=0\/n.side=1:=by rw[<- h.side];exact h.ok.side
 unfold NodeM.act;rw[if_neg (λ t=>t hk),k1,if_neg (λ t=>t hf.bx)];have hl:=ha.num
 match je:a.bg with
 | []=>simp[NodeM.lJ]
 | [f]=>
  have hc:=ad4 (kb:=n.kb) (hs f (by rw[je];simp) n.side n.aY n.number kQ he hn);simp[NodeM.lJ,hc]
 | f::g::l=>rw[je] at hl;simp at hl
theorem ad5 (s:cL)(x:ai):((gN s x).1.b=s.b\/(gN s x).1.b=s.b++x)/\(gN s x).1.cK=s.cK:=by
 obtain⟨e1,e2,e3⟩:=tb s;unfold gN;split
 ·exact⟨.inl rfl,rfl⟩
 split
 ·exact⟨.inl rfl,rfl⟩
 split
 ·exact⟨.inr rfl,e2⟩
 ·exact⟨.inl e1,e2⟩
theorem ad6 (s:cL):(j7 s).1.b=s.b/\(j7 s).1.cK=s.cK:=by
 obtain⟨e1,e2,e3⟩:=tb s;unfold j7;split
 ·exact⟨rfl,rfl⟩
 split
 ·exact⟨e1,e2⟩
 ·exact⟨e1,e2⟩
theorem ad7 (j:lI)(x:ai):(j.put x).1.fs.b.length<=j.fs.b.length+(x.length+3)/\(j.put x).1.fs.cK=j.fs.cK:=by
 obtain⟨a1,a2⟩:=ad5 j.fs (eL x);obtain⟨b1,b2⟩:=ad6 (gN j.fs (eL x)).1;have ha:(gN j.fs (eL x)).1.b.length<=j.fs.b.length+(x.length+3):=by
  rcases a1 with t | t
  ·rw[t];omega
  ·rw[t,bU,wZ];omega
 unfold lI.put j8;dsimp only;split
 ·exact⟨by dsimp only;omega,rfl⟩
 split
 ·exact⟨by dsimp only;omega,rfl⟩
 split
 ·exact⟨ha,a2⟩
 split
 ·exact⟨by dsimp only;rw[b1];exact ha,by dsimp only;rw[b2,a2]⟩
 ·exact⟨by dsimp only;rw[b1];exact ha,by dsimp only;rw[b2,a2]⟩
theorem Jh {n:NodeM}(hf:Fits n.p a):(n.ao a).1.j.fs.b.length<=n.j.fs.b.length+1220/\(n.ao a).1.j.fs.cK=n.j.fs.cK/\(a.cP=false->a.dz=false->(n.ao a).1=n)/\(n.ao a).1.j.fs.b.length<=n.j.fs.b.length+((NodeM.fp a).1.length+3):=by
 rcases Dg hf with⟨_,_,e⟩ | ⟨hb,_,hl,e⟩
 ·rw[e];exact⟨by dsimp only;omega,rfl,λ _ _=>rfl,by dsimp only;omega⟩
 ·rw[e]
  have:=ad7 n.j (NodeM.fp a).1;exact⟨by have:=this.1;dsimp only;omega,this.2,λ h1 h2=>by rw[h1,h2] at hb;simp at hb,this.1⟩
theorem Dh (n:NodeM)(a:cE):(n.act a).1.j=(n.ao a).1.j/\(n.act a).1.kb=n.kb/\(n.act a).1.side=n.side/\(n.act a).1.aY=n.aY:=by
 obtain⟨k1,k2,k3,k4,k5,k6⟩:=xi (n:=n) a;unfold NodeM.act;split
 ·exact⟨rfl,k2,k3,k4⟩
 split
 ·exact⟨rfl,k2,k3,k4⟩
 ·exact⟨rfl,k2,k3,k4⟩
theorem ad8 {j:lI}(hd:j.d=false)(hf:j.fs.dead=false)(hl:j.fs.lit=false)(hx:x.length<=4000)(hr:(x.length:Int)+3<=j.fs.cK - j.fs.b.length):
  (j.put x).2=0/\(j.put x).1.d=false/\(j.put x).1.rs=j.rs++[x]/\(j.put x).1.fs.b=j.fs.b++eL x/\(j.put x).1.fs.cK=j.fs.cK/\(j.put x).1.fs.lit=false/\(j.put x).1.fs.dead=false:=by
 obtain⟨a,b,c,d,e,f,g,i⟩:=adm hl hf hx hr;unfold lI.put;rw[hd];exact⟨a,c,by rw[b];rfl,d,e,g,i⟩
theorem ad9 {j:lI}(hd:j.d=false)(hf:j.fs.dead=false)(hx:x.length<=4000)(hr:(x.length:Int)+3 > j.fs.cK - j.fs.b.length):j.put x=(j,10):=by
 have e:=adn hf hx hr;unfold lI.put;rw[hd,e];obtain⟨fs,d,rs⟩:=j;simp only at hd;subst hd;rfl
theorem aea {n:NodeM}(h:Live n)(hd:n.j.d=false)(hl:n.j.fs.lit=false){a:cE}(hf:Fits n.p a){L:Nat}(hL:L=1217\/(NodeM.fp a).1.length<=L)(hr:(n.j.fs.b.length:Int)+L+3<=n.j.fs.cK):(n.ao a).2=0/\(n.ao a).1.j.fs.lit=false/\(n.ao a).1.j.d=false:=by
 rcases Dg hf with⟨_,_,e⟩ | ⟨_,_,hx,e⟩
 ·rw[e];exact⟨rfl,hl,hd⟩
 ·rw[e]
  obtain⟨p1,p2,p3,p4,p5,p6,p7⟩:=ad8 hd (h.live hd).1 hl (x:=(NodeM.fp a).1) ab ab;exact⟨p1,p6,p2⟩
theorem Vb:∀ l:List (ai),3 * l.length<=(kP l).length
 | []=>fj _
 | x::l=>by
  have:=Vb l;show 3 * (l.length+1)<=(eL x++kP l).length;rw[bU,wZ];omega
theorem Live.few {n:NodeM}(h:Live n):n.j.rs.length<=1000000:=by
 obtain⟨y,hy⟩:∃ y,Holds n.j.fs n.j.rs y:=by
  cases hd:n.j.d with
  | false=>exact⟨[],(h.live hd).2⟩
  | true=>obtain⟨y,a,_⟩:=h.dead hd;exact⟨y,a⟩
 have h1:=h.De.len;rw[hy.1,bU] at h1;have:=Vb n.j.rs;omega
theorem cC.eq (h:cC p q)(h1:p.off=q.off)(h2:p.wanted=q.wanted)(h3:p.bD=q.bD)(h4:p.refused=q.refused):p=q:=by
 obtain⟨a1,a2,a3,a4,a5,a6⟩:=h;cases p;cases q;simp only at *;subst a1 a2 a3 a4 a5 a6 h1 h2 h3 h4;rfl
theorem aeb {n:NodeM}(h:Live n)(hd:n.j.d=false):n.j.fs.b=kP n.j.rs:=by
 have:=(h.live hd).2.1;rwa[dV] at this
theorem aec (R:List (ai)):(kP (R++[[1]])).length=(kP R).length+4:=by
 rw[I1,bU,wZ];rfl
theorem Vd (hk:kb.length=16){side:Int}(hs:side=0\/side=1){q:Int}(h4:4<=(iA q).cK):
  ∃ m,NodeM.open_ kb side (iA q)=(m.j.fs,some m,0)/\Live m/\m.kb=kb/\m.side=side/\m.p=j6 kb side/\m.aY=1/\m.number=0/\m.w=C3/\m.j.rs=[[1]]/\m.j.d=false/\m.j.fs.lit=false/\m.j.fs.cK=(iA q).cK/\m.j.fs.b.length=4:=by
 have hP:tf (iA q).b [] []:=.stop (by
  show qT []=none;unfold qT;rw[if_pos bm])
 have e0:(log kb side [])=(NodeM.fresh kb side AR [],true):=rfl;obtain⟨o1,o2,o3⟩:=ad3 hk hs []
 rcases ad2 hk hs (T0 q) rfl rfl hP rfl rfl (λ r hr=>nomatch hr) (by rw[e0]) o1 (by rw[e0];exact λ t=>by cases t) ⟨o2,o3⟩ with⟨m,m1,m2,m3,m4,m5,m6,m7,m8,m9,m10,m11,m12⟩ | ⟨s',_,h,hb,hq⟩
 ·refine⟨m,m1,m2,m3,m4,by rw[m5,e0];rfl,by rw[m6,e0];rfl,m7,m8,m9,m10,m11,m12,?_⟩
  rw[aeb m2 m10,m9,aec];rfl
 ·rw[hq] at h
  have:s'.b.length=0:=by rw[hb];rfl
  omega
def jC (d:Int):bu:=(5,[],[],[],[],d,0,.none)
def qX:bu×Bool:=(bH,false)
def pS (kb:ai)(side:Int)(P O:bu×Bool):PeerM:={ j6 kb side with aW:=P,off:=O }
structure FN (m:bu):Prop where
 N9:∀ s,s=0\/s=1->gT Au m s=0
 len:(dZ m).1.length=9
 same:vi m m=true
 small:eT m
theorem Oa {d:Int}(h1:1<=d)(h2:d<=10000):FN (jC d):=by
 have hc:ik (jC d)=0:=by
  show pN (jC d).e (bT (jC d).t).2=0;have e1:¬ d<0:=ab;have e2:¬ d > 10000:=ab;simp[pN,qB,sI,jC,bu.e,dX,iS,yk,jJ,Tm.v,dI,e1,e2]
 refine⟨λ s hs=>?_,?_,TZ (m:=jC d) (bs:=(dZ (jC d)).1) (Ja hc),⟨show 0<=65535 by decide,show 0<=65535 by decide,show 0<=65535 by decide,show 0<=65535 by decide,show bj .none<=1000000 by decide⟩⟩
 ·unfold gT jo
  rw[if_neg ab,if_neg (λ t=>t hc),if_neg (by intro t;cases t),if_neg (by intro t;cases t),if_neg (by intro t;cases t),if_neg (by intro t;cases t),if_pos (show(jC d).kind=5 from rfl),if_neg (by show ¬ d<=0;omega)]
 ·have h:dZ (jC d)=(UInt8.ofNat ((jC d).e.1 % 256).toNat::(gJ (jC d).e.1).flatMap (gX (jC d).e (bT (jC d).t).1),0):=by
   unfold dZ lA;rw[if_neg (λ t=>t hc)]
  rw[h];have e5:gJ 5=[68]:=by decide +kernel
  show((gJ 5).flatMap (gX (jC d).e (bT (jC d).t).1)).length+1=9;rw[e5];show(dj d++[]).length+1=9;rw[dV,kG]
theorem aed {m:bu}(hm:FN m):(pS kb 0 qX (m,true)).tick={ bq with dz:=true,cI:=m,bg:=[PeerM.fr 1 0 0 false m] }:=by
 have ht:gT Au m 0=0:=hm.N9 0 (.inl rfl);unfold PeerM.tick;rw[if_neg (by intro t;cases t),if_neg (by intro t;cases t),if_neg (by intro t;cases t),if_pos ⟨rfl,rfl⟩];unfold PeerM.fH;rw[if_neg (λ t=>t ht)];rfl
theorem aee {m:bu}(hm:FN m):(pS kb 0 qX (m,true)).bx { bq with dz:=true,cI:=m,bg:=[PeerM.fr 1 0 0 false m] }=(pS kb 0 (m,true) qX,0):=by
 have hs:=hm.same;unfold PeerM.bx;rw[if_neg (by intro t;cases t)];have hd:(pS kb 0 qX (m,true)).oI { bq with dz:=true,cI:=m,bg:=[PeerM.fr 1 0 0 false m] }=true:=by
  show(false||(true&&(true&&vi m m)))=true;rw[hs];rfl
 unfold PeerM.ended;rw[if_pos hd];rfl
theorem aef {m:bu}:(pS kb 0 (m,true) qX).tick={ bq with bg:=[PeerM.fr 1 0 0 false m] }:=by
 unfold PeerM.tick;rw[if_neg (by intro t;cases t),if_neg (by intro t;cases t),if_pos (show(pS kb 0 (m,true) qX).aW.2=true from rfl)];rfl
theorem aeg {m:bu}:(pS kb 1 qX (m,true)).tick={ bq with bg:=[PeerM.fr 3 0 0 false bH] }:=by
 unfold PeerM.tick;rw[if_neg (by intro t;cases t),if_neg (by intro t;cases t),if_neg (by intro t;cases t),if_neg (by rintro⟨t,_⟩;cases t),if_neg (by rintro⟨t,_⟩;cases t),if_pos ⟨(by intro t;cases t),rfl⟩];rfl
theorem Ve {side:Int}{P O:bu×Bool}(l:List bS):(pS kb side P O).bx { bq with bg:=l }=(pS kb side P O,0):=by
 unfold PeerM.bx;rw[if_neg (by intro t;cases t)];rfl
theorem aeh {m:bu}(hm:FN m)(l:List bS):(NodeM.fp { bq with dz:=true,cI:=m,bg:=l }).1.length=10:=by
 show((3:UInt8)::(dZ m).1).length=10;rw[cY,hm.len]
structure AV (Q:Int)(kb:ai)(side i t:Int)(P O:bu×Bool)(n:NodeM):Prop where
 p:n.p=pS kb side P O
 kb:n.kb=kb
 side:n.side=side
 live:Live n
 d:n.j.d=false
 lit:n.j.fs.lit=false
 cK:n.j.fs.cK=Q
 len:(n.j.fs.b.length:Int)<=4 * i+(if P.2=true then 13 else 0)
 aY:n.aY=i
 number:n.number=t
theorem AV.act {Q:Int}{side i t:Int}{P O P' O':bu×Bool}{n:NodeM}(h:AV Q kb side i t P O n)(hi:0<=i/\i<=1000)(ht:0<=t/\t<=1000)(hQ:4 * i+13<=Q){a:cE}(hf:Fits n.p a)(ha:mT a)(hs:∀ f∈a.bg,qa f)
  (hE:a.cP=false) (hP:a.dz=true->P.2=false/\P'.2=true/\(NodeM.fp a).1.length=10) (Oc:a.dz=false->P'.2=P.2) (hc:(n.p.bx a).1=pS kb side P' O') :
  (n.act a).2=(a.bg.map (λ f=>(jN kb (side,i,t,f.2.2.2)).1),0)/\AV Q kb side i (t+(a.bg.length:Int)) P' O' (n.act a).1:=by
 obtain⟨k1,k2,k3,k4,k5,k6⟩:=xi (n:=n) a;have kr:(n.ao a).2=0/\(n.ao a).1.j.fs.lit=false/\(n.ao a).1.j.d=false:=by
  cases hp:a.dz with
  | false=>
   have e:n.ao a=(n,0):=by unfold NodeM.ao;rw[if_pos ⟨hE,hp⟩]
   rw[e];exact⟨rfl,h.lit,h.d⟩
  | true=>
   obtain⟨q1,q2,q3⟩:=hP hp;have hl:=h.len;rw[q1,if_neg bm] at hl;refine aea h.live h.d h.lit hf (L:=10) (.inr ab) ?_;rw[h.cK];omega
 have hcn:gF n.aY=true:=by rw[h.aY];unfold gF;rw[decide_eq_true ab,decide_eq_true ab];rfl
 have uX:gF n.number=true:=by rw[h.number];unfold gF;rw[decide_eq_true ab,decide_eq_true ab];rfl
 have e:=N8 h.live hf ha kr.1 hs hcn uX;have hl:=h.live.act h.d hf ha;rw[e] at hl ⊢;rw[h.kb,h.side,h.aY,h.number];obtain⟨l1,l2,l3,l4⟩:=Jh hf;refine⟨rfl,⟨hc,k2.trans h.kb,k3.trans h.side,by rw[h.number] at hl;exact hl,kr.2.2,kr.2.1,l2.trans h.cK,?_,k4.trans h.aY,rfl⟩⟩;have hl:=h.len;cases hp:a.dz with
 | false=>
  show(((n.ao a).1.j.fs.b.length:Nat):Int)<=_;rw[l3 hE hp,Oc hp];exact hl
 | true=>
  obtain⟨q1,q2,q3⟩:=hP hp;rw[q1,if_neg bm] at hl;show(((n.ao a).1.j.fs.b.length:Nat):Int)<=_;rw[q2,if_pos rfl];omega
def Vf (side:Int)(m:bu)(P O:bu×Bool):Prop:=(side=0/\P=qX/\O=(m,true))\/(side=0/\P=(m,true)/\O=qX)\/(side=1/\P=qX/\O=(m,true))
theorem AV.tick {Q:Int}{side i t:Int}{P O:bu×Bool}{n:NodeM}(h:AV Q kb side i t P O n)(hi:0<=i/\i<=1000)(ht:0<=t/\t<=1000)(hQ:4 * i+13<=Q){m:bu}(hm:FN m)(hw:Vf side m P O):
  ∃ (f:ai) (x:bS) (P' O':bu×Bool),n.tick.2=([f],0)/\cM kb f=(x,0)/\f.length<=5000/\x.1=side/\x.2.1=i/\x.2.2.1=t/\AV Q kb side i (t+1) P' O' n.tick.1/\Vf side m P' O'/\(side=0->P'=(m,true))/\(side=1->P'=qX):=by
 have e:n.tick=n.act n.p.tick:=by unfold NodeM.tick NodeM.dead;rw[if_neg (by rw[h.d];simp)]
 have hf:=AS n.p;have ha:=h.live.ok.tick;have hs:=FL h.live.ok h.live.aW;have AA:gF i=true:=by unfold gF;rw[decide_eq_true ab,decide_eq_true ab];rfl
 have hct:gF t=true:=by unfold gF;rw[decide_eq_true ab,decide_eq_true ab];rfl
 have main:∀ (A:cE) (g:bS) (P' O':bu×Bool),n.p.tick=A->A.bg=[g]->A.cP=false->(A.dz=true->P.2=false/\P'.2=true/\(NodeM.fp A).1.length=10)->(A.dz=false->P'.2=P.2)->(n.p.bx A).1=pS kb side P' O'->(side=0\/side=1)->g.2.2.2.2.2.1=0 ->
   ∃ (f:ai) (x:bS),n.tick.2=([f],0)/\cM kb f=(x,0)/\f.length<=5000/\x.1=side/\x.2.1=i/\x.2.2.1=t/\AV Q kb side i (t+1) P' O' n.tick.1:=by
  intro A g P' O' hA je hE hP Oc hc kQ h0;rw[hA] at hf ha hs;obtain⟨a1,a2⟩:=h.act hi ht hQ hf ha hs hE hP Oc hc;rw[je] at a1 a2;have hg:=hs g (by rw[je];simp) side i t kQ AA hct;rw[e,hA];refine⟨(jN kb (side,i,t,g.2.2.2)).1,(side,i,t,g.2.2.2),a1,FM hg ?_,Va hg,rfl,rfl,rfl,a2⟩;show 0<=g.2.2.2.2.2.1/\g.2.2.2.2.2.1<18446744073709551616;rw[h0];decide
 rcases hw with⟨rfl,rfl,rfl⟩ | ⟨rfl,rfl,rfl⟩ | ⟨rfl,rfl,rfl⟩
 ·obtain⟨f,x,b1,b2,b7,b3,b4,b5,b6⟩:=main _ _ (m,true) qX (by rw[h.p];exact aed hm) rfl rfl (λ _=>⟨rfl,rfl,aeh hm _⟩) (λ t=>by cases t) (by rw[h.p,aee hm]) (.inl rfl) rfl
  exact⟨f,x,_,_,b1,b2,b7,b3,b4,b5,b6,.inr (.inl ⟨rfl,rfl,rfl⟩),λ _=>rfl,λ t=>by cases t⟩
 ·obtain⟨f,x,b1,b2,b7,b3,b4,b5,b6⟩:=main { bq with bg:=[PeerM.fr 1 0 0 false m] } (PeerM.fr 1 0 0 false m) (m,true) qX (by rw[h.p];exact aef) rfl rfl (λ t=>by cases t) (λ _=>rfl) (by rw[h.p,Ve]) (.inl rfl) rfl
  exact⟨f,x,_,_,b1,b2,b7,b3,b4,b5,b6,.inr (.inl ⟨rfl,rfl,rfl⟩),λ _=>rfl,λ t=>by cases t⟩
 ·obtain⟨f,x,b1,b2,b7,b3,b4,b5,b6⟩:=main { bq with bg:=[PeerM.fr 3 0 0 false bH] } (PeerM.fr 3 0 0 false bH) qX (m,true) (by rw[h.p];exact aeg) rfl rfl (λ t=>by cases t) (λ _=>rfl) (by rw[h.p,Ve]) (.inr rfl) rfl
  exact⟨f,x,_,_,b1,b2,b7,b3,b4,b5,b6,.inr (.inr ⟨rfl,rfl,rfl⟩),(λ t=>by cases t),λ _=>rfl⟩
def Vg (n:NodeM)(k:Int):NodeM:={ n with j:={ n.j with fs:=T6 n.j.fs k } }
theorem aei {n:NodeM}(hd:n.j.d=true):n.tick=(n,[],11)/\(∀ b,n.take b=(n,[],11))/\∀ m,n.offer m=(n,11):=by
 refine⟨?_,λ b=>?_,λ m=>?_⟩
 ·unfold NodeM.tick NodeM.dead;rw[if_pos hd]
 ·unfold NodeM.take NodeM.dead;rw[if_pos hd]
 ·unfold NodeM.offer NodeM.dead;rw[if_pos hd]
theorem Od {n:NodeM}(h:Live n)(hd:n.j.d=false)(hf:Fits n.p a)(ha:mT a)(hs:∀ f∈a.bg,qa f)(he:gF n.aY=true)(hn:gF n.number=true):
  ((n.act a).2.2≠0/\(n.act a).2.1=[]/\(n.act a).1.p=n.p/\(n.act a).1.number=n.number) \/
  ((n.act a).2.2=0/\(n.act a).1.p=(n.p.bx a).1/\(n.act a).2.1=a.bg.map (λ f=>(jN n.kb (n.side,n.aY,n.number,f.2.2.2)).1)/\(n.act a).1.number=n.number+(a.bg.length:Int)):=by
 obtain⟨k1,k2,k3,k4,k5,k6⟩:=xi (n:=n) a
 by_cases hk:(n.ao a).2=0
 ·rw[N8 h hf ha hk hs he hn]
  exact .inr ⟨rfl,rfl,rfl,rfl⟩
 ·have e:n.act a=((n.ao a).1,[],(n.ao a).2):=by unfold NodeM.act;rw[if_pos hk]
  rw[e];exact .inl ⟨hk,rfl,k1,k5⟩
theorem aej {n:NodeM}(hf:Fits n.p a):(n.act a).1.j.fs.b.length<=n.j.fs.b.length+1220/\(n.act a).1.j.fs.cK=n.j.fs.cK:=by
 rw[(Dh n a).1];exact⟨(Jh hf).1,(Jh hf).2.1⟩
theorem aek {n:NodeM}(hd:n.j.d=false)(h:(cM n.kb bs).2≠0):n.take bs=(n,[],(cM n.kb bs).2):=by
 unfold NodeM.take NodeM.dead;rw[if_neg (by rw[hd];simp),if_pos h]
theorem ael {n:NodeM}(hd:n.j.d=false)(h:(cM n.kb bs).2=0)(hs:(cM n.kb bs).1.1≠n.side)(hw:n.w.acc (cM n.kb bs).1.2.1 (cM n.kb bs).1.2.2.1=false):n.take bs=(n,[],4):=by
 unfold NodeM.take NodeM.dead;rw[if_neg (by rw[hd];simp),if_neg (λ t=>t h),if_neg hs,if_pos hw]
theorem Vh {n:NodeM}(hd:n.j.d=false)(h:(cM n.kb bs).2=0)(hs:(cM n.kb bs).1.1≠n.side)(hw:n.w.acc (cM n.kb bs).1.2.1 (cM n.kb bs).1.2.2.1=true):
  n.take bs=({ n with w:=n.w.accept (cM n.kb bs).1.2.1 (cM n.kb bs).1.2.2.1 }:NodeM).act (n.p.take (cM n.kb bs).1):=by
 unfold NodeM.take NodeM.dead;rw[if_neg (by rw[hd];simp),if_neg (λ t=>t h),if_neg hs,if_neg (by rw[hw];simp)]
def Oe (p:PeerM)(slot:Int)(said:ai):Prop:=slot<=p.len/\(slot=p.len->p.aW.2=true/\dZ p.aW.1=(said,0))
def FO (p q:PeerM):Prop:=(q.len=p.len\/q.len=p.len+1)/\q.at_ p.len=(p.head,true)
theorem Di (h:cX p):p.at_ p.len=(p.head,true):=by
 have:=h.hs;unfold PeerM.at_ PeerM.len;rw[if_neg ab,iH];rfl
theorem FO.core (h:cX p)(hc:cC p q):FO p q:=⟨.inl hc.len.symm,by rw[<- hc.at_];exact Di h⟩
theorem Vi (h:cX p){x:dS}(hx:(p.entry x).2=0):(p.entry x).1.len=p.len+1/\(p.entry x).1.at_ p.len=(p.head,true):=by
 unfold PeerM.entry at hx ⊢;split at hx
 ·cases hx
 rename_i h1;rw[if_neg h1];split at hx
 ·rename_i t;exact absurd hx t
 rename_i h2;rw[if_neg h2];split at hx
 ·rename_i t;exact absurd hx t.2
 rename_i h3;rw[if_neg h3];have hh:=h.hs;have hp:=Di h;refine⟨by show(((p.es++[x]).length:Nat):Int)=(p.es.length:Int)+1;rw[bU,fZ];omega,?_⟩;unfold PeerM.at_ PeerM.len at hp ⊢;dsimp only;rw[if_neg ab] at hp;rw[if_neg (by rw[bU];omega)];rw[<- hp]
 congr 1
 rw[dB,dB,oV ab]
theorem aem (h:cX p){a:cE}(hf:Fits p a):FO p (p.bx a).1:=by
 unfold PeerM.bx;split
 ·rename_i t
  rw[if_neg (λ q=>q (hf.bB t))];have e:=mD (p.entry a.bB).1 a;obtain⟨g1,g2⟩:=Vi h (hf.bB t);refine⟨.inr (by rw[e.len];exact g1),by rw[e.at_];exact g2⟩
 ·have e:=mD p a
  exact⟨.inl e.len,(e.at_ p.len).trans (show p.at_ p.len=(p.head,true) from Di h)⟩
theorem aen (h:cX p){a:cE}(hf:Fits p a){slot:Int}{said:ai}(hs:Oe p slot said):Oe (p.bx a).1 slot said:=by
 unfold PeerM.bx;split
 ·rename_i t
  rw[if_neg (λ q=>q (hf.bB t))];have e:=mD (p.entry a.bB).1 a;obtain⟨g1,g2⟩:=Vi h (hf.bB t);have hl:((p.entry a.bB).1.ended a).len=p.len+1:=by rw[e.len];exact g1
  exact⟨by rw[hl];have:=hs.1;omega,λ q=>by rw[hl] at q;have:=hs.1;omega⟩
 ·have e:=mD p a
  have hl:(p.ended a).len=p.len:=e.len;refine⟨by rw[hl];exact hs.1,λ q=>?_⟩;rw[hl] at q;obtain⟨s1,s2⟩:=hs.2 q;have hP:a.dz=false:=by
   cases hP:a.dz with
   | false=>rfl
   | true=>have:=(hf.new hP).1;rw[s1] at this;cases this
  have ep:(p.ended a).aW=p.aW:=by
   have:=e.aW;rw[hP] at this;exact this
  rw[ep];exact⟨s1,s2⟩
structure rV (kb:ai)(ep N B slot:Int)(said:ai)(n:NodeM):Prop where
 live:Live n
 kb:n.kb=kb
 side:n.side=0
 aY:n.aY=ep
 number:0<=n.number/\n.number<=N
 cK:n.j.fs.cK=65536
 len:(n.j.fs.b.length:Int)<=B
 said:Oe n.p slot said
theorem rV.mono {ep N B N' B' slot:Int}{said:ai}{n:NodeM}(h:rV kb ep N B slot said n)(hN:N<=N')(hB:B<=B'):rV kb ep N' B' slot said n:=
 ⟨h.live,h.kb,h.side,h.aY,⟨h.number.1,by have:=h.number.2;omega⟩,h.cK,by have:=h.len;omega,h.said⟩
theorem aeo (p:PeerM)(m:bu):cC p (p.offer m).1:=by
 unfold PeerM.offer;split
 ·exact cC.refl _
 split
 ·exact cC.refl _
 split
 ·exact cC.refl _
 split
 ·exact cC.refl _
 ·exact⟨rfl,rfl,rfl,rfl,rfl,rfl⟩
theorem aep (n:NodeM)(m:bu):cC n.p (n.offer m).1.p/\(n.offer m).1.j=n.j/\(n.offer m).1.kb=n.kb/\(n.offer m).1.side=n.side/\(n.offer m).1.aY=n.aY/\(n.offer m).1.number=n.number/\(n.offer m).1.w=n.w:=by
 unfold NodeM.offer;split
 ·exact⟨cC.refl _,rfl,rfl,rfl,rfl,rfl,rfl⟩
 ·exact⟨aeo _ _,rfl,rfl,rfl,rfl,rfl,rfl⟩
theorem rV.counts {ep N B slot:Int}{said:ai}{n:NodeM}(h:rV kb ep N B slot said n)(he:0<=ep/\ep<=1000)(hN:N<=1000):gF n.aY=true/\gF n.number=true:=by
 have:=h.number;rw[h.aY];unfold gF;rw[decide_eq_true ab,decide_eq_true ab,decide_eq_true ab,decide_eq_true ab];exact⟨rfl,rfl⟩
theorem rV.act {ep N B slot:Int}{said:ai}{n:NodeM}(h:rV kb ep N B slot said n)(he:0<=ep/\ep<=1000)(hN:N<=1000)(hd:n.j.d=false){a:cE}(hf:Fits n.p a)(ha:mT a)(hs:∀ f∈a.bg,qa f):
  rV kb ep (N+1) (B+1220) slot said (n.act a).1/\FO n.p (n.act a).1.p/\((n.act a).2.2≠0->(n.act a).1.p=n.p/\(n.act a).2.1=[]) /\
  ((n.act a).2.2=0->(n.act a).1.p=(n.p.bx a).1/\(n.act a).2.1=a.bg.map (λ f=>(jN n.kb (n.side,n.aY,n.number,f.2.2.2)).1)):=by
 obtain⟨c1,c2⟩:=h.counts he hN;obtain⟨j1,j2,j3,j4⟩:=Dh n a;obtain⟨g1,g2⟩:=aej hf;have hl:=h.live.act hd hf ha;have hn:=h.number;have hlen:=h.len;have jW:=ha.num
 rcases Od h.live hd hf ha hs c1 c2 with⟨a1,a2,a3,a4⟩ | ⟨a1,a2,a3,a4⟩
 ·exact⟨⟨hl,j2.trans h.kb,j3.trans h.side,j4.trans h.aY,by rw[a4];omega,g2.trans h.cK,by omega,by rw[a3];exact h.said⟩,by rw[a3];exact FO.core h.live.ok (cC.refl _),λ _=>⟨a3,a2⟩,λ t=>absurd t a1⟩
 ·exact⟨⟨hl,j2.trans h.kb,j3.trans h.side,j4.trans h.aY,by rw[a4];omega,g2.trans h.cK,by omega,by rw[a2];exact aen h.live.ok hf h.said⟩,by rw[a2];exact aem h.live.ok hf,λ t=>absurd a1 t,λ _=>⟨a2,a3⟩⟩
theorem aeq (p:PeerM):p.tick.cP=false:=by
 have hb:∀ m,(p.fH m).cP=false:=λ m=>by unfold PeerM.fH;split<;>rfl
 unfold PeerM.tick;split
 ·rfl
 split
 ·rfl
 split
 ·rfl
 split
 ·exact hb _
 split
 ·exact hb _
 split<;>rfl
theorem aer (hp:qW p):p.tick.bg=[]\/∃ f,p.tick.bg=[f]/\(f.2.2.2.1=1->f.2.2.2.2.1=p.len/\(p.bx p.tick).1.aW=(f.m,true)/\ik f.m=0):=by
 have hb:p.aW.2=false->∀ m,((p.fH m).bg=[]\/∃ f,(p.fH m).bg=[f]/\(f.2.2.2.1=1->f.2.2.2.2.1=p.len/\(p.bx (p.fH m)).1.aW=(f.m,true)/\ik f.m=0)):=by
  intro hpe m;unfold PeerM.fH;split
  ·exact .inl rfl
  ·rename_i t
   refine .inr ⟨_,rfl,λ _=>⟨rfl,?_,pe (iG.1 t)⟩⟩;unfold PeerM.bx;rw[if_neg (by intro t;cases t)];rfl
 unfold PeerM.tick;split
 ·exact .inr ⟨_,rfl,λ t=>by cases t⟩
 split
 ·exact .inl rfl
 split
 ·rename_i t
  refine .inr ⟨_,rfl,λ _=>⟨rfl,?_,pe (hp t).2.1⟩⟩;unfold PeerM.bx;rw[if_neg (by intro t;cases t)];show p.aW=(p.aW.1,true);rw[<- t]
 rename_i hq;have hq:p.aW.2=false:=by simpa using hq
 split
 ·exact hb hq _
 split
 ·exact hb hq _
 split
 ·exact .inr ⟨_,rfl,λ t=>by cases t⟩
 ·exact .inl rfl
theorem aes (hE:a.cP=false):(p.bx a).1.len=p.len/\(p.bx a).1.head=p.head:=by
 unfold PeerM.bx;rw[if_neg (by rw[hE];simp)];have e:=mD p a;exact⟨e.len,e.head⟩
theorem rV.tick {ep N B slot:Int}{said:ai}{n:NodeM}(h:rV kb ep N B slot said n)(he:0<=ep/\ep<=1000)(hN:N<=1000):
  n.tick.1.p.len=n.p.len/\n.tick.1.p.head=n.p.head /\
  ((n.tick.2.1=[]/\rV kb ep (N+1) (B+1220) slot said n.tick.1)\/∃ f x,n.tick.2.1=[f]/\cM kb f=(x,0)/\f.length<=5000/\eT x.m /\
   ((x.2.2.2.1≠1/\rV kb ep (N+1) (B+1220) slot said n.tick.1)\/(x.2.2.2.1=1/\rV kb ep (N+1) (B+1220) x.2.2.2.2.1 (dZ x.m).1 n.tick.1))):=by
 by_cases hd:n.j.d=true
 ·rw[(aei hd).1]
  exact⟨rfl,rfl,.inl ⟨rfl,h.mono ab ab⟩⟩
 have hd:n.j.d=false:=by simpa using hd
 have e:n.tick=n.act n.p.tick:=by unfold NodeM.tick NodeM.dead;rw[if_neg (by rw[hd];simp)]
 have hf:=AS n.p;have ha:=h.live.ok.tick;have hs:=FL h.live.ok h.live.aW;obtain⟨k1,k2,k3,k4⟩:=h.act he hN hd hf ha hs;rw[e];obtain⟨c1,c2⟩:=h.counts he hN
 by_cases h0:(n.act n.p.tick).2.2=0
 ·obtain⟨q1,q2⟩:=k4 h0
  obtain⟨l1,l2⟩:=aes (p:=n.p) (aeq n.p);refine⟨by rw[q1];exact l1,by rw[q1];exact l2,?_⟩
  rcases aer h.live.aW with je | ⟨f,je,Hk⟩
  ·rw[q2,je];exact .inl ⟨rfl,k1⟩
  ·right
   have hg:=hs f (by rw[je];simp) n.side n.aY n.number (.inl h.side) c1 c2;have Ez:=ha.bg f (by rw[je];simp);refine⟨(jN n.kb (n.side,n.aY,n.number,f.2.2.2)).1,(n.side,n.aY,n.number,f.2.2.2),by rw[q2,je];rfl,by rw[<- h.kb];exact FM hg Ez.2,?_,Ez.1,?_⟩
   ·have qV:mz (bS.f (n.side,n.aY,n.number,f.2.2.2)) (bT (bS.m (n.side,n.aY,n.number,f.2.2.2)).t).2=0:=hg
    have hx:(ku (bS.f (n.side,n.aY,n.number,f.2.2.2)) (bT (bS.m (n.side,n.aY,n.number,f.2.2.2)).t).1 (bT (bS.m (n.side,n.aY,n.number,f.2.2.2)).t).2).2=0:=by
     unfold ku;rw[if_neg (λ t=>t qV)];split<;>rfl
    unfold jN wV;rw[if_neg (λ t=>t hx),bU,sW];unfold ku;rw[if_neg (λ t=>t qV)];split
    ·show(sY _).length+8<=5000
     rw[AG];decide
    ·rename_i o0
     have ll:ik f.m=0:=(Hk (iG.1 o0)).2.2;have:=FG ll;show(sY _++(dZ f.m).1).length+8<=5000;rw[bU,AG];omega
   ·by_cases o0:f.2.2.2.1=1
    ·obtain⟨p1,p2,p3⟩:=Hk o0
     refine .inr ⟨o0,⟨k1.live,k1.kb,k1.side,k1.aY,k1.number,k1.cK,k1.len,?_,λ _=>?_⟩⟩
     ·rw[q1,l1];show f.2.2.2.2.1<=n.p.len;rw[p1];exact kC _
     ·rw[q1,p2];exact⟨rfl,Ja p3⟩
    ·exact .inl ⟨o0,k1⟩
 ·obtain⟨q1,q2⟩:=k3 h0
  exact⟨by rw[q1],by rw[q1],.inl ⟨q2,k1⟩⟩
structure kR where
 n:NodeM
 down:Bool
structure DuoM where
 kb:ai
 l:kR
 r:kR
 said:List (Int×ai)
variable {d:DuoM}
namespace DuoM
def side (d:DuoM)(s:Int):kR:=if s=0 then d.l else d.r
def put (d:DuoM)(s:Int)(p:kR):DuoM:=if s=0 then{ d with l:=p } else{ d with r:=p }
def live (d:DuoM)(s:Int):Int:=if s≠0/\s≠1 then 1 else if(d.side s).down=true then 11 else 0
def offer (d:DuoM)(s:Int)(m:bu):DuoM×Int:=
 if d.live s≠0 then(d,d.live s) else(d.put s ⟨((d.side s).n.offer m).1,false⟩,((d.side s).n.offer m).2)
def refuse (d:DuoM)(s k:Int):DuoM:=if d.live s≠0 then d else d.put s ⟨(d.side s).n.refuse k,false⟩
def heard (d:DuoM)(s:Int)(r:NodeM×List (ai)×Int):DuoM×Int:=({ d.put s ⟨r.1,false⟩ with said:=d.said++r.2.1.map λ b=>(1 - s,b) },r.2.2)
def tick (d:DuoM)(s:Int):DuoM×Int:=if d.live s≠0 then(d,d.live s) else d.heard s (d.side s).n.tick
def lp (d:DuoM)(s:Int)(b:ai):DuoM×Int:=if d.live s≠0 then(d,d.live s) else d.heard s ((d.side s).n.take b)
def dy (d:DuoM)(i:Int):DuoM×Int:=
 if i<0\/(d.said.length:Int)<=i then(d,3) else d.lp (d.said.getD i.toNat (0,[])).1 (d.said.getD i.toNat (0,[])).2
def lh (d:DuoM)(s k:Int):DuoM:=if s≠0/\s≠1 then d else d.put s ⟨Vg (d.side s).n k,(d.side s).down⟩
def uk (p:kR)(fs:cL):NodeM:={ p.n with j:={ p.n.j with fs:=fs } }
def yI (d:DuoM)(s ao sp:Int):DuoM×Int:=
 if s≠0/\s≠1 then(d,1) else
 match NodeM.open_ d.kb s (CS (d.side s).n.j.fs ao sp) with
 | (_,some m,c)=>(d.put s ⟨m,false⟩,c)
 | (fs,none,c)=>(d.put s ⟨uk (d.side s) fs,true⟩,c)
def dead (d:DuoM)(s:Int):Bool:=(decide (s=0)||decide (s=1))&&((d.side s).down||(d.side s).n.dead)
def fC:Nat->DuoM->Int->DuoM
 | 0,d,_=>d
 | f+1,d,i=>if i<(d.said.length:Int) then fC f (d.dy i).1 (i+1) else d
def round (d:DuoM):DuoM×Int:=
 let e:=fC 8 ((d.tick 0).1.tick 1).1 d.said.length
 (e,if e.dead 0=true\/e.dead 1=true then 11 else 0)
end DuoM
def rW (kb:ai)(q:Int):Option DuoM×Int:=
 match NodeM.open_ kb 0 (iA q) with
 | (_,some m,_)=>(match NodeM.open_ kb 1 (iA q) with
  | (_,some k,_)=>(some ⟨kb,⟨m,false⟩,⟨k,false⟩,[]⟩,0)
  | (_,none,c)=>(none,c))
 | (_,none,c)=>(none,c)
def Dj (kb:ai)(es:List dS):Int:=es.foldl (λ h x=>(dF kb h x).1) 0
def Ji (s:fE×Int)(x:dS):fE×Int:=(if x.2=true then s.1 else(jo s.1 x.1 (PeerM.owner s.2)).1,s.2+1)
def Dk (es:List dS):fE×Int:=es.foldl Ji (Au,0)
theorem Jj (kb:ai)(es:List dS)(x:dS):Dj kb (es++[x])=(dF kb (Dj kb es) x).1:=by
 unfold Dj;rw[sF];rfl
theorem aet (es:List dS)(x:dS):Dk (es++[x])=Ji (Dk es) x:=by
 unfold Dk;rw[sF];rfl
theorem Vj:∀ (es:List dS) (s:fE×Int),(es.foldl Ji s).2=s.2+es.length
 | [],s=>by simp
 | x::l,s=>by
  rw[lO,Vj l,cY];show s.2+1+_=_;omega
theorem aeu (es:List dS):(Dk es).2=es.length:=by
 unfold Dk;rw[Vj];simp
structure Sound (p:PeerM):Prop where
 hs:p.hs=(List.range (p.es.length+1)).map λ i=>Dj p.kb (p.es.take i)
 bX:p.bX=(Dk p.es).1
theorem Sound.at_ (h:Sound p){n:Int}(h0:0<=n)(h1:n<=p.len):p.at_ n=(Dj p.kb (p.es.take n.toNat),true):=by
 have hl:p.hs.length=p.es.length+1:=by rw[h.hs,eI,List.length_range]
 unfold PeerM.len at h1;have hn:n.toNat<p.es.length+1:=ab;unfold PeerM.at_;rw[if_neg ab,dB,h.hs,ig,List.getElem?_range hn];rfl
theorem Sound.head (h:Sound p):p.head=Dj p.kb p.es:=by
 unfold PeerM.head;rw[dB,h.hs,ig,List.getElem?_range (Nat.lt_succ_self _)];simp
theorem Sound.same (h:Sound p)(h1:p.kb=q.kb)(h2:p.es=q.es)(h3:p.hs=q.hs)(h4:p.bX=q.bX):Sound q:=
 ⟨by rw[<- h3,<- h2,<- h1];exact h.hs,by rw[<- h4,<- h2];exact h.bX⟩
theorem Sound.core (h:Sound p)(c:cC p q):Sound q:=h.same c.kb c.es c.hs c.bX
theorem Sound.ended (h:Sound p)(a:cE):Sound (p.ended a):=
 h.same (mD p a).symm.kb (mD p a).symm.es (mD p a).symm.hs (mD p a).symm.bX
theorem Vk (kb:ai)(side:Int):Sound (j6 kb side):=⟨rfl,rfl⟩
theorem AW {x:dS}(hx:(p.entry x).2=0):(p.entry x).1={ p with es:=p.es++[x],hs:=p.hs++[(dF p.kb p.head x).1],bX:=if x.2=true then p.bX else(jo p.bX x.1 (PeerM.owner p.len)).1,aW:=(bH,false),wanted:=false }:=by
 unfold PeerM.entry at hx ⊢;split at hx
 ·cases hx
 rename_i h1;rw[if_neg h1];split at hx
 ·rename_i t;exact absurd hx t
 rename_i h2;rw[if_neg h2];split at hx
 ·rename_i t;exact absurd hx t.2
 rename_i h3;rw[if_neg h3]
theorem Sound.entry (h:Sound p){x:dS}(hx:(p.entry x).2=0):Sound (p.entry x).1:=by
 rw[AW hx];refine⟨?_,?_⟩
 ·dsimp only
  rw[bU,fZ,List.range_succ,jG,List.map_singleton,h.head,h.hs]
  congr 1
  ·apply BX
   intro i hi;rw[List.mem_range] at hi;rw[Eg ab]
  ·rw[gV bm,Jj]
 ·dsimp only
  rw[aet];unfold Ji;rw[aeu,<- h.bX];rfl
theorem Sound.bx (h:Sound p)(a:cE):Sound (p.bx a).1:=by
 unfold PeerM.bx;split
 ·split
  ·exact h
  ·rename_i t
   exact(h.entry (iG.1 t)).ended a
 ·exact h.ended a
structure xj (a b:PeerM):Prop where
 es:∃ r,b.es=a.es++[(a.aW.1,r)]
 aW:a.aW.2=true
 own:PeerM.owner a.len=a.side
def Twins (a b:PeerM):Prop:=a.es=b.es\/xj a b\/xj b a
theorem Twins.symm {a b:PeerM}(h:Twins a b):Twins b a:=by
 rcases h with h | h | h
 ·exact .inl h.symm
 ·exact .inr (.inr h)
 ·exact .inr (.inl h)
theorem xj.core {a b a' b':PeerM}(h:xj a b)(ha:cC a a')(hb:cC b b'):xj a' b':=
 ⟨by rw[<- ha.es,<- hb.es,<- ha.aW];exact h.es,by rw[<- ha.aW];exact h.aW,by rw[<- ha.len,<- ha.side];exact h.own⟩
theorem Twins.core {a b a' b':PeerM}(h:Twins a b)(ha:cC a a')(hb:cC b b'):Twins a' b':=by
 rcases h with h | h | h
 ·exact .inl (by rw[<- ha.es,<- hb.es];exact h)
 ·exact .inr (.inl (h.core ha hb))
 ·exact .inr (.inr (h.core hb ha))
theorem xj.len {a b:PeerM}(h:xj a b):b.len=a.len+1:=by
 obtain⟨r,e⟩:=h.es;unfold PeerM.len;rw[e,bU,fZ];omega
theorem Twins.len {a b:PeerM}(h:Twins a b):b.len<=a.len+1/\a.len<=b.len+1:=by
 rcases h with h | h | h
 ·unfold PeerM.len;rw[h];omega
 ·have:=h.len;omega
 ·have:=h.len;omega
theorem Twins.take {a b:PeerM}(h:Twins a b){n:Nat}(h1:(n:Int)<=a.len)(h2:(n:Int)<=b.len):a.es.take n=b.es.take n:=by
 unfold PeerM.len at h1 h2
 rcases h with h | ⟨⟨r,e⟩,-,-⟩ | ⟨⟨r,e⟩,-,-⟩
 ·rw[h]
 ·rw[e,Eg ab]
 ·rw[e,Eg ab]
theorem Twins.at_ {a b:PeerM}(h:Twins a b)(sa:Sound a)(sb:Sound b)(hk:a.kb=b.kb){n:Int}(h0:0<=n)(h1:n<=a.len)(h2:n<=b.len):a.at_ n=b.at_ n:=by
 rw[sa.at_ h0 h1,sb.at_ h0 h2,hk,h.take ab ab]
structure pg (a:PeerM)(f:bS):Prop where
 slot:0<=f.2.2.2.2.1/\f.2.2.2.2.1<=a.len
 prop:f.2.2.2.1=1->PeerM.owner f.2.2.2.2.1=a.side/\a.at_ f.2.2.2.2.1=(f.2.2.2.2.2.1,true) /\
  (f.2.2.2.2.1=a.len/\a.aW=(f.m,true)\/∃ r,a.es[f.2.2.2.2.1.toNat]? = some (f.m,r))
 dec:f.2.2.2.1=2->PeerM.owner f.2.2.2.2.1≠a.side/\f.2.2.2.2.1<a.len/\a.at_ (f.2.2.2.2.1+1)=(f.2.2.2.2.2.1,true)/\∃ m,a.es[f.2.2.2.2.1.toNat]? = some (m,f.2.2.2.2.2.2.1)
 rest:f.2.2.2.1≠1->f.2.2.2.1≠2->a.at_ f.2.2.2.2.1=(f.2.2.2.2.2.1,true)
theorem pg.core {a b:PeerM}{f:bS}(h:pg a f)(c:cC a b):pg b f:=
 ⟨by rw[<- c.len];exact h.slot,λ t=>by rw[<- c.len,<- c.side,<- c.at_,<- c.aW,<- c.es];exact h.prop t,λ t=>by rw[<- c.len,<- c.side,<- c.at_,<- c.es];exact h.dec t,λ t u=>by rw[<- c.at_];exact h.rest t u⟩
theorem FP (hf:Fits p a):if a.cP=true then cC (p.bx a).1 (p.entry a.bB).1 else cC (p.bx a).1 { p with aW:=if a.dz=true then(a.cI,true) else p.aW }:=by
 unfold PeerM.bx
 by_cases t:a.cP=true
 ·rw[if_pos t,if_pos t,if_neg (λ q=>q (hf.bB t))]
  have e:=mD (p.entry a.bB).1 a;rw[hf.one t] at e;exact e
 ·rw[if_neg t,if_neg t]
  exact mD p a
theorem pg.bx {f:bS}(h:pg p f)(s:Sound p){a:cE}(hf:Fits p a):pg (p.bx a).1 f:=by
 have hc:=FP hf
 by_cases t:a.cP=true
 ·rw[if_pos t] at hc
  refine pg.core ?_ hc.symm;have hs:=s.entry (hf.bB t);have he:=AW (hf.bB t);have jt:(p.entry a.bB).1.es=p.es++[a.bB]:=by rw[he]
  have kQ:(p.entry a.bB).1.side=p.side:=by rw[he]
  have FQ:(p.entry a.bB).1.kb=p.kb:=by rw[he]
  have Of:(p.entry a.bB).1.len=p.len+1:=by unfold PeerM.len;rw[jt,bU,fZ];omega
  have FR:∀ n,0<=n->n<=p.len->(p.entry a.bB).1.at_ n=p.at_ n:=λ n h0 h1=>by
   rw[hs.at_ h0 ab,s.at_ h0 h1,jt,FQ,Eg (by unfold PeerM.len at h1;omega)]
  have hg:∀ {n:Int} {y},n<p.len->0<=n->p.es[n.toNat]? = some y->(p.entry a.bB).1.es[n.toNat]? = some y:=λ h1 h0 hy=>by
   rw[jt,oV (by unfold PeerM.len at h1;omega)];exact hy
  obtain⟨s0,s1⟩:=h.slot;refine⟨⟨s0,by omega⟩,λ k=>?_,λ k=>?_,λ k u=>?_⟩
  ·obtain⟨a1,a2,a3⟩:=h.prop k
   refine⟨by rw[kQ];exact a1,by rw[FR _ s0 s1];exact a2,.inr ?_⟩
   rcases a3 with⟨b1,b2⟩ | ⟨r,b⟩
   ·rcases hf.src t with c | ⟨c1,c2⟩
    ·rw[b1] at a1;exact absurd a1 c
    ·refine⟨a.bB.2,?_⟩
     rw[jt,b1,qw (by unfold PeerM.len;omega)];have:a.bB=(f.m,a.bB.2):=Prod.ext (c2.trans (by rw[b2])) rfl;unfold PeerM.len;simp only[iH,Nat.sub_self,List.getElem?_cons_zero];exact congrArg some this
   ·refine⟨r,?_⟩
    by_cases q:f.2.2.2.2.1<p.len
    ·exact hg q s0 b
    ·rw[BW (by unfold PeerM.len at q;omega)] at b;cases b
  ·obtain⟨a1,a2,a3,m,a4⟩:=h.dec k
   exact⟨by rw[kQ];exact a1,by omega,by rw[FR _ ab ab];exact a3,m,hg a2 s0 a4⟩
  ·rw[FR _ s0 s1];exact h.rest k u
 ·rw[if_neg t] at hc
  refine pg.core ?_ hc.symm;refine⟨h.slot,λ k=>?_,h.dec,h.rest⟩;obtain⟨a1,a2,a3⟩:=h.prop k;refine⟨a1,a2,?_⟩
  rcases a3 with⟨b1,b2⟩ | b
  ·refine .inl ⟨b1,?_⟩
   by_cases q:a.dz=true
   ·have:=(hf.new q).1;rw[b2] at this;cases this
   ·dsimp only;rw[if_neg q];exact b2
  ·exact .inr b
theorem aev (h:cX p){n:Int}(hn:p.len<n):p.at_ n=(0,false):=by
 have:=h.hs;unfold PeerM.len at hn;unfold PeerM.at_;rw[if_pos (.inr ab)]
theorem Og {a b:PeerM}(ob:cX b)(sa:Sound a)(sb:Sound b)(hk:a.kb=b.kb)(ht:Twins a b){n h:Int}(h0:0<=n)(h1:n<=a.len)(ha:a.at_ n=(h,true)):b.kN n h=false:=by
 unfold PeerM.kN;have:=ht.len;rw[decide_eq_false ab,Bool.or_false]
 by_cases q:n<=b.len
 ·rw[<- ht.at_ sa sb hk h0 h1 q,ha];simp
 ·rw[aev ob ab];rfl
theorem Vl (h1:a.cP=false)(h2:a.dz=false):cC p (p.bx a).1:=by
 unfold PeerM.bx;rw[if_neg (by rw[h1];exact xM)];have e:=mD p a;rw[h2] at e;exact e.symm
theorem Vm (h:cX p){k:Int}(hk:k≠1/\k≠2)(fl:Bool)(m:bu):pg p (p.fG k fl m):=
 ⟨⟨Int.natCast_nonneg _,kC _⟩,λ t=>absurd t hk.1,λ t=>absurd t hk.2,λ _ _=>Di h⟩
structure Dl (a b:PeerM)(x:cE):Prop where
 bD:x.bD=false
 twins:Twins a (b.bx x).1
 bg:∀ g∈x.bg,pg (b.bx x).1 g
theorem vp {a b:PeerM}(ht:Twins a b){x:cE}(h1:x.cP=false)(h2:x.dz=false)(h3:x.bD=false)(h4:∀ g∈x.bg,pg b g):Dl a b x:=
 ⟨h3,ht.core ⟨rfl,rfl,rfl,rfl,rfl,rfl⟩ (Vl h1 h2),λ g hg=>(h4 g hg).core (Vl h1 h2)⟩
theorem aew {a b:PeerM}(ob:cX b)(sa:Sound a)(sb:Sound b)(hk:a.kb=b.kb)(hs:a.side=1 - b.side)(ht:Twins a b)(pb:qW b)(hq:b.bD=false){f:bS}(FU:1<=f.2.2.2.1/\f.2.2.2.1<=4)(hf:pg a f):Dl a b (b.take f):=by
 have mU:=Jd ob.side pb f;obtain⟨s0,s1⟩:=hf.slot;have hl:=ht.len;have T9:=ob.side;have none:∀ {x:cE},x=bq->Dl a b x:=λ h=>by
  subst h;exact vp ht rfl rfl rfl (λ g hg=>nomatch hg)
 unfold PeerM.take at mU ⊢;split
 ·exact none rfl
 rename_i hc;rw[if_neg hc] at mU;split
 ·rename_i k4
  have dH:=Og ob sa sb hk ht s0 s1 (hf.rest ab ab);refine vp ht rfl rfl (by unfold PeerM.lH;dsimp only;exact dH) λ g hg=>?_;unfold PeerM.lH at hg;dsimp only at hg;split at hg
  ·rw[nR.1 hg];exact Vm ob ⟨by decide,by decide⟩ _ _
  ·cases hg
 rename_i k4;rw[if_neg k4,if_neg (by rw[hq];exact xM)] at mU;rw[if_neg (by rw[hq];exact xM)];split
 ·rename_i k3
  have dH:=Og ob sa sb hk ht s0 s1 (hf.rest ab ab);unfold PeerM.want;rw[if_neg (by rw[dH];exact xM)];exact vp ht rfl rfl rfl (λ g hg=>nomatch hg)
 rename_i k3;rw[if_neg k3] at mU;split
 ·rename_i k1
  rw[if_pos k1] at mU;obtain⟨a1,a2,a3⟩:=hf.prop k1;have dH:=Og ob sa sb hk ht s0 s1 a2;have Dm:¬ (PeerM.owner f.2.2.2.2.1=b.side\/b.kN f.2.2.2.2.1 f.2.2.2.2.2.1=true):=by
   rw[dH,a1,hs];rintro(t | t)
   ·omega
   ·cases t
  unfold PeerM.la at mU ⊢;rw[if_neg Dm] at mU ⊢;split
  ·rename_i c
   refine vp ht rfl rfl rfl λ g hg=>?_;rw[nR.1 hg];refine⟨⟨s0,Int.le_of_lt c⟩,λ t=>absurd t (by decide:(2:Int)≠1),λ _=>⟨λ t=>Dm (.inl t),c,?_,?_⟩,λ _ t=>absurd rfl t⟩
   ·show b.at_ (f.2.2.2.2.1+1)=((b.at_ (f.2.2.2.2.1+1)).1,true)
    rw[sb.at_ ab ab]
   ·refine⟨(b.es.getD f.2.2.2.2.1.toNat (bH,false)).1,?_⟩
    show b.es[f.2.2.2.2.1.toNat]? = some (_,(b.es.getD f.2.2.2.2.1.toNat (bH,false)).2);rw[dB];have:f.2.2.2.2.1.toNat<b.es.length:=by unfold PeerM.len at c;omega
    rw[cV this];rfl
  rename_i c;rw[if_neg c] at mU;split
  ·exact none rfl
  rename_i c2;rw[if_neg c2] at mU;split
  ·exact none rfl
  rename_i c3;rw[if_neg c3] at mU;have hn:f.2.2.2.2.1=b.len:=by
   have:¬ b.len<f.2.2.2.2.1:=λ t=>c2 (.inl t);omega
  have hE:(b.entry (f.m,b.cu f.m)).2=0:=mU.bB rfl;have sN:=FP mU;rw[if_pos rfl] at sN;have he:=AW hE;have jt:(b.entry (f.m,b.cu f.m)).1.es=b.es++[(f.m,b.cu f.m)]:=by rw[he]
  refine⟨rfl,Twins.core ?_ ⟨rfl,rfl,rfl,rfl,rfl,rfl⟩ sN.symm,λ g hg=>?_⟩
  ·rcases a3 with⟨b1,b2⟩ | ⟨r,hr⟩
   ·have ES:a.es=b.es:=by
     have e1:=ht.take (n:=b.es.length) (by unfold PeerM.len at hn b1 ⊢;omega) (by unfold PeerM.len;omega);rw[gV (eR _),gV (by unfold PeerM.len at hn b1;omega)] at e1;exact e1
    refine .inr (.inl ⟨⟨b.cu f.m,by rw[jt,ES,b2]⟩,by rw[b2],by rw[<- b1];exact a1⟩)
   ·have bI:f.2.2.2.2.1<a.len:=by
     by_cases q:f.2.2.2.2.1<a.len
     ·exact q
     ·rw[BW (by unfold PeerM.len at q;omega)] at hr;cases hr
    rcases ht with t | t | t
    ·unfold PeerM.len at hn bI;rw[t] at bI;omega
    ·have:=t.len;omega
    ·have:=t.own
     rw[<- hn,a1,hs] at this;omega
  ·rw[nR.1 hg]
   refine pg.core ?_ sN.symm;have iQ:=sb.entry hE;have Of:(b.entry (f.m,b.cu f.m)).1.len=b.len+1:=by unfold PeerM.len;rw[jt,bU,fZ];omega
   have FQ:(b.entry (f.m,b.cu f.m)).1.kb=b.kb:=by rw[he]
   have kQ:(b.entry (f.m,b.cu f.m)).1.side=b.side:=by rw[he]
   refine⟨⟨s0,by rw[Of];show f.2.2.2.2.1<=_;omega⟩,λ t=>absurd t (by decide:(2:Int)≠1),λ _=>⟨λ t=>Dm (.inl (by rw[kQ] at t;exact t)),?_,?_,f.m,?_⟩,λ _ t=>absurd rfl t⟩
   ·rw[Of];show f.2.2.2.2.1<_;omega
   ·show(b.entry (f.m,b.cu f.m)).1.at_ (f.2.2.2.2.1+1)=((dF b.kb b.head (f.m,b.cu f.m)).1,true)
    rw[iQ.at_ ab ab,jt,FQ,gV (by rw[bU,fZ];unfold PeerM.len at hn;omega),Jj,sb.head]
   ·show(b.entry (f.m,b.cu f.m)).1.es[f.2.2.2.2.1.toNat]? = some (f.m,b.cu f.m)
    rw[jt,hn,qw (by unfold PeerM.len;omega)];unfold PeerM.len;simp
 ·rename_i k1
  rw[if_neg k1] at mU;obtain⟨a1,a2,a3,m,a4⟩:=hf.dec ab;have Dm:¬ (PeerM.owner f.2.2.2.2.1≠b.side\/b.len<f.2.2.2.2.1):=by
   rintro(t | t)
   ·have:=Jb f.2.2.2.2.1
    rw[hs] at a1;omega
   ·omega
  unfold PeerM.mS at mU ⊢;rw[if_neg Dm] at mU ⊢;split
  ·rename_i c
   refine vp ht rfl rfl ?_ (λ g hg=>nomatch hg);dsimp only;rw[<- ht.at_ sa sb hk ab ab ab,a3];simp
  rename_i c;rw[if_neg c] at mU;have hn:f.2.2.2.2.1=b.len:=by
   have:¬ b.len<f.2.2.2.2.1:=λ t=>Dm (.inr t);omega
  obtain⟨⟨r,e⟩,hp,-⟩:xj b a:=by
   rcases ht with t | t | t
   ·unfold PeerM.len at hn a2;rw[t] at a2;omega
   ·have:=t.len;omega
   ·exact t
  have hm:(m,f.2.2.2.2.2.2.1)=(b.aW.1,r):=by
   rw[e,hn,qw (by unfold PeerM.len;omega)] at a4;unfold PeerM.len at a4;simp at a4;exact Prod.ext a4.1.symm a4.2.symm
  have hr:f.2.2.2.2.2.2.1=r:=congrArg Prod.snd hm;rw[if_neg (by rw[hp];exact Bool.noConfusion)] at mU ⊢;have mv:¬ ((dF b.kb b.head (b.aW.1,f.2.2.2.2.2.2.1)).2≠0\/(dF b.kb b.head (b.aW.1,f.2.2.2.2.2.2.1)).1≠f.2.2.2.2.2.1):=by
   have ll:ik b.aW.1=0:=pe (pb hp).2.1;have h0:(iz (b.aW.1,f.2.2.2.2.2.2.1)).2=0:=by rw[Dc];exact ll
   have h1:(dF b.kb b.head (b.aW.1,f.2.2.2.2.2.2.1)).2=0:=by unfold dF;rw[if_neg (λ t=>t h0)]
   have h2:(dF b.kb b.head (b.aW.1,f.2.2.2.2.2.2.1)).1=f.2.2.2.2.2.1:=by
    have:=sa.at_ (n:=f.2.2.2.2.1+1) ab ab;rw[a3,e,gV (by rw[bU,fZ];unfold PeerM.len at hn;omega),Jj,hk,<- sb.head,<- hr] at this;exact(congrArg Prod.fst this).symm
   rintro(t | t)
   ·exact t h1
   ·exact t h2
  rw[if_neg mv] at mU ⊢;have sN:=FP mU;rw[if_pos rfl] at sN;have he:=AW (mU.bB rfl);have jt:(b.entry (b.aW.1,f.2.2.2.2.2.2.1)).1.es=b.es++[(b.aW.1,f.2.2.2.2.2.2.1)]:=by rw[he]
  refine⟨rfl,Twins.core (.inl ?_) ⟨rfl,rfl,rfl,rfl,rfl,rfl⟩ sN.symm,λ g hg=>nomatch hg⟩;rw[jt,e,hr]
theorem Vn {a b:PeerM}(ob:cX b)(ht:Twins a b)(m:bu)(oM:Fits b (b.fH m)):Dl a b (b.fH m):=by
 unfold PeerM.fH at oM ⊢;split
 ·exact vp ht rfl rfl rfl (λ g hg=>nomatch hg)
 rename_i c;rw[if_neg c] at oM;have sN:cC (b.bx { bq with dz:=true,cI:=m,bg:=[b.fG 1 false m] }).1 { b with aW:=(m,true) }:=FP oM
 have hn:=(oM.new rfl).1;refine⟨rfl,Twins.core ?_ ⟨rfl,rfl,rfl,rfl,rfl,rfl⟩ sN.symm,λ g hg=>?_⟩
 ·rcases ht with t | t | t
  ·exact .inl t
  ·exact .inr (.inl ⟨t.es,t.aW,t.own⟩)
  ·have:=t.aW;rw[hn] at this;cases this
 ·rw[nR.1 hg]
  refine pg.core ?_ sN.symm;exact⟨⟨Int.natCast_nonneg _,kC _⟩,λ _=>⟨(oM.own rfl).1,show b.at_ b.len=_ from Di ob,.inl ⟨rfl,rfl⟩⟩,λ t=>absurd t (by decide:(1:Int)≠2),λ t=>absurd rfl t⟩
theorem aex {a b:PeerM}(ob:cX b)(ht:Twins a b)(pb:qW b)(hq:b.bD=false):Dl a b b.tick:=by
 have oM:=AS b;unfold PeerM.tick at oM ⊢;rw[if_neg (by rw[hq];exact xM)] at oM ⊢;split
 ·exact vp ht rfl rfl rfl (λ g hg=>nomatch hg)
 rename_i c1;rw[if_neg c1] at oM;split
 ·rename_i c2
  refine vp ht rfl rfl rfl λ g hg=>?_;rw[nR.1 hg];refine⟨⟨Int.natCast_nonneg _,kC _⟩,λ _=>⟨(pb c2).1,Di ob,.inl ⟨rfl,?_⟩⟩,λ t=>absurd t (by decide:(1:Int)≠2),λ t=>absurd rfl t⟩;exact Prod.ext rfl c2
 rename_i c2;rw[if_neg c2] at oM;split
 ·rename_i c3
  rw[if_pos c3] at oM;exact Vn ob ht _ oM
 rename_i c3;rw[if_neg c3] at oM;split
 ·rename_i c4
  rw[if_pos c4] at oM;exact Vn ob ht _ oM
 rename_i c4;split
 ·refine vp ht rfl rfl rfl λ g hg=>?_
  rw[nR.1 hg];exact Vm ob ⟨by decide,by decide⟩ _ _
 ·exact vp ht rfl rfl rfl (λ g hg=>nomatch hg)
def tg (n:NodeM)(q:PeerM):Prop:=cC n.p q\/n.j.d=true/\∃ x,x.length<=4000/\Holds n.j.fs n.j.rs (eL x)/\U2 n x/\cC (log n.kb n.side (n.j.rs++[x])).1.p q
theorem aey {y:ai}(hx:x.length<=4000)(hy:y.length<=4000)(h:eL x=eL y):x=y:=by
 have a:=Ux [] hx;have b:=Ux [] hy;rw[h] at a;rw[a] at b;exact(congrArg Prod.fst (Option.some.inj b))
theorem tg.live {n:NodeM}(hd:n.j.d=false){q:PeerM}(h:tg n q):cC n.p q:=by
 rcases h with h | ⟨t,-⟩
 ·exact h
 ·rw[hd] at t;cases t
theorem aez {n:NodeM}(h:Live n)(hd:n.j.d=false){a:cE}(hf:Fits n.p a)(ha:mT a){q:PeerM}(hq:tg (n.ao a).1 q):cC n.p q\/cC (n.p.bx a).1 q:=by
 obtain⟨k1,k2,k3,k4,k5,k6⟩:=xi (n:=n) a
 rcases hq with hq | ⟨hD,x,hx,hH,hN,hq⟩
 ·rw[k1] at hq;exact .inl hq
 rcases Dg hf with⟨-,-,e⟩ | ⟨hb,h0,hl,e⟩
 ·rw[e] at hD;rw[hd] at hD;cases hD
 rw[e] at hD hH hq;dsimp only at hD hH hq;obtain⟨uo,Vo⟩:=h.live hd;have Vp:(NodeM.fp a).1.length<=4000:=ab
 rcases FI hd uo Vo Vp with⟨c0,c1,-⟩ | ⟨c0,c1,-⟩ | ⟨c0,c1,c2,c3,c4⟩
 ·rw[c1] at hD;cases hD
 ·rw[c1] at hD;cases hD
 obtain⟨aE,ba⟩:=Vo;rw[dV] at aE;have FV:=hH.1;rw[c2] at FV hq;have hxx:x=(NodeM.fp a).1:=by
  rcases c3 with c3 | c3
  ·rw[c3,aE] at FV
   have:=congrArg List.length FV;rw[bU,wZ] at this;omega
  ·rw[c3,aE] at FV
   exact aey hx Vp (List.append_cancel_left FV).symm
 obtain⟨lk,ls,ln⟩:=N2 n.kb n.side n.j.rs;have ot:=U1 h.log.p (ls.trans h.side.symm) hf hb h0;rw[hxx,yH h.log.ok] at hq;exact .inr (ot.2.1.symm.trans hq)
structure aeA (kb:ai)(side:Int)(s:cL):Prop where
 ok:s.Ok
 room:s.cK - s.b.length<4
 rows:∃ R,s.b=kP R/\s.synced=((kP R).length:Int)/\(∀ r∈R,r.length<=4000)/\(log kb side R).2=true/\qW (log kb side R).1.p
theorem Vq {f:bS}(h:cM kb bs=(f,0)):pY f=0:=by
 unfold cM at h;split at h
 ·cases congrArg Prod.snd h
 split at h
 ·cases congrArg Prod.snd h
 split at h
 ·cases congrArg Prod.snd h
 split at h
 ·cases congrArg Prod.snd h
 rename_i t;have e:jB (jq bs)=f:=congrArg Prod.fst h;rw[e] at t;have t2:(mA f).2=0:=vU λ q=>t (.inl q);show mz f.f (bT f.m.t).2=0;unfold mA ku at t2;split at t2
 ·rename_i q;exact absurd t2 q
 ·rename_i q;exact iG.1 q
theorem Jk:ik nB=0:=aA
theorem Vr (l:fE){b:Int}(hb:b=0\/b=1):jo l nB b=(l,0):=by
 unfold jo;rw[if_neg ab,if_neg (by rw[Jk];simp)];rfl
theorem aeB:(dZ nB).1.length=1:=aA
theorem tg.of {n n':NodeM}(hj:n'.j.d=n.j.d/\n'.j.rs=n.j.rs/\n'.j.fs.b=n.j.fs.b/\n'.j.fs.synced=n.j.fs.synced)(hk:n'.kb=n.kb)(hs:n'.side=n.side)(he:n'.aY=n.aY)(hp:cC n.p n'.p)(ho:n.j.d=false\/n'.p.off=n.p.off){q:PeerM}(hq:tg n' q):tg n q:=by
 rcases hq with hq | ⟨h1,x,h2,h3,h4,hq⟩
 ·exact .inl (hp.trans hq)
 ·have h1:=hj.1.symm.trans h1
  have ho:=ho.resolve_left (λ t=>by rw[h1] at t;cases t);obtain⟨l,r1,a,hf,hb,ha,r2,r3⟩:=h4;rw[hk,hs,hj.2.1] at hq r1 r2 r3;rw[he] at r3;refine .inr ⟨h1,x,h2,⟨by rw[<- hj.2.2.1,<- hj.2.1];exact h3.1,by rw[<- hj.2.2.2,<- hj.2.1];exact h3.2⟩,⟨l,r1,a,?_,hb,ha,?_,r3⟩,hq⟩
  ·refine⟨hf.one,λ t=>?_,λ t=>?_,λ t=>?_,λ t=>?_⟩
   ·rw[hp.len,hp.side,hp.bX,hp.es];exact hf.own t
   ·rw[(hp.entry a.bB).1];exact hf.bB t
   ·rw[hp.aW,<- ho];exact hf.new t
   ·rw[hp.len,hp.side,hp.aW];exact hf.src t
  ·exact r2.trans (hp.bx rfl (λ _=>rfl) rfl (λ _=>rfl)).2.symm
def gu (p:kR)(q:PeerM):Prop:=if p.down=true then cC p.n.p q else tg p.n q
theorem gu.up {p:kR}(h:p.down=false){q:PeerM}:gu p q↔tg p.n q:=by
 unfold gu;rw[if_neg (by rw[h];exact xM)]
theorem gu.self (p:kR):gu p p.n.p:=by
 unfold gu;split
 ·exact cC.refl _
 ·exact .inl (cC.refl _)
structure Below (w:lY)(ep nu:Int):Prop where
 lt:w.e<ep\/(w.e=ep/\w.h<nu)
 top:∀ m,w.s m=true->m<=w.h
theorem Vs {ep nu:Int}(h:0<=ep):Below C3 ep nu:=⟨.inl (by show(-1:Int)<ep;omega),λ m t=>nomatch t⟩
theorem Below.mono {w:lY}{ep nu vq Dn:Int}(h:Below w ep nu)(hl:ep<vq\/(ep=vq/\nu<=Dn)):Below w vq Dn:=⟨by rcases h.lt with a | a<;>rcases hl with b | b<;>omega,h.top⟩
theorem Below.fresh {w:lY}{ep nu:Int}(h:Below w ep nu)(h0:0<=ep)(h1:0<=nu):w.acc ep nu=true:=by
 unfold lY.acc lj;rw[if_neg (by rcases h.lt with a | a<;>omega)]
 split
 ·rfl
 ·rename_i c
  have hh:w.e=ep/\w.h<nu:=by rcases h.lt with a | a;exact absurd a c;exact a
  have:w.s nu=false:=by
   cases hs:w.s nu with
   | false=>rfl
   | true=>have:=h.top nu hs;omega
  rw[this,decide_eq_true ab];rfl
theorem Below.accept {w:lY}{ep nu vq Dn:Int}(h:Below w ep nu)(hl:vq<ep\/(vq=ep/\Dn<nu)):Below (w.accept vq Dn) ep nu:=by
 unfold lY.accept;cases ha:w.acc vq Dn with
 | false=>exact⟨by simp only[vj,qS];exact h.lt,λ m t=>by simp only[vk,qS] at t ⊢;exact h.top m t⟩
 | true=>
  have bI:=h.lt;have hle:w.e<=vq:=by
   unfold lY.acc lj at ha;split at ha
   ·cases ha
   ·omega
  refine⟨?_,λ m t=>?_⟩
  ·simp only[vj,qS,if_true]
   split<;>(try split)<;>omega
  ·simp only[vk,qS,if_true] at t ⊢
   by_cases c:w.e<vq
   ·rw[if_pos c] at t ⊢
    have:=beq_iff_eq.1 t;omega
   ·rw[if_neg c] at t ⊢
    rcases Bool.or_eq_true _ _ ▸ t with t | t
    ·have:=h.top m t
     split<;>omega
    ·have:=beq_iff_eq.1 t
     split<;>omega
theorem AX (d:DuoM){s:Int}(hs:s=0\/s=1)(p:kR):(d.put s p).side s=p:=by
 rcases hs with rfl | rfl<;>rfl
theorem AY (d:DuoM){s:Int}(hs:s=0\/s=1)(p:kR):(d.put s p).side (1 - s)=d.side (1 - s):=by
 rcases hs with rfl | rfl<;>rfl
theorem aeC (d:DuoM){s:Int}(hs:s=0\/s=1):d.put s (d.side s)=d:=by
 rcases hs with rfl | rfl<;>rfl
theorem vr (d:DuoM)(s:Int)(p:kR):(d.put s p).kb=d.kb/\(d.put s p).said=d.said:=by
 unfold DuoM.put;split<;>exact⟨rfl,rfl⟩
theorem iP {s:Int}(hs:s=0\/s=1):1 - s=0\/1 - s=1:=ab
theorem qc {s t:Int}(hs:s=0\/s=1)(ht:t=0\/t=1):t=s\/t=1 - s:=ab
structure Dp (E:Int)(kb:ai)(s:Int)(p:kR)(said:Int):Prop where
 uq:p.n.kb=kb
 ur:p.n.side=s
 ok:cX p.n.p
 Jl:p.n.p.kb=kb
 FW:p.n.p.side=s
 up:p.down=false->Live p.n
 dn:p.down=true->aeA kb s p.n.j.fs
 sound:∀ q,gu p q->Sound q/\q.kb=kb/\q.side=s
 calm:p.n.p.bD=false
 ep:1<=p.n.aY/\p.n.aY<=E
 nu:0<=p.n.number/\p.n.number<=said
structure Jm (kb:ai)(x:Int×ai)(p:kR)(f:bS):Prop where
 open_ : cM kb x.2 = (f, 0)
 src:f.1=1 - x.1
 kind:1<=f.2.2.2.1/\f.2.2.2.1<=4
 lt:f.2.1<p.n.aY\/(f.2.1=p.n.aY/\f.2.2.1<p.n.number)
 Dq:∀ q,gu p q->pg q f
structure dK (E:Int)(d:DuoM):Prop where
 kb:d.kb.length=16
 side:∀ s,s=0\/s=1->Dp E d.kb s (d.side s) d.said.length
 twins:∀ a b,gu (d.side 0) a->gu (d.side 1) b->Twins a b
 win:∀ s,s=0\/s=1->Below (d.side s).n.w (d.side (1 - s)).n.aY (d.side (1 - s)).n.number
 said:∀ x∈d.said,(x.1=0\/x.1=1)/\∃ f,Jm d.kb x (d.side (1 - x.1)) f
theorem dK.pair (h:dK E d){s:Int}(hs:s=0\/s=1){a b:PeerM}(ha:gu (d.side (1 - s)) a)(hb:gu (d.side s) b):Twins a b:=by
 rcases hs with rfl | rfl
 ·exact(h.twins b a hb ha).symm
 ·exact h.twins a b ha hb
theorem dK.put {E':Int}(h:dK E d)(hE:E<=E'){s:Int}(hs:s=0\/s=1){p:kR}{new:List (Int×ai)}
  (h1:Dp E' d.kb s p ((d.said++new).length:Nat)) (h2:∀ a b,gu (d.side (1 - s)) a->gu p b->Twins a b)
  (h3:Below p.n.w (d.side (1 - s)).n.aY (d.side (1 - s)).n.number) (h4:Below (d.side (1 - s)).n.w p.n.aY p.n.number)
  (h5:∀ f x,Jm d.kb x (d.side s) f->x∈d.said->Jm d.kb x p f) (h6:∀ x∈new,x.1=1 - s/\∃ f,Jm d.kb x p f):dK E' { d.put s p with said:=d.said++new }:=by
 have ho:=iP hs;have e1:({ d.put s p with said:=d.said++new }:DuoM).side s=p:=AX d hs p
 have e2:({ d.put s p with said:=d.said++new }:DuoM).side (1 - s)=d.side (1 - s):=AY d hs p
 have e3:({ d.put s p with said:=d.said++new }:DuoM).kb=d.kb:=(vr d s p).1
 have e4:1 - (1 - s)=s:=ab;refine⟨by rw[e3];exact h.kb,λ t ht=>?_,?_,λ t ht=>?_,λ x hx=>?_⟩
 ·rw[e3]
  rcases qc hs ht with rfl | rfl
  ·rw[e1];exact h1
  ·rw[e2]
   have t:=h.side (1 - s) ho;have hn:=t.nu;exact⟨t.uq,t.ur,t.ok,t.Jl,t.FW,t.up,t.dn,t.sound,t.calm,⟨t.ep.1,Int.le_trans t.ep.2 hE⟩,hn.1,Int.le_trans hn.2 (by show(d.said.length:Int)<=((d.said++new).length:Nat);rw[bU];omega)⟩
 ·intro a b ha hb
  rcases hs with rfl | rfl
  ·rw[e1] at ha
   exact(h2 b a (by rw[<- e2];exact hb) ha).symm
  ·rw[e1] at hb
   exact h2 a b (by rw[<- e2];exact ha) hb
 ·rcases qc hs ht with rfl | rfl
  ·rw[e1,e2];exact h3
  ·rw[e4,e1,e2];exact h4
 ·rw[e3]
  rcases kE.1 hx with hx | hx
  ·obtain⟨q,f,hf⟩:=h.said x hx
   refine⟨q,f,?_⟩
   rcases qc hs q with t | t
   ·rw[t,e2];rw[t] at hf;exact hf
   ·rw[t,e4,e1];rw[t,e4] at hf;exact h5 f x hf hx
  ·obtain⟨q,f,hf⟩:=h6 x hx
   exact⟨by rw[q];exact ho,f,by rw[q,e4,e1];exact hf⟩
theorem Dr {n:Int}(h:0<=n/\n<=1000000):gF n=true:=by
 unfold gF;rw[decide_eq_true h.1,decide_eq_true ab];rfl
theorem Vt {n:NodeM}(h:Live n)(hd:n.j.d=false)(hf:Fits n.p a)(ha:mT a)(hs:∀ f∈a.bg,qa f)(he:gF n.aY=true)(hn:gF n.number=true):
  ((n.act a).2.2≠0/\(n.act a).2.1=[]/\(n.act a).1.p=n.p/\(n.act a).1.number=n.number/\∀ q,tg (n.act a).1 q->cC n.p q\/cC (n.p.bx a).1 q) \/
  ((n.act a).2.2=0/\(n.act a).1.p=(n.p.bx a).1/\(n.act a).2.1=a.bg.map (λ f=>(jN n.kb (n.side,n.aY,n.number,f.2.2.2)).1)/\(n.act a).1.number=n.number+(a.bg.length:Int)/\(n.act a).1.j.d=false/\∀ q,tg (n.act a).1 q->cC (n.p.bx a).1 q):=by
 obtain⟨k1,k2,k3,k4,k5,k6⟩:=xi (n:=n) a;obtain⟨j1,j2,j3,j4⟩:=Dh n a
 rcases Od h hd hf ha hs he hn with⟨a1,a2,a3,a4⟩ | ⟨a1,a2,a3,a4⟩
 ·refine .inl ⟨a1,a2,a3,a4,λ q hq=>?_⟩
  refine aez h hd hf ha (tg.of ⟨by rw[j1],by rw[j1],by rw[j1],by rw[j1]⟩ (j2.trans k2.symm) (j3.trans k3.symm) (j4.trans k4.symm) ?_ (.inr ?_) hq)
  ·rw[a3,k1];exact cC.refl _
  ·rw[a3,k1]
 ·have zu:(n.act a).1.j.d=false:=by
   rw[j1]
   rcases h.ao hd hf ha with⟨-,c1,-⟩ | ⟨c0,-⟩
   ·exact c1
   ·exfalso
    have:n.act a=((n.ao a).1,[],(n.ao a).2):=by unfold NodeM.act;rw[if_pos c0]
    rw[this] at a1;exact c0 a1
  refine .inr ⟨a1,a2,a3,a4,zu,λ q hq=>?_⟩;rw[<- a2];exact hq.live zu
theorem aeD (hq:p.bD=false)(hf:Fits p a)(h:a.bD=false):(p.bx a).1.bD=false:=by
 unfold PeerM.bx;split
 ·rename_i t
  rw[if_neg (λ q=>q (hf.bB t))];show(((p.entry a.bB).1.bD||a.bD)&&!a.calm)=false;have e:(p.entry a.bB).1.bD=p.bD:=by rw[AW (hf.bB t)]
  rw[e,hq,h];rfl
 ·show((p.bD||a.bD)&&!a.calm)=false
  rw[hq,h];rfl
theorem dK.act (h:dK E d)(hE:E<=1000000)(hM:d.said.length<=1000000){s:Int}(hs:s=0\/s=1)(hu:(d.side s).down=false)(hd:(d.side s).n.j.d=false){w:lY}
  (hw:Below w (d.side (1 - s)).n.aY (d.side (1 - s)).n.number) {a:cE} (hf:Fits (d.side s).n.p a) (ha:mT a) (je:∀ f∈a.bg,qa f) (hh:∀ q,gu (d.side (1 - s)) q->Dl q (d.side s).n.p a) :
  dK E (d.heard s (({ (d.side s).n with w:=w }:NodeM).act a)).1:=by
 have S:=h.side s hs;have hL:Live ({ (d.side s).n with w:=w }:NodeM):=(S.up hu).N4 w
 have vt:=Dr (n:=(d.side s).n.aY) ⟨by have:=S.ep;omega,by have:=S.ep;omega⟩;have AZ:=Dr (n:=(d.side s).n.number) ⟨S.nu.1,by have:=S.nu;omega⟩;have hA:=Vt hL hd hf ha je vt AZ;have hN:=hL.act hd hf ha;obtain⟨j1,j2,j3,j4⟩:=Dh ({ (d.side s).n with w:=w }:NodeM) a
 have jw:(({ (d.side s).n with w:=w }:NodeM).act a).1.w=w:=by
  obtain⟨k1,k2,k3,k4,k5,k6⟩:=xi (n:=({ (d.side s).n with w:=w }:NodeM)) a
  unfold NodeM.act;split
  ·exact k6
  split
  ·exact k6
  ·exact k6
 generalize hr:({ (d.side s).n with w:=w }:NodeM).act a=r at hA hN j1 j2 j3 j4 jw ⊢
 have FX:gu (d.side s) (d.side s).n.p:=gu.self _;have Oh:∀ q,cC ((d.side s).n.p.bx a).1 q->Sound q/\q.kb=d.kb/\q.side=s:=λ q c=>by
  obtain⟨t1,t2,t3⟩:=S.sound _ FX;have hc:=FP hf;have hk:((d.side s).n.p.bx a).1.kb=(d.side s).n.p.kb/\((d.side s).n.p.bx a).1.side=(d.side s).n.p.side:=by
   split at hc
   ·rename_i t
    have e:=AW (hf.bB t);exact⟨hc.kb.trans (by rw[e]),hc.side.trans (by rw[e])⟩
   ·exact⟨hc.kb,hc.side⟩
  exact⟨(t1.bx a).core c,c.kb.symm.trans (hk.1.trans t2),c.side.symm.trans (hk.2.trans t3)⟩
 have hpn:∀ q,cC (d.side s).n.p q->Sound q/\q.kb=d.kb/\q.side=s:=λ q c=>by
  obtain⟨t1,t2,t3⟩:=S.sound _ FX;exact⟨t1.core c,c.kb.symm.trans t2,c.side.symm.trans t3⟩
 have ye:=(S.sound _ FX).1;have Oi:∀ q,gu ⟨r.1,false⟩ q->cC (d.side s).n.p q\/cC ((d.side s).n.p.bx a).1 q:=λ q hq=>by
  rcases hA with⟨-,-,-,-,t⟩ | ⟨-,-,-,-,-,t⟩
  ·exact t q ((gu.up rfl).1 hq)
  ·exact .inr (t q ((gu.up rfl).1 hq))
 have nk:(d.side s).n.number<=r.1.number/\r.1.number<=((d.said++r.2.1.map λ b=>(1 - s,b)).length:Nat):=by
  have:=S.nu
  rcases hA with⟨-,a2,-,a4,-⟩ | ⟨-,-,a3,a4,-,-⟩
  ·rw[a4,a2];simp;exact this.2
  ·rw[a4,a3];simp;omega
 refine h.put (kC E) hs (p:=⟨r.1,false⟩) (new:=r.2.1.map λ b=>(1 - s,b)) ?_ ?_ ?_ ?_ ?_ ?_
 ·refine⟨j2.trans S.uq,j3.trans S.ur,hN.ok,hN.kb.trans (j2.trans S.uq),hN.side.trans (j3.trans S.ur),λ _=>hN,(λ t=>nomatch t),λ q hq=>?_,?_,?_,?_⟩
  ·rcases Oi q hq with c | c
   ·exact hpn q c
   ·exact Oh q c
  ·rcases hA with⟨-,-,a3,-,-⟩ | ⟨-,a2,-,-,-,-⟩
   ·show r.1.p.bD=false
    rw[a3];exact S.calm
   ·show r.1.p.bD=false
    rw[a2];exact aeD S.calm hf (hh _ (gu.self _)).bD
  ·show 1<=r.1.aY/\r.1.aY<=E
   rw[j4];exact S.ep
  ·have:=S.nu
   exact⟨by show 0<=r.1.number;omega,nk.2⟩
 ·intro q b hq hb
  rcases Oi b hb with c | c
  ·exact(h.pair hs hq FX).core (cC.refl _) c
  ·exact(hh q hq).twins.core (cC.refl _) c
 ·show Below r.1.w _ _
  rw[jw];exact hw
 ·have hb:=h.win (1 - s) (iP hs)
  rw[show 1 - (1 - s)=s by omega] at hb;refine hb.mono (.inr ⟨?_,nk.1⟩);show(d.side s).n.aY=r.1.aY;rw[j4]
 ·intro f x yJ hx
  refine⟨yJ.open_,yJ.src,yJ.kind,?_,λ q hq=>?_⟩
  ·have:=yJ.lt
   have e:r.1.aY=(d.side s).n.aY:=j4;show _<r.1.aY\/(_=r.1.aY/\_<r.1.number);rw[e];have:=nk.1;omega
  ·have t:=yJ.Dq _ FX
   rcases Oi q hq with c | c
   ·exact t.core c
   ·exact(t.bx ye hf).core c
 ·intro x hx
  rcases hA with⟨-,a2,-,-,-⟩ | ⟨-,a2,a3,a4,a5,a6⟩
  ·rw[a2] at hx;cases hx
  ·obtain⟨b,hb,rfl⟩:=kF.1 hx
   refine⟨rfl,?_⟩;rw[a3] at hb;obtain⟨g,hg,rfl⟩:=kF.1 hb;have ll:=je g hg (d.side s).n.side (d.side s).n.aY (d.side s).n.number (by rw[S.ur];exact hs) vt AZ;have xk:=(ha.bg g hg).2;have ho:=FM (kb:=(d.side s).n.kb) ll xk;have FU:=(CP ll).2.2.2.2.1;refine⟨((d.side s).n.side,(d.side s).n.aY,(d.side s).n.number,g.2.2.2),?_,?_,FU,?_,λ q hq=>?_⟩
   ·show cM d.kb (jN (d.side s).n.kb _).1=_
    rw[<- S.uq];exact ho
   ·show(d.side s).n.side=1 - (1 - s)
    rw[S.ur];omega
   ·have hl:0<a.bg.length:=List.length_pos_of_mem hg
    refine .inr ⟨j4.symm,?_⟩;show(d.side s).n.number<r.1.number;rw[a4];show _<(d.side s).n.number+_;omega
   ·have:=(hh _ (gu.self _)).bg g hg
    have t:pg ((d.side s).n.p.bx a).1 ((d.side s).n.side,(d.side s).n.aY,(d.side s).n.number,g.2.2.2):=⟨this.slot,this.prop,this.dec,this.rest⟩;exact t.core (a6 q ((gu.up rfl).1 hq))
theorem dK.of (h:dK E d){s:Int}(hs:s=0\/s=1){p:kR}(h1:Dp E d.kb s p d.said.length)(h2:∀ q,gu p q->gu (d.side s) q)(h3:p.n.w=(d.side s).n.w)(h4:p.n.aY=(d.side s).n.aY)(h5:p.n.number=(d.side s).n.number):dK E (d.put s p):=by
 have hb:=h.win (1 - s) (iP hs);rw[show 1 - (1 - s)=s by omega] at hb;have:=h.put (kC E) hs (p:=p) (new:=[]) (by rw[dV];exact h1) (λ a b ha hb=>h.pair hs ha (h2 b hb)) (by rw[h3];exact h.win s hs) (by rw[h4,h5];exact hb)
  (λ f x hf hx=>⟨hf.open_,hf.src,hf.kind,by rw[h4,h5];exact hf.lt,λ q hq=>hf.Dq q (h2 q hq)⟩) (λ x hx=>nomatch hx)
 rw[dV] at this;have e:({ d.put s p with said:=d.said }:DuoM)=d.put s p:=by
  unfold DuoM.put;split<;>rfl
 rw[e] at this;exact this
theorem xl {s:Int}(h:¬ d.live s≠0):(s=0\/s=1)/\(d.side s).down=false:=by
 unfold DuoM.live at h
 by_cases c:s≠0/\s≠1
 ·rw[if_pos c] at h;exact absurd ar h
 ·rw[if_neg c] at h
  refine⟨by omega,?_⟩;cases hd:(d.side s).down with
  | false=>rfl
  | true=>rw[hd,if_pos rfl] at h;exact absurd ar h
theorem Dp.of {s:Int}{p:kR}{k:Int}(h:Dp E kb s p k)(hu:p.down=false){n:NodeM}(hl:Live n)(hj:n.j.d=p.n.j.d/\n.j.rs=p.n.j.rs/\n.j.fs.b=p.n.j.fs.b/\n.j.fs.synced=p.n.j.fs.synced)(hk:n.kb=p.n.kb)(hs:n.side=p.n.side)(he:n.aY=p.n.aY)(AZ:n.number=p.n.number)
  (hp:cC p.n.p n.p) (ho:p.n.j.d=false\/n.p.off=p.n.p.off) (hq:n.p.bD=p.n.p.bD):Dp E kb s ⟨n,false⟩ k/\∀ q,gu ⟨n,false⟩ q->gu p q:=by
 have hP:∀ q,gu ⟨n,false⟩ q->gu p q:=λ q t=>(gu.up hu).2 (tg.of hj hk hs he hp ho ((gu.up rfl).1 t));exact⟨⟨hk.trans h.uq,hs.trans h.ur,hl.ok,hl.kb.trans (hk.trans h.uq),hl.side.trans (hs.trans h.ur),(λ _=>hl),(λ t=>nomatch t),(λ q t=>h.sound q (hP q t)),hq.trans h.calm,by show 1<=n.aY/\n.aY<=E;rw[he];exact h.ep,by show 0<=n.number/\n.number<=k;rw[AZ];exact h.nu⟩,hP⟩
theorem dK.offer (h:dK E d)(s:Int){m:bu}(hm:eT m):dK E (d.offer s m).1:=by
 unfold DuoM.offer;split
 ·exact h
 rename_i c;obtain⟨hs,hu⟩:=xl c;have S:=h.side s hs;obtain⟨r1,r2,r3,r4,r5,r6,r7⟩:=aep (d.side s).n m;have hq:((d.side s).n.offer m).1.p.bD=(d.side s).n.p.bD:=by
  unfold NodeM.offer;split
  ·rfl
  ·dsimp only;unfold PeerM.offer
   repeat' split
   all_goals rfl
 have ho:(d.side s).n.j.d=false\/((d.side s).n.offer m).1.p.off=(d.side s).n.p.off:=by
  cases hd:(d.side s).n.j.d with
  | false=>exact .inl rfl
  | true=>exact .inr (by unfold NodeM.offer NodeM.dead;rw[if_pos hd])
 obtain⟨t1,t2⟩:=S.of hu ((S.up hu).offer hm) ⟨by rw[r2],by rw[r2],by rw[r2],by rw[r2]⟩ r3 r4 r5 r6 r1 ho hq;exact h.of hs t1 t2 r7 r5 r6
theorem FY {s:Int}(hs:s=0\/s=1)(hu:(d.side s).down=false){c:Int}:(d.heard s ((d.side s).n,[],c)).1=d:=by
 show({ d.put s ⟨(d.side s).n,false⟩ with said:=d.said++[] }:DuoM)=d
 have e:(⟨(d.side s).n,false⟩:kR)=d.side s:=by rw[<- hu]
 rw[e,aeC d hs,dV]
theorem dK.tick (h:dK E d)(hE:E<=1000000)(hM:d.said.length<=1000000)(s:Int):dK E (d.tick s).1:=by
 unfold DuoM.tick;split
 ·exact h
 rename_i c;obtain⟨hs,hu⟩:=xl c;have S:=h.side s hs;have L:=S.up hu;cases hd:(d.side s).n.j.d with
 | true=>
  have e:(d.side s).n.tick=((d.side s).n,[],11):=by unfold NodeM.tick NodeM.dead;rw[if_pos hd]
  rw[e,FY hs hu];exact h
 | false=>
  have e:(d.side s).n.tick=({ (d.side s).n with w:=(d.side s).n.w }:NodeM).act (d.side s).n.p.tick:=by
   unfold NodeM.tick NodeM.dead;rw[if_neg (by rw[hd];exact xM)]
  rw[e];exact h.act hE hM hs hu hd (h.win s hs) (AS _) L.ok.tick (FL L.ok L.aW) λ q hq=>aex L.ok (h.pair hs hq (gu.self _)) L.aW S.calm
theorem dK.Vu (h:dK E d)(hE:E<=1000000)(hM:d.said.length<=1000000){x:Int×ai}(hx:x∈d.said):dK E (d.lp x.1 x.2).1:=by
 obtain⟨hs,f,hf⟩:=h.said x hx;unfold DuoM.lp;split
 ·exact h
 rename_i c;obtain⟨-,hu⟩:=xl c;have S:=h.side x.1 hs;have L:=S.up hu;have th:cM (d.side x.1).n.kb x.2=(f,0):=by rw[S.uq];exact hf.open_
 cases hd:(d.side x.1).n.j.d with
 | true=>
  have e:(d.side x.1).n.take x.2=((d.side x.1).n,[],11):=by unfold NodeM.take NodeM.dead;rw[if_pos hd]
  rw[e,FY hs hu];exact h
 | false=>
  have Vv:(cM (d.side x.1).n.kb x.2).1.1≠(d.side x.1).n.side:=by rw[th,S.ur];show f.1≠x.1;rw[hf.src];omega
  cases hw:(d.side x.1).n.w.acc (cM (d.side x.1).n.kb x.2).1.2.1 (cM (d.side x.1).n.kb x.2).1.2.2.1 with
  | false=>rw[ael hd (by rw[th]) Vv hw,FY hs hu];exact h
  | true=>
   rw[Vh hd (by rw[th]) Vv hw,th];refine h.act hE hM hs hu hd ((h.win x.1 hs).accept hf.lt) (Jd L.ok.side L.aW f) (L.ok.take (by have:=Dd (d.side x.1).n.kb x.2;rw[th] at this;exact this)) (N7 L.ok f) λ q hq=>?_;obtain⟨sq,kq,dq⟩:=(h.side (1 - x.1) (iP hs)).sound q hq;exact aew L.ok sq (S.sound _ (gu.self _)).1 (kq.trans S.Jl.symm) (by rw[dq,S.FW]) (h.pair hs hq (gu.self _)) L.aW S.calm hf.kind (hf.Dq q hq)
theorem dK.dy (h:dK E d)(hE:E<=1000000)(hM:d.said.length<=1000000)(i:Int):dK E (d.dy i).1:=by
 unfold DuoM.dy;split
 ·exact h
 rename_i c;have hi:i.toNat<d.said.length:=ab;refine h.Vu hE hM ?_;rw[dB,cV hi];exact nQ _
theorem Vw (kb:ai)(side aY:Int):∀ (l:List bS) (n:Int),(NodeM.lJ kb side aY l n).1.length<=l.length
 | [],n=>eR _
 | f::l,n=>by
  unfold NodeM.lJ;split
  ·exact fj _
  split
  ·exact fj _
  ·have:=Vw kb side aY l (n+1)
   simp only[cY];omega
theorem FZ (n:NodeM)(a:cE):(n.act a).2.1.length<=a.bg.length:=by
 unfold NodeM.act;split
 ·exact fj _
 split
 ·exact fj _
 ·exact Vw _ _ _ _ _
theorem Oj (d:DuoM)(s:Int)(r:NodeM×List (ai)×Int):(d.heard s r).1.said=d.said++r.2.1.map λ b=>(1 - s,b):=rfl
theorem Jn (d:DuoM)(s:Int)(r:NodeM×List (ai)×Int):(d.heard s r).1.said.length=d.said.length+r.2.1.length:=by
 rw[Oj,bU,eI]
theorem dK.yK (h:dK E d)(s:Int):(d.tick s).1.said.length<=d.said.length+1:=by
 unfold DuoM.tick;split
 ·exact Nat.le_succ _
 rename_i c;obtain⟨hs,hu⟩:=xl c;have L:=(h.side s hs).up hu;rw[Jn];have:(d.side s).n.tick.2.1.length<=1:=by
  unfold NodeM.tick;split
  ·exact fj _
  ·exact ez (FZ _ _) L.ok.tick.num
 omega
theorem Vx {n:NodeM}(L:Live n)(b:ai):(n.take b).2.1.length<=1:=by
 unfold NodeM.take;split
 ·exact fj _
 split
 ·exact fj _
 split
 ·exact fj _
 split
 ·exact fj _
 ·exact ez (FZ _ _) (L.ok.take (Dd _ _)).num
theorem dK.aeE (h:dK E d)(s:Int)(b:ai):(d.lp s b).1.said.length<=d.said.length+1:=by
 unfold DuoM.lp;split
 ·exact Nat.le_succ _
 rename_i c;obtain⟨hs,hu⟩:=xl c;rw[Jn];have:=Vx ((h.side s hs).up hu) b;omega
theorem dK.Vy (h:dK E d)(i:Int):(d.dy i).1.said.length<=d.said.length+1:=by
 unfold DuoM.dy;split
 ·exact Nat.le_succ _
 ·exact h.aeE _ _
theorem dK.fC (hE:E<=1000000):∀ (f:Nat) {d:DuoM} (h:dK E d) (hM:d.said.length+f<=1000000) (i:Int),dK E (DuoM.fC f d i)/\(DuoM.fC f d i).said.length<=d.said.length+f
 | 0,d,h,hM,i=>⟨h,eR _⟩
 | f+1,d,h,hM,i=>by
  unfold DuoM.fC;split
  ·have hl:=h.Vy i
   obtain⟨a,b⟩:=dK.fC hE f (h.dy hE ab i) ab (i+1);exact⟨a,by omega⟩
  ·exact⟨h,by omega⟩
theorem dK.round (h:dK E d)(hE:E<=1000000)(hM:d.said.length+10<=1000000):dK E d.round.1/\d.round.1.said.length<=d.said.length+10:=by
 have a0:=h.yK 0;have h0:=h.tick hE ab 0;have a1:=h0.yK 1;have h1:=h0.tick hE ab 1;obtain⟨a,b⟩:=dK.fC hE 8 h1 ab d.said.length;exact⟨a,by show(DuoM.fC 8 _ _).said.length<=_;omega⟩
theorem aeF (hk:kb.length=16){q:Int}(h4:4<=(iA q).cK):∃ d,rW kb q=(some d,0)/\dK 1 d/\d.said=[]/\d.kb=kb /\
  ∀ s,s=0\/s=1->(d.side s).down=false/\(d.side s).n.p=j6 kb s/\(d.side s).n.j.d=false/\(d.side s).n.j.fs.lit=false/\(d.side s).n.j.fs.cK=(iA q).cK/\(d.side s).n.j.fs.b.length=4/\(d.side s).n.aY=1/\(d.side s).n.number=0:=by
 obtain⟨m,m1,m2,m3,m4,m5,m6,m7,m8,m9,m10,m11,m12,m13⟩:=Vd hk (.inl rfl:(0:Int)=0\/(0:Int)=1) h4;obtain⟨n,n1,n2,n3,n4,n5,n6,n7,n8,n9,xm,Ol,n12,Vz⟩:=Vd hk (.inr rfl:(1:Int)=0\/(1:Int)=1) h4;refine⟨⟨kb,⟨m,false⟩,⟨n,false⟩,[]⟩,by unfold rW;rw[m1];dsimp only;rw[n1],?_,rfl,rfl,λ s hs=>?_⟩
 rotate_left
 ·rcases hs with rfl | rfl
  ·exact⟨rfl,m5,m10,m11,m12,m13,m6,m7⟩
  ·exact⟨rfl,n5,xm,Ol,n12,Vz,n6,n7⟩
 have pm:∀ q,gu ⟨m,false⟩ q->cC (j6 kb 0) q:=λ q t=>by have:=((gu.up rfl).1 t).live m10;rw[<- m5];exact this
 have pn:∀ q,gu ⟨n,false⟩ q->cC (j6 kb 1) q:=λ q t=>by have:=((gu.up rfl).1 t).live xm;rw[<- n5];exact this
 refine⟨hk,λ s hs=>?_,λ a b ha hb=>?_,λ s hs=>?_,λ x hx=>nomatch hx⟩
 ·rcases hs with rfl | rfl
  ·exact⟨m3,m4,m2.ok,m2.kb.trans m3,m2.side.trans m4,(λ _=>m2),(λ t=>nomatch t),(λ q t=>⟨(Vk kb 0).core (pm q t),(pm q t).kb.symm,(pm q t).side.symm⟩),(by show m.p.bD=false;rw[m5];rfl),(by show 1<=m.aY/\m.aY<=1;rw[m6];decide),(by show 0<=m.number/\m.number<=0;rw[m7];decide)⟩
  ·exact⟨n3,n4,n2.ok,n2.kb.trans n3,n2.side.trans n4,(λ _=>n2),(λ t=>nomatch t),(λ q t=>⟨(Vk kb 1).core (pn q t),(pn q t).kb.symm,(pn q t).side.symm⟩),(by show n.p.bD=false;rw[n5];rfl),(by show 1<=n.aY/\n.aY<=1;rw[n6];decide),(by show 0<=n.number/\n.number<=0;rw[n7];decide)⟩
 ·exact .inl ((pm a ha).es.symm.trans (pn b hb).es)
 ·rcases hs with rfl | rfl
  ·show Below m.w n.aY n.number
   rw[m8,n6];exact Vs ar
  ·show Below n.w m.aY m.number
   rw[n8,m6];exact Vs ar
def Quiet (f:bS):Prop:=f.2.2.2.1=2\/(f.2.2.2.1=4/\f.2.2.2.2.2.2.1=false)
theorem aeG (p:PeerM){f:bS}(h:Quiet f):(p.take f).bg=[]:=by
 unfold PeerM.take;split
 ·rfl
 split
 ·rename_i k
  unfold PeerM.lH;dsimp only
  rcases h with h | ⟨-,h⟩
  ·omega
  ·rw[if_neg (by rw[h];exact xM)]
 split
 ·rfl
 split
 ·unfold PeerM.want;split<;>rfl
 split
 ·rename_i k1 k2 k3 k4
  exfalso
  rcases h with h | ⟨h,-⟩<;>omega
 ·unfold PeerM.mS
  repeat' split
  all_goals rfl
theorem aeH (p:PeerM)(f:bS):∀ g∈(p.take f).bg,Quiet g:=by
 unfold PeerM.take;split
 ·exact λ g hg=>nomatch hg
 split
 ·unfold PeerM.lH
  dsimp only;split
  ·intro g hg;rw[nR.1 hg];exact .inr ⟨rfl,rfl⟩
  ·exact λ g hg=>nomatch hg
 split
 ·exact λ g hg=>nomatch hg
 split
 ·unfold PeerM.want;split<;>exact λ g hg=>nomatch hg
 split
 ·unfold PeerM.la
  split
  ·exact λ g hg=>nomatch hg
  split
  ·intro g hg;rw[nR.1 hg];exact .inl rfl
  split
  ·exact λ g hg=>nomatch hg
  split
  ·exact λ g hg=>nomatch hg
  ·intro g hg;rw[nR.1 hg];exact .inl rfl
 ·unfold PeerM.mS
  repeat' split
  all_goals exact λ g hg=>nomatch hg
def Om (kb:ai)(x:Int×ai):Prop:=∃ f,cM kb x.2=(f,0)/\Quiet f
theorem aeI {n:NodeM}(L:Live n)(he:gF n.aY=true)(hn:gF n.number=true)(b:ai):
  (∀ c∈(n.take b).2.1,∃ f,cM n.kb c=(f,0)/\Quiet f)/\((∃ f,cM n.kb b=(f,0)/\Quiet f)->(n.take b).2.1=[]):=by
 unfold NodeM.take NodeM.dead;split
 ·exact⟨(λ c hc=>nomatch hc),λ _=>rfl⟩
 rename_i hd;split
 ·exact⟨(λ c hc=>nomatch hc),λ _=>rfl⟩
 split
 ·exact⟨(λ c hc=>nomatch hc),λ _=>rfl⟩
 split
 ·exact⟨(λ c hc=>nomatch hc),λ _=>rfl⟩
 have hL:=L.N4 (n.w.accept (cM n.kb b).1.2.1 (cM n.kb b).1.2.2.1);have hf:Fits n.p (n.p.take (cM n.kb b).1):=Jd L.ok.side L.aW _;have ha:mT (n.p.take (cM n.kb b).1):=L.ok.take (Dd _ _);have hs:=N7 L.ok (cM n.kb b).1;have kQ:n.side=0\/n.side=1:=by rw[<- L.side];exact L.ok.side
 refine⟨λ c hc=>?_,λ⟨f,h1,h2⟩=>?_⟩
 ·rcases Od hL (by simpa using hd) hf ha hs he hn with⟨-,a2,-,-⟩ | ⟨-,-,a3,-⟩
  ·rw[a2] at hc;cases hc
  ·rw[a3] at hc
   obtain⟨g,hg,rfl⟩:=kF.1 hc;exact⟨_,FM (hs g hg n.side n.aY n.number kQ he hn) (ha.bg g hg).2,by have:=aeH n.p _ g hg;exact this⟩
 ·have:=FZ ({ n with w:=n.w.accept (cM n.kb b).1.2.1 (cM n.kb b).1.2.2.1 }:NodeM) (n.p.take (cM n.kb b).1)
  rw[h1] at this ⊢;rw[aeG n.p h2] at this;exact tH (by simpa using this)
theorem dK.aeJ (h:dK E d)(hE:E<=1000000)(hM:d.said.length<=1000000)(s:Int)(b:ai):∃ l,(d.lp s b).1.said=d.said++l/\l.length<=1/\(∀ x∈l,Om d.kb x)/\(Om d.kb (s,b)->l=[]):=by
 unfold DuoM.lp;split
 ·exact⟨[],by simp,fj _,(λ x hx=>nomatch hx),λ _=>rfl⟩
 rename_i c;obtain⟨hs,hu⟩:=xl c;have S:=h.side s hs;have L:=S.up hu;have hT:=aeI L (Dr ⟨by have:=S.ep;omega,by have:=S.ep;omega⟩) (Dr ⟨S.nu.1,by have:=S.nu;omega⟩) b;rw[S.uq] at hT;refine⟨_,Oj d s _,?_,λ x hx=>?_,λ hq=>?_⟩
 ·rw[eI];exact Vx L b
 ·obtain⟨c,hc,rfl⟩:=kF.1 hx
  exact hT.1 c hc
 ·rw[hT.2 hq];rfl
theorem aeK (d:DuoM)(s:Int)(b:ai):(d.lp s b).1.kb=d.kb:=by
 unfold DuoM.lp;split
 ·rfl
 ·exact(vr d s _).1
theorem aeL (d:DuoM)(i:Int):(d.dy i).1.kb=d.kb:=by
 unfold DuoM.dy;split
 ·rfl
 ·exact aeK _ _ _
theorem dK.On (hE:E<=1000000):∀ (f a b i:Nat) {d:DuoM} (h:dK E d) (hM:d.said.length+f<=1000000) (hl:d.said.length=i+a+b) (hq:∀ x∈d.said.drop (i+a),Om d.kb x),(DuoM.fC f d i).said.length<=i+2 * a+b
 | 0,a,b,i,d,h,hM,hl,hq=>by show d.said.length<=_;omega
 | f+1,a,b,i,d,h,hM,hl,hq=>by
  unfold DuoM.fC
  by_cases c:(i:Int)<(d.said.length:Int)
  ·rw[if_pos c]
   have hi:i<d.said.length:=ab;have e:d.dy i=d.lp (d.said.getD i (0,[])).1 (d.said.getD i (0,[])).2:=by
    unfold DuoM.dy;rw[if_neg ab];rfl
   have hG:=h.dy hE ab (i:Int);have hk:=aeL d i;obtain⟨l,l1,l2,l3,l4⟩:=h.aeJ hE ab (d.said.getD i (0,[])).1 (d.said.getD i (0,[])).2;rw[<- e] at l1;have hg:d.said.getD i (0,[])=d.said[i]:=by rw[dB,cV hi];rfl
   match a with
   | 0=>
    have:l=[]:=l4 (hq _ (by rw[hg,tJ];exact List.mem_drop_iff_getElem.2 ⟨0,by omega,by simp⟩));rw[this,dV] at l1;have:=dK.On hE f 0 (b - 1) (i+1) hG (by rw[l1];omega) (by rw[l1];omega) (by
     rw[l1,hk];intro x hx;refine hq x ?_;rw[tJ] at hx ⊢;rw[<- List.drop_drop] at hx;exact List.mem_of_mem_drop hx)
    have e2:((i:Int)+1)=((i+1:Nat):Int):=ab;rw[e2];omega
   | a+1=>
    have:=dK.On hE f a (b+l.length) (i+1) hG (by rw[l1,bU];omega) (by rw[l1,bU];omega) (by
     rw[l1,hk,List.drop_append_of_le_length ab];intro x hx
     rcases kE.1 hx with hx | hx
     ·exact hq x (by rw[show i+(a+1)=i+1+a by omega];exact hx)
     ·exact l3 x hx)
    have e2:((i:Int)+1)=((i+1:Nat):Int):=ab;rw[e2];omega
  ·rw[if_neg c];omega
theorem dK.aeM (h:dK E d)(hE:E<=1000000)(hM:d.said.length+10<=1000000)(f:Nat)(hf:f<=8):(DuoM.fC f ((d.tick 0).1.tick 1).1 d.said.length).said.length<=d.said.length+4:=by
 have a0:=h.yK 0;have h0:=h.tick hE ab 0;have a1:=h0.yK 1;have h1:=h0.tick hE ab 1;have a2:d.said.length<=((d.tick 0).1.tick 1).1.said.length:=by
  have:∀ (d:DuoM) s,d.said.length<=(d.tick s).1.said.length:=λ d s=>by
   unfold DuoM.tick;split
   ·exact eR _
   ·rw[Jn];exact Nat.le_add_right _ _
  exact ez (this d 0) (this _ 1)
 have:=dK.On hE f (((d.tick 0).1.tick 1).1.said.length - d.said.length) 0 d.said.length h1 ab ab (by
  rw[show d.said.length+(((d.tick 0).1.tick 1).1.said.length - d.said.length)=((d.tick 0).1.tick 1).1.said.length by omega,List.drop_length];exact λ x hx=>nomatch hx)
 omega
abbrev kx:=PeerM×PeerM
def cx (x:kx)(s:Int):PeerM:=if s=0 then x.1 else x.2
def Jo (x:kx)(s:Int)(p:PeerM):kx:=if s=0 then(p,x.2) else(x.1,p)
def gv (p:PeerM)(f:bS):cE:=if f.2.2.2.1=4 then p.lH f else if p.bD=true then bq else if f.2.2.2.1=3 then p.want f else if f.2.2.2.1=1 then p.la f else p.mS f
theorem VA {f:bS}(h:pY f=0)(hs:f.1≠p.side):p.take f=gv p f:=by
 unfold PeerM.take gv;rw[if_neg (λ t=>by rcases t with t | t;exact t h;exact hs t)]
theorem VB (p:PeerM)(a b c:Int)(f:bS):gv p (a,b,c,f.2.2.2)=gv p f:=rfl
def dA (a:cE):Int:=if a.cP=true\/a.dz=true then((NodeM.fp a).1.length:Int)+3 else 0
theorem aeN (a:cE):0<=dA a:=by unfold dA;split<;>omega
structure ju where
 x:kx
 c0:Int
 c1:Int
def ju.act (r:ju)(s:Int)(a:cE):ju:=⟨Jo r.x s ((cx r.x s).bx a).1,if s=0 then r.c0+dA a else r.c0,if s=0 then r.c1 else r.c1+dA a⟩
def qd:Nat->ju->List (Int×bS)->ju
 | 0,r,_=>r
 | _+1,r,[]=>r
 | n+1,r,(t,g)::q=>qd n (r.act t (gv (cx r.x t) g)) (q++(gv (cx r.x t) g).bg.map λ h=>(1 - t,h))
def eV (x:kx):ju:=qd 8 (((⟨x,0,0⟩:ju).act 0 x.1.tick).act 1 x.2.tick) (x.1.tick.bg.map (λ h=>(1,h))++x.2.tick.bg.map λ h=>(0,h))
theorem aeO {j:lI}(h:(j.put x).2=10):j.fs.cK - j.fs.b.length<(x.length:Int)+3:=by
 apply vU;intro hr;have hA:(gN j.fs (eL x)).2≠10:=by
  unfold gN;split
  ·simp
  split
  ·rename_i t
   rw[wZ] at t;omega
  split<;>simp
 have hS:∀ s,(j7 s).2≠10:=by
  intro s;unfold j7
  repeat' split
  all_goals simp
 unfold lI.put j8 at h;dsimp only at h;split at h
 ·cases h
 split at h
 ·cases h
 split at h
 ·exact hA h
 split at h
 ·exact hS _ h
 ·cases h
theorem aeP {n:NodeM}(h:Live n)(hd:n.j.d=false)(hf:Fits n.p a)(ha:mT a)(hs:∀ f∈a.bg,qa f)(he:gF n.aY=true)(hn:gF n.number=true)(hr:(n.j.fs.b.length:Int)+dA a<=n.j.fs.cK):
  ((n.act a).1.j.d=true/\n.j.fs.lit=true) \/
  ((n.act a).2.2=0/\(n.act a).1.p=(n.p.bx a).1/\(n.act a).2.1=a.bg.map (λ f=>(jN n.kb (n.side,n.aY,n.number,f.2.2.2)).1)/\(n.act a).1.number=n.number+(a.bg.length:Int)/\(n.act a).1.j.d=false /\
   ((n.act a).1.j.fs.b.length:Int)=n.j.fs.b.length+dA a/\(n.act a).1.j.fs.cK=n.j.fs.cK/\(n.j.fs.lit=false->(n.act a).1.j.fs.lit=false)):=by
 obtain⟨uo,hH⟩:=h.live hd;have VC:=hH.1;rw[dV] at VC;obtain⟨j1,j2,j3,j4⟩:=Dh n a;have hl:=Jh (n:=n) hf
 rcases Vt h hd hf ha hs he hn with⟨a1,a2,a3,a4,-⟩ | ⟨a1,a2,a3,a4,a5,-⟩
 ·left
  have hk:(n.ao a).2≠0:=by
   intro t;rw[N8 h hf ha t hs he hn] at a1;exact a1 rfl
  rw[j1]
  rcases Dg hf with⟨-,-,e⟩ | ⟨hb,h0,hlen,e⟩
  ·rw[e] at hk;exact absurd rfl hk
  ·have df:(NodeM.fp a).1.length<=4000:=ab
   have hc:dA a=((NodeM.fp a).1.length:Int)+3:=by unfold dA;rw[if_pos hb]
   rw[e] at hk ⊢;dsimp only at hk ⊢;have oL:(n.j.put (NodeM.fp a).1).2≠10:=λ t=>by have:=aeO t;omega
   rcases FI hd uo hH df with⟨c0,-⟩ | ⟨c0,-⟩ | ⟨c0,c1,-⟩
   ·exact absurd c0 hk
   ·exact absurd c0 oL
   ·refine⟨c1,?_⟩
    cases Ds:n.j.fs.lit with
    | true=>rfl
    | false=>exact absurd c0 (N6 hd uo Ds df).1
 ·right
  refine⟨a1,a2,a3,a4,a5,?_,by rw[j1];exact hl.2.1,λ Ds=>?_⟩
  ·rw[j1]
   rcases Dg hf with⟨t1,t2,e⟩ | ⟨hb,h0,hlen,e⟩
   ·have hc:dA a=0:=by unfold dA;rw[if_neg (by rw[t1,t2];simp)]
    rw[e,hc];simp
   ·have df:(NodeM.fp a).1.length<=4000:=ab
    have hc:dA a=((NodeM.fp a).1.length:Int)+3:=by unfold dA;rw[if_pos hb]
    have hk:(n.ao a).2=0:=by
     apply vU;intro t;have:n.act a=((n.ao a).1,[],(n.ao a).2):=by unfold NodeM.act;rw[if_pos t]
     rw[this] at a1;exact t a1
    rw[e] at hk ⊢;dsimp only at hk ⊢
    rcases FI hd uo hH df with⟨-,c1,c2,c3,c4⟩ | ⟨c0,-⟩ | ⟨c0,-⟩
    ·have c5:=c4.1
     rw[dV,I1] at c5;rw[c5,VC,bU,wZ,hc];omega
    ·rw[c0] at hk;cases hk
    ·rw[c0] at hk;cases hk
  ·rw[j1]
   rcases Dg hf with⟨t1,t2,e⟩ | ⟨hb,h0,hlen,e⟩
   ·rw[e];exact Ds
   ·rw[e];exact(N6 hd uo Ds ab).2.1
def qe (kb:ai)(e:Int->Int):(Int->Int)->List (Int×ai)->List (Int×bS)->(Int->Int)->Prop
 | k,[],[],n=>∀ t,t=0\/t=1->k t=n t
 | k,x::X,y::Q,n=>x.1=y.1/\(y.1=0\/y.1=1)/\cM kb x.2=((1 - y.1,e y.1,k y.1,y.2.2.2.2),0)/\qe kb e (λ t=>if t=y.1 then k t+1 else k t) X Q n
 | _,[],_::_,_=>False
 | _,_::_,[],_=>False
theorem qe.snoc {e:Int->Int}{x:Int×ai}{t:Int}(ht:t=0\/t=1)(h1:x.1=t){g:bS}:∀ {k:Int->Int} {X:List (Int×ai)} {Q:List (Int×bS)} {n:Int->Int},qe kb e k X Q n->cM kb x.2=((1 - t,e t,n t,g.2.2.2),0)->qe kb e k (X++[x]) (Q++[(t,g)]) (λ u=>if u=t then n u+1 else n u)
 | k,[],[],n,h,ho=>⟨h1,ht,by rw[h t ht];exact ho,λ u hu=>by dsimp only;rw[h u hu]⟩
 | k,y::X,z::Q,n,h,ho=>⟨h.1,h.2.1,h.2.2.1,qe.snoc ht h1 h.2.2.2 ho⟩
theorem qe.same {e e' n':Int->Int}(he:∀ t,t=0\/t=1->e' t=e t):∀ {k:Int->Int} {X:List (Int×ai)} {Q:List (Int×bS)} {n:Int->Int},qe kb e k X Q n->(∀ t,t=0\/t=1->n' t=n t)->qe kb e' k X Q n'
 | k,[],[],n,h,hn=>λ t ht=>by rw[hn t ht];exact h t ht
 | k,y::X,z::Q,n,h,hn=>⟨h.1,h.2.1,by rw[he _ h.2.1];exact h.2.2.1,qe.same he h.2.2.2 hn⟩
def ju.cost (r:ju)(s:Int):Int:=if s=0 then r.c0 else r.c1
theorem aeQ {s:Int}(hs:s=0\/s=1)(x:kx)(p:PeerM):cx (Jo x s p) s=p:=by rcases hs with rfl | rfl<;>rfl
theorem aeR {s:Int}(hs:s=0\/s=1)(x:kx)(p:PeerM):cx (Jo x s p) (1 - s)=cx x (1 - s):=by rcases hs with rfl | rfl<;>rfl
theorem VD {s:Int}(hs:s=0\/s=1)(r:ju)(a:cE):(r.act s a).cost s=r.cost s+dA a:=by rcases hs with rfl | rfl<;>rfl
theorem aeS {s:Int}(hs:s=0\/s=1)(r:ju)(a:cE):(r.act s a).cost (1 - s)=r.cost (1 - s):=by rcases hs with rfl | rfl<;>rfl
theorem VE (r:ju)(s t:Int)(a:cE):r.cost t<=(r.act s a).cost t:=by
 have:=aeN a;unfold ju.cost ju.act;dsimp only
 repeat' split
 all_goals omega
theorem Oo:∀ (n:Nat) (r:ju) (q:List (Int×bS)) (t:Int),r.cost t<=(qd n r q).cost t
 | 0,r,q,t=>kC _
 | n+1,r,[],t=>kC _
 | n+1,r,(u,g)::q,t=>Int.le_trans (VE r u t _) (Oo n _ _ t)
structure vu (d:DuoM)(w:Int->lY)(i:Nat)(r:ju)(q:List (Int×bS))(k b Q:Int->Int)(lit:Int->Bool):Prop where
 p:∀ s,s=0\/s=1->(d.side s).n.p=cx r.x s
 up:∀ s,s=0\/s=1->(d.side s).down=false/\(d.side s).n.j.d=false
 q:qe d.kb (λ t=>(d.side (1 - t)).n.aY) k (d.said.drop i) q (λ t=>(d.side (1 - t)).n.number)
 win:∀ s,s=0\/s=1->Below (w s) (d.side (1 - s)).n.aY (k s)
 k0:∀ s,s=0\/s=1->0<=k s
 len:i<=d.said.length
 fb:∀ s,s=0\/s=1->((d.side s).n.j.fs.b.length:Int)=b s+r.cost s
 fq:∀ s,s=0\/s=1->(d.side s).n.j.fs.cK=Q s
 fl:∀ s,s=0\/s=1->lit s=false->(d.side s).n.j.fs.lit=false
theorem vu.act (h:dK E d)(hE:E<=1000000)(hM:d.said.length<=1000000){w:Int->lY}{i:Nat}{r:ju}{q:List (Int×bS)}{k b Q:Int->Int}{lit:Int->Bool}(R:vu d w i r q k b Q lit){s:Int}(hs:s=0\/s=1)
  (hw:w (1 - s)=(d.side (1 - s)).n.w) {a:cE} (hf:Fits (d.side s).n.p a) (ha:mT a) (je:∀ f∈a.bg,qa f) (nN:b s+(r.act s a).cost s<=Q s) :
  (((d.heard s (({ (d.side s).n with w:=w s }:NodeM).act a)).1.side s).n.j.d=true/\lit s=true) \/
  (vu (d.heard s (({ (d.side s).n with w:=w s }:NodeM).act a)).1 w i (r.act s a) (q++a.bg.map λ g=>(1 - s,g)) k b Q lit/\∀ t,t=0\/t=1->w t=((d.heard s (({ (d.side s).n with w:=w s }:NodeM).act a)).1.side t).n.w):=by
 have S:=h.side s hs;obtain⟨hu,hd⟩:=R.up s hs;have hL:Live ({ (d.side s).n with w:=w s }:NodeM):=(S.up hu).N4 _
 have vt:=Dr (n:=(d.side s).n.aY) ⟨by have:=S.ep;omega,by have:=S.ep;omega⟩;have AZ:=Dr (n:=(d.side s).n.number) ⟨S.nu.1,by have:=S.nu;omega⟩;rw[VD hs] at nN;have hA:=aeP hL hd hf ha je vt AZ (by show((d.side s).n.j.fs.b.length:Int)+dA a<=(d.side s).n.j.fs.cK;rw[R.fb s hs,R.fq s hs];omega);obtain⟨j1,j2,j3,j4⟩:=Dh ({ (d.side s).n with w:=w s }:NodeM) a
 have jw:(({ (d.side s).n with w:=w s }:NodeM).act a).1.w=w s:=by
  obtain⟨k1,k2,k3,k4,k5,k6⟩:=xi (n:=({ (d.side s).n with w:=w s }:NodeM)) a
  unfold NodeM.act;split
  ·exact k6
  split
  ·exact k6
  ·exact k6
 generalize ho:({ (d.side s).n with w:=w s }:NodeM).act a=o at hA j1 j2 j3 j4 jw ⊢
 have e1:(d.heard s o).1.side s=⟨o.1,false⟩:=AX d hs _;have e2:(d.heard s o).1.side (1 - s)=d.side (1 - s):=AY d hs _;have e3:(d.heard s o).1.kb=d.kb:=(vr d s _).1;have e4:1 - (1 - s)=s:=ab;have all:∀ {P:Int->Prop},P s->P (1 - s)->∀ t,t=0\/t=1->P t:=λ h1 h2 t ht=>by
  rcases qc hs ht with rfl | rfl
  ·exact h1
  ·exact h2
 rcases hA with⟨a1,a2⟩ | ⟨a1,a2,a3,a4,a5,a6,a7,a8⟩
 ·left
  rw[e1];refine⟨a1,?_⟩;cases Ds:lit s with
  | true=>rfl
  | false=>rw[R.fl s hs Ds] at a2;cases a2
 right
 refine⟨⟨all ?_ ?_,all ?_ ?_,?_,all ?_ ?_,R.k0,?_,all ?_ ?_,all ?_ ?_,all ?_ ?_⟩,all ?_ ?_⟩
 ·rw[e1]
  show o.1.p=_;rw[a2];show((d.side s).n.p.bx a).1=cx (Jo r.x s _) s;rw[aeQ hs,R.p s hs]
 ·rw[e2,R.p _ (iP hs)]
  exact(aeR hs _ _).symm
 ·rw[e1];exact⟨rfl,a5⟩
 ·rw[e2];exact R.up _ (iP hs)
 ·rw[e3,Oj,a3,List.drop_append_of_le_length R.len]
  have VF:∀ t,t=0\/t=1->((d.heard s o).1.side (1 - t)).n.aY=(d.side (1 - t)).n.aY:=all (by rw[e2]) (by rw[e4,e1];exact j4);have hl:=ha.num
  match rU:a.bg with
  | []=>
   rw[rU] at a4;simp only[gb,dV];exact R.q.same VF (all (by rw[e2]) (by rw[e4,e1];show o.1.number=_;rw[a4];simp))
  | [g]=>
   rw[rU] at a4;simp only[gU,gb];refine qe.same VF (qe.snoc (iP hs) (x:=(1 - s,(jN (d.side s).n.kb ((d.side s).n.side,(d.side s).n.aY,(d.side s).n.number,g.2.2.2)).1)) rfl (g:=g) R.q ?_) (all ?_ ?_)
   ·have hg:g∈a.bg:=by rw[rU];simp
    have:=FM (kb:=(d.side s).n.kb) (je g hg (d.side s).n.side (d.side s).n.aY (d.side s).n.number (by rw[S.ur];exact hs) vt AZ) (ha.bg g hg).2;dsimp only;rw[e4,<- S.uq,this,S.ur]
   ·rw[if_neg ab,e2]
   ·rw[if_pos rfl,e4,e1]
    show o.1.number=_;rw[a4];simp
  | g::g2::l=>rw[rU] at hl;simp at hl
 ·rw[e2];exact R.win s hs
 ·have t:=R.win (1 - s) (iP hs)
  rw[e4] at t ⊢;rw[e1];show Below _ o.1.aY _;rw[j4];exact t
 ·rw[Jn];exact ez R.len (Nat.le_add_right _ _)
 ·rw[e1,VD hs]
  show(o.1.j.fs.b.length:Int)=_;rw[a6];show((d.side s).n.j.fs.b.length:Int)+_=_;rw[R.fb s hs];omega
 ·rw[e2,aeS hs];exact R.fb _ (iP hs)
 ·rw[e1];exact a7.trans (R.fq s hs)
 ·rw[e2];exact R.fq _ (iP hs)
 ·rw[e1];exact λ t=>a8 (R.fl s hs t)
 ·rw[e2];exact R.fl _ (iP hs)
 ·rw[e1];exact jw.symm
 ·rw[e2];exact hw
theorem VG (d:DuoM){s t:Int}(hs:s=0\/s=1)(ht:t=0\/t=1)(o:NodeM×List (ai)×Int)(h:(d.side t).n.j.d=true)(h2:t=s->o.1.j.d=true):((d.heard s o).1.side t).n.j.d=true:=by
 rcases qc hs ht with rfl | rfl
 ·rw[show(d.heard t o).1.side t=⟨o.1,false⟩ from AX d hs _];exact h2 rfl
 ·rw[show(d.heard s o).1.side (1 - s)=d.side (1 - s) from AY d hs _];exact h
theorem aeT {t:Int}(ht:t=0\/t=1)(h:(d.side t).n.j.d=true)(s:Int):((d.tick s).1.side t).n.j.d=true:=by
 unfold DuoM.tick;split
 ·exact h
 ·rename_i c
  refine VG d (xl c).1 ht _ h λ e=>?_;rw[<- e];unfold NodeM.tick NodeM.dead;rw[if_pos h];exact h
theorem aeU {t:Int}(ht:t=0\/t=1)(h:(d.side t).n.j.d=true)(i:Int):((d.dy i).1.side t).n.j.d=true:=by
 unfold DuoM.dy;split
 ·exact h
 unfold DuoM.lp;split
 ·exact h
 ·rename_i c
  refine VG d (xl c).1 ht _ h λ e=>?_;rw[<- e];unfold NodeM.take NodeM.dead;rw[if_pos h];exact h
theorem Jp {t:Int}(ht:t=0\/t=1):∀ (f:Nat) {d:DuoM} (h:(d.side t).n.j.d=true) (i:Int),((DuoM.fC f d i).side t).n.j.d=true
 | 0,d,h,i=>h
 | f+1,d,h,i=>by
  unfold DuoM.fC;split
  ·exact Jp ht f (aeU ht h i) _
  ·exact h
theorem qe.len {e n:Int->Int}:∀ {k:Int->Int} {X:List (Int×ai)} {Q:List (Int×bS)},qe kb e k X Q n->X.length=Q.length
 | k,[],[],h=>rfl
 | k,y::X,z::Q,h=>by rw[cY,cY,qe.len h.2.2.2]
theorem vu.fC (hE:E<=1000000){b Q:Int->Int}{lit:Int->Bool}:∀ (f:Nat) {d:DuoM} (h:dK E d) (hM:d.said.length+f<=1000000) {w:Int->lY} {i:Nat} {r:ju} {q:List (Int×bS)} {k:Int->Int}
  (R:vu d w i r q k b Q lit) (hw:∀ t,t=0\/t=1->w t=(d.side t).n.w) (nN:∀ s,s=0\/s=1->b s+(qd f r q).cost s<=Q s),
  (∃ s,(s=0\/s=1)/\((DuoM.fC f d i).side s).n.j.d=true/\lit s=true)\/∃ w' i' q' k',vu (DuoM.fC f d i) w' i' (qd f r q) q' k' b Q lit
 | 0,d,h,hM,w,i,r,q,k,R,hw,nN=>.inr ⟨w,i,q,k,R⟩
 | f+1,d,h,hM,w,i,r,q,k,R,hw,nN=>by
  have CY:=R.q.len;rw[kD] at CY;unfold DuoM.fC
  match q with
  | []=>
   rw[if_neg (by simp at CY;omega)];exact .inr ⟨w,i,[],k,R⟩
  | (t,g)::q=>
   rw[if_pos (by simp at CY;omega)];have hi:i<d.said.length:=by simp at CY;omega
   have hdr:d.said.drop i=d.said[i]::d.said.drop (i+1):=zD hi;have hq:=R.q;rw[hdr] at hq;obtain⟨q1,ht,q3,q4⟩:=hq;dsimp only at q1 ht q3 q4;have S:=h.side t ht;obtain⟨hu,hd⟩:=R.up t ht;have L:=S.up hu;have A0:d.live t=0:=by
    unfold DuoM.live;rw[if_neg ab,hu,if_neg bm]
   have hg:d.said.getD i (0,[])=d.said[i]:=by rw[dB,cV hi];rfl
   have hB:Below (d.side t).n.w (d.side (1 - t)).n.aY (k t):=by rw[<- hw t ht];exact R.win t ht
   have vt:=(h.side (1 - t) (iP ht)).ep;have aeV:=hB.fresh ab (R.k0 t ht);have th:cM (d.side t).n.kb (d.said[i]).2=((1 - t,(d.side (1 - t)).n.aY,k t,g.2.2.2),0):=by rw[S.uq];exact q3
   have ll:=Vq th;have e:d.dy i=d.heard t (({ (d.side t).n with w:=(d.side t).n.w.accept (d.side (1 - t)).n.aY (k t) }:NodeM).act (gv (cx r.x t) g)):=by
    unfold DuoM.dy;rw[if_neg ab];show d.lp (d.said.getD i (0,[])).1 (d.said.getD i (0,[])).2=_;rw[hg,q1];unfold DuoM.lp;rw[if_neg (λ c=>c A0),Vh hd (by rw[th]) (by rw[th,S.ur];show 1 - t≠t;omega) (by rw[th];exact aeV),th];dsimp only;rw[VA ll (by rw[S.FW];show 1 - t≠t;omega),VB,R.p t ht]
   have CX:(d.side t).n.p.take (1 - t,(d.side (1 - t)).n.aY,k t,g.2.2.2)=gv (cx r.x t) g:=by
    rw[VA ll (by rw[S.FW];show 1 - t≠t;omega),VB,R.p t ht]
   have oM:Fits (d.side t).n.p (gv (cx r.x t) g):=by rw[<- CX];exact Jd L.ok.side L.aW _
   have hao:mT (gv (cx r.x t) g):=by rw[<- CX];exact L.ok.take (by have:=Dd (d.side t).n.kb (d.said[i]).2;rw[th] at this;exact this)
   have rU:∀ f∈(gv (cx r.x t) g).bg,qa f:=by rw[<- CX];exact N7 L.ok _
   have hG:=h.dy hE ab (i:Int);have hGl:=h.Vy (i:Int)
   -- the same, a frame aiB
   let w2:Int->lY:=λ u=>if u=t then(d.side t).n.w.accept (d.side (1 - t)).n.aY (k t) else w u
   have R2:vu d w2 (i+1) r q (λ u=>if u=t then k u+1 else k u) b Q lit:=by
    refine⟨R.p,R.up,q4,λ s hs=>?_,λ s hs=>?_,by omega,R.fb,R.fq,R.fl⟩
    ·rcases qc ht hs with rfl | rfl
     ·show Below (if s=s then _ else _) _ (if s=s then _ else _)
      rw[if_pos rfl,if_pos rfl];exact(hB.mono (.inr ⟨rfl,by omega⟩)).accept (.inr ⟨rfl,by omega⟩)
     ·show Below (if 1 - t=t then _ else _) _ (if 1 - t=t then _ else _)
      rw[if_neg ab,if_neg ab];exact R.win _ hs
    ·have:=R.k0 s hs
     split<;>omega
   have e2:w2 t=(d.side t).n.w.accept (d.side (1 - t)).n.aY (k t):=if_pos rfl;have jE:qd (f+1) r ((t,g)::q)=qd f (r.act t (gv (cx r.x t) g)) (q++(gv (cx r.x t) g).bg.map λ h=>(1 - t,h)):=rfl;rw[jE] at nN ⊢;have hA:=R2.act h hE ab ht (by show(if 1 - t=t then _ else w (1 - t))=_;rw[if_neg ab];exact hw _ (iP ht)) oM hao rU (Int.le_trans (Int.add_le_add_left (Oo f _ _ t) _) (nN t ht));rw[e2,<- e] at hA;have ei:((i:Int)+1)=((i+1:Nat):Int):=ab;rw[ei]
   rcases hA with⟨a1,a2⟩ | ⟨a1,a2⟩
   ·exact .inl ⟨t,ht,Jp ht f a1 _,a2⟩
   ·exact vu.fC hE f hG ab a1 a2 nN
theorem dK.run (h:dK E d)(hE:E<=1000000)(hM:d.said.length+10<=1000000)(hu:∀ s,s=0\/s=1->(d.side s).down=false/\(d.side s).n.j.d=false)
  (nN:∀ s,s=0\/s=1->((d.side s).n.j.fs.b.length:Int)+(eV (d.l.n.p,d.r.n.p)).cost s<=(d.side s).n.j.fs.cK) :
  (∃ s,(s=0\/s=1)/\(d.round.1.side s).n.j.d=true/\(d.side s).n.j.fs.lit=true) \/
  ∀ s,s=0\/s=1->(d.round.1.side s).n.p=cx (eV (d.l.n.p,d.r.n.p)).x s/\(d.round.1.side s).down=false/\(d.round.1.side s).n.j.d=false/\((d.round.1.side s).n.j.fs.b.length:Int)=(d.side s).n.j.fs.b.length+(eV (d.l.n.p,d.r.n.p)).cost s /\
   (d.round.1.side s).n.j.fs.cK=(d.side s).n.j.fs.cK/\((d.side s).n.j.fs.lit=false->(d.round.1.side s).n.j.fs.lit=false):=by
 let b:Int->Int:=λ s=>((d.side s).n.j.fs.b.length:Int)
 let Q:Int->Int:=λ s=>(d.side s).n.j.fs.cK
 let lit:Int->Bool:=λ s=>(d.side s).n.j.fs.lit
 have R0:vu d (λ s=>(d.side s).n.w) d.said.length ⟨(d.l.n.p,d.r.n.p),0,0⟩ [] (λ t=>(d.side (1 - t)).n.number) b Q lit:=by
  refine⟨λ s hs=>?_,hu,?_,λ s hs=>h.win s hs,λ s hs=>(h.side (1 - s) (iP hs)).nu.1,eR _,λ s hs=>?_,λ s hs=>rfl,λ s hs t=>t⟩
  ·rcases hs with rfl | rfl<;>rfl
  ·rw[List.drop_length]
   exact λ t ht=>rfl
  ·show((d.side s).n.j.fs.b.length:Int)=((d.side s).n.j.fs.b.length:Int)+ju.cost _ s
   rcases hs with rfl | rfl
   ·show _=_+(0:Int);omega
   ·show _=_+(0:Int);omega
 have A0:∀ {d:DuoM} (s:Int),s=0\/s=1->(d.side s).down=false->d.live s=0:=λ s hs hu=>by
  unfold DuoM.live;rw[if_neg ab,hu,if_neg bm]
 have rX:∀ {d:DuoM} (s:Int),s=0\/s=1->(d.side s).down=false->(d.side s).n.j.d=false->d.tick s=d.heard s (({ (d.side s).n with w:=(d.side s).n.w }:NodeM).act (d.side s).n.p.tick):=λ{d} s hs hu hd=>by
  unfold DuoM.tick;rw[if_neg (λ c=>c (A0 s hs hu))];unfold NodeM.tick NodeM.dead;rw[if_neg (by rw[hd];simp)]
 have end_:∀ s:Int,(s=0\/s=1)->b s+(eV (d.l.n.p,d.r.n.p)).cost s<=Q s:=nN;have c1:=Oo 8 (((⟨(d.l.n.p,d.r.n.p),0,0⟩:ju).act 0 d.l.n.p.tick).act 1 d.r.n.p.tick) (d.l.n.p.tick.bg.map (λ h=>(1,h))++d.r.n.p.tick.bg.map λ h=>(0,h));have L0:=(h.side 0 (.inl rfl)).up (hu 0 (.inl rfl)).1;have hA:=R0.act h hE ab (.inl rfl:(0:Int)=0\/(0:Int)=1) rfl (a:=d.l.n.p.tick) (AS _) L0.ok.tick (FL L0.ok L0.aW) (by
  have:=end_ 0 (.inl rfl);have h2:=c1 0;have h3:=VE ((⟨(d.l.n.p,d.r.n.p),0,0⟩:ju).act 0 d.l.n.p.tick) 1 0 d.r.n.p.tick;have e:(eV (d.l.n.p,d.r.n.p)).cost 0=ju.cost (qd 8 (((⟨(d.l.n.p,d.r.n.p),0,0⟩:ju).act 0 d.l.n.p.tick).act 1 d.r.n.p.tick) (d.l.n.p.tick.bg.map (λ h=>(1,h))++d.r.n.p.tick.bg.map λ h=>(0,h))) 0:=rfl;omega)
 have t0:=rX (d:=d) 0 (.inl rfl) (hu 0 (.inl rfl)).1 (hu 0 (.inl rfl)).2;have Jq:=h.tick hE ab 0;have hl0:=h.yK 0;have et0:d.heard 0 (({ (d.side 0).n with w:=(d.side 0).n.w }:NodeM).act d.l.n.p.tick)=d.tick 0:=t0.symm
 rw[et0] at hA;have hl1:=Jq.yK 1;have Oq:=Jq.tick hE ab 1
 rcases hA with⟨a1,a2⟩ | ⟨R1,w1⟩
 ·exact .inl ⟨0,.inl rfl,Jp (.inl rfl) 8 (aeT (.inl rfl) a1 1) _,a2⟩
 have fM:(d.tick 0).1.r=d.r:=by rw[t0];rfl
 have L1:=(Jq.side 1 (.inr rfl)).up (R1.up 1 (.inr rfl)).1;have Ga:((d.tick 0).1.side 1).n.p=d.r.n.p:=by show(d.tick 0).1.r.n.p=_;rw[fM]
 have hB:=R1.act Jq hE ab (.inr rfl:(1:Int)=0\/(1:Int)=1) (w1 0 (.inl rfl)) (a:=d.r.n.p.tick) (by rw[Ga];exact AS _) (by rw[<- Ga];exact L1.ok.tick) (by rw[<- Ga];exact FL L1.ok L1.aW) (by
  have:=end_ 1 (.inr rfl);have h2:=c1 1;have e:(eV (d.l.n.p,d.r.n.p)).cost 1=ju.cost (qd 8 (((⟨(d.l.n.p,d.r.n.p),0,0⟩:ju).act 0 d.l.n.p.tick).act 1 d.r.n.p.tick) (d.l.n.p.tick.bg.map (λ h=>(1,h))++d.r.n.p.tick.bg.map λ h=>(0,h))) 1:=rfl;omega)
 have t1:=rX (d:=(d.tick 0).1) 1 (.inr rfl) (R1.up 1 (.inr rfl)).1 (R1.up 1 (.inr rfl)).2;rw[<- Ga,w1 1 (.inr rfl),<- t1,Ga] at hB
 rcases hB with⟨a1,a2⟩ | ⟨R2,w2⟩
 ·exact .inl ⟨1,.inr rfl,Jp (.inr rfl) 8 a1 _,a2⟩
 have eq:([]++d.l.n.p.tick.bg.map (λ g=>((1:Int) - 0,g)))++d.r.n.p.tick.bg.map (λ g=>((1:Int) - 1,g))=d.l.n.p.tick.bg.map (λ h=>((1:Int),h))++d.r.n.p.tick.bg.map λ h=>((0:Int),h):=rfl;rw[eq] at R2
 rcases vu.fC hE 8 Oq ab R2 w2 end_ with⟨s,hs,a1,a2⟩ | ⟨w',i',q',k',R3⟩
 ·exact .inl ⟨s,hs,a1,a2⟩
 ·refine .inr λ s hs=>⟨R3.p s hs,(R3.up s hs).1,(R3.up s hs).2,R3.fb s hs,R3.fq s hs,R3.fl s hs⟩
end Go.Proofs.YtfolkckcakndkaaGreatDoor
