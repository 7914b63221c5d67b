/-
  Texts of this claim, put together: JPut, JForms, JOpen, JPlain, JOpen2, NodeF, LedLaw, AgreeLaw, FrameSpec2, FrameSpec3, NodeLaw0, JCrash, NodeLaw, NodeLaw2, VcPv, CWorldG, WorldSpec, CCentsG, CValueG, ValueSpec.
  Conditions: those of each theorem.
-/
import Derived.Test.YtmkehncgjnhhcaaGreatDoorQND22x0
import Derived.Test.YtmkehncgjnhhcaaGreatDoorQND22x1
import Derived.Test.YtmkehncgjnhhcaaGreatDoorQND22x2
import Derived.Test.YtmkehncgjnhhcaaGreatDoorQND22x3
import Derived.KernelRfl
import Derived.Laws.StructEq
import Derived.Test.YtmkehncgjnhhcaaGreatDoorProg
set_option linter.unusedVariables false
namespace Go.Proofs.YtmkehncgjnhhcaaGreatDoor
open Vc
def iU (s:bI)(d:Bool)(x:List UInt8):bI×Bool×Int×Bool:=
 if d||s.dead then(s,true,11,false) else if(x.length:Int) > 4000 then(s,false,5,false) else
 if(eU s (bP x)).2≠0 then((eU s (bP x)).1,(eU s (bP x)).2==11,(eU s (bP x)).2,false) else
 if(iq (eU s (bP x)).1).2≠0 then((iq (eU s (bP x)).1).1,(iq (eU s (bP x)).1).2==11,(iq (eU s (bP x)).1).2,false) else
 ((iq (eU s (bP x)).1).1,false,0,true)
def XX (i j l:Nat)(W0 W1:World)(Q:World->Prop):(Nat->Bool)->World->Prop:=fun D w=>
 (D i=false->w=W0)/\(D i=true->D j=false->w=W1)/\(D j=true->D i=true/\D l=true/\Q w)
def XY (W0 W1 W2 W3:World)(Q:World->Prop):(Nat->Bool)->World->Prop:=fun D w=>
 (D 6=false->w=W0)/\(D 6=true->D 7=false->w=W1)/\(D 7=true->D 6=true)/\(D 7=true->D 8=false->w=W2)/\(D 8=true->D 7=true/\D 4=true)/\(D 8=true->D 11=false->w=W3)/\(D 11=true->D 8=true/\Q w)
theorem iD.flag {w:World}{S:Nat->Prop}{p b g:Nat}{s:bI}{d:Bool}{rs:List (List UInt8)}(h:iD w S p b g s d rs)(e:Bool){K:World->Prop}(k:∀ w1,Fr (only p) w w1->iD w1 S p b g s e rs->K w1):az ((⟨p,0,none⟩:Addr).add 2) (.bool e) w K:=by
 obtain⟨a,⟨jl,b1,b2⟩,c,o⟩:=h;refine az.ah b1 (by simp) rfl fun w1 au f1 _=>k w1 f1 ?_;exact⟨a.ag f1 (fun t=>c.1 (Eq.symm t)) (fun t=>c.2 (Eq.symm t)),⟨jl,au,b2.ag f1 (fun k hk t=>(o k hk).1 t)⟩,c,o⟩
theorem N8 {w:World}{S:Nat->Prop}{p b g:Nat}{s:bI}{d:Bool}{rs:List (List UInt8)}{v:Sl}{x:List UInt8}(h:iD w S p b g s d rs)(hv:bd w v x)(HU:∀ k,aw v k->k<w.heap.size/\k≠p/\k≠b/\¬ S k)(hl:rs.length<=1000000):
  Ret Tryz.prog 44 #[.pointer (some ⟨p,0,none⟩),.slice v.1 v.2.1 v.2.2] w fun r w'=>r=.int .i64 (iU s d x).2.2.1/\HT w S p b g (iU s d x).1 (iU s d x).2.1 (if(iU s d x).2.2.2 then rs++[x] else rs) w':=by
 have cO:=hv.len;have xO:∀ w w',Fr (only p) w w'->Fr (tW S p b) w w':=fun w w' f=>f.mono fun k _ t=>.inl t;have bin:∀ w w',Fr (only b) w w'->Fr (tW S p b) w w':=fun w w' f=>f.mono fun k _ t=>.inr (.inl t);refine c44 _ v.1 v.2.1 v.2.2 w _ ?_;unfold C44;refine cy.of (fun _ w1=>Fr (only p) w w1/\iD w1 S p b g s (d||s.dead) rs) ?_ ?_
 ·have h0:=h
  obtain⟨hf,⟨jl,hp,_⟩,_⟩:=h0;refine ae.ah hp rfl ?_;refine aa.by (fun hd=>?_) (fun hd=>?_)
  ·refine h.flag true fun w1 f1 h1=>⟨f1,?_⟩
   rw[hd];exact h1
  ·refine ae.ah hp (x:=some ⟨b,0,none⟩) rfl ?_
   refine ab.of (NU hf) ?_;rintro _ _ ⟨rfl,rfl⟩;refine⟨_,rfl,?_⟩;refine h.flag s.dead fun w1 f1 h1=>⟨f1,?_⟩;rw[hd,Bool.false_or];exact h1
 rintro _ _ w1 ⟨f1,h1⟩;have oF:=h1;obtain⟨xd,⟨jl,C2,hj1⟩,ay,HV⟩:=h1;have acD:=oF.Av;have acE:=oF.slt;have tD:bd w1 v x:=hv.ag f1 (fun k hk t=>(HU k hk).2.1 t);have acF:=f1.size;refine ae.ah C2 rfl ?_;unfold iU;refine aa.by (fun hd=>?_) (fun hd=>?_)
 ·rw[if_pos hd]
  rw[hd] at oF;exact⟨rfl,xO _ _ f1,S,g,fun k hk=>.inl hk,.inr (.inl rfl),oF⟩
 rw[if_neg (by rw[hd];simp)];rw[hd] at oF;refine aa.dec (fun hq=>?_) (fun hq=>?_)
 ·rw[if_pos (by rw[<- cO];exact hq)]
  exact⟨rfl,xO _ _ f1,S,g,fun k hk=>.inl hk,.inr (.inl rfl),oF⟩
 rw[if_neg (by rw[<- cO];exact hq)];have kW:x.length<=4000:=by omega
 -- pack, and append
 have r0:=wE w1;generalize HW:({ w1 with drawn:=w1.drawn+1 }:World)=W0 at r0
 obtain⟨u,W1,ef,hu,q1,tX⟩:=XR (tD.af r0) kW;have N9:=(oF.af r0).af q1;have Oa:=r0.af C2;have XZ:=q1.af Oa;have e1:w1.heap.size<=W0.heap.size:=r0.size;have e2:W0.heap.size<=W1.heap.size:=q1.size;refine⟨⟨XX 5 6 3 W0 W1 (jW W1 b g (eU s (bP x)).1),⟨fun _=>HW,(fun t=>by cases t),(fun t=>by cases t)⟩,?_⟩⟩;refine⟨some ⟨b,0,none⟩,fun D w5 hD _ hC=>?_,?_⟩
 ·obtain⟨k1,k2,k3⟩:=hC
  have h6:D 6=false:=by
   cases X0:D 6 with
   | false=>rfl
   | true=>have:=(k3 X0).2.1;rw[hD] at this;cases this
  have Aw:∃ jl:Sl,w5.heap[p]? = some (.cells #[.pointer (some ⟨b,0,none⟩),.slice jl.1 jl.2.1 jl.2.2,.bool (d||s.dead)] 181 (0,0)):=by
   cases h5:D 5 with
   | false=>rw[k1 h5];exact⟨jl,Oa⟩
   | true=>rw[k2 h5 h6];exact⟨jl,XZ⟩
  obtain⟨_,Aw⟩:=Aw;refine ae.ah Aw (x:=some ⟨b,0,none⟩) rfl ⟨rfl,fun t=>?_,fun t t'=>?_,fun t=>?_⟩
  ·rw[fA _ (by decide)] at t;exact k1 t
  ·rw[fA _ (by decide)] at t t';exact k2 t t'
  ·rw[fA _ (by decide)] at t;rw[h6] at t;cases t
 refine⟨u,fun D w5 hD _ hC=>?_,?_⟩
 ·obtain⟨k1,k2,k3⟩:=hC
  obtain rfl:=k1 hD;refine ab.of ef ?_;rintro _ _ ⟨rfl,rfl⟩;refine⟨u,rfl,rfl,fun t=>?_,fun _ _=>rfl,fun t=>?_⟩
  ·rw[tU] at t;cases t
  ·rw[fA _ (by decide)] at t;have:=(k3 t).1;rw[hD] at this;cases this
 refine⟨(eU s (bP x)).2,fun D w5 hD hp hC=>?_,?_⟩
 ·obtain⟨k1,k2,k3⟩:=hC
  have h5:=hp 5 (by simp);have h3:=hp 3 (by simp);obtain rfl:=k2 h5 hD;refine ab.of (W4 N9.file hu.rd (fun t=>by have:=tX b t;have:=oF.file.lt;omega)) ?_;rintro _ w6 ⟨rfl,f6⟩;refine⟨_,rfl,rfl,fun t=>?_,fun _ t=>?_,fun _=>⟨?_,?_,f6⟩⟩
  ·rw[fA _ (by decide),h5] at t;cases t
  ·rw[tU] at t;cases t
  ·rw[fA _ (by decide),h5]
  ·rw[fA _ (by decide),h3]
 intro w2 hC;obtain⟨_,_,t2⟩:=hC.2.2 rfl;have Oc:Fr (tW S p b) w W1:=((xO _ _ f1).dq r0).dq q1;have f12:=t2.1;have uG:bd w2 v x:=((tD.af r0).af q1).ag f12 (fun k hk t=>(HU k hk).2.2.1 t);obtain⟨g2,mF,h2⟩:=N9.xN t2;have HX:Fr (tW S p b) w w2:=Oc.trans (bin _ _ f12);have Od:g2=b\/g2=g\/w.heap.size<=g2:=mF.imp id (Or.imp id (Nat.le_trans Oc.size));clear hC t2;generalize(eU s (bP x))=A at *;obtain⟨s1,ea⟩:=A;dsimp only at *;refine aa.eq (fun he=>?_) (fun he=>?_)
 ·subst he
  rw[if_neg (by simp)];have X1:=h2;obtain⟨pN,⟨jl2,X2,jX⟩,HY,acG⟩:=h2;refine ae.ah X2 (x:=some ⟨b,0,none⟩) rfl ?_;refine ab.of (W7 pN) ?_;rintro _ w3 ⟨rfl,t3⟩;refine⟨_,rfl,?_⟩;have f23:=t3.1;have qR:bd w3 v x:=uG.ag f23 (fun k hk t=>(HU k hk).2.2.1 t);obtain⟨g3,qk,h3⟩:=X1.xN t3;have HZ:Fr (tW S p b) w w3:=HX.trans (bin _ _ f23);have Oe:g3=b\/g3=g\/w.heap.size<=g3:=by
   rcases qk with t | t | t
   ·exact .inl t
   ·rw[t];exact Od
   ·exact .inr (.inr (Nat.le_trans HX.size t))
  clear t3;generalize(iq s1)=B at *;obtain⟨s2,eb⟩:=B;dsimp only at *;refine aa.ne (fun hb=>?_) (fun hb=>?_)
  ·rw[if_pos hb]
   refine h3.flag (eb==11) fun w4 f4 h4=>⟨rfl,HZ.trans (xO _ _ f4),S,g3,fun k hk=>.inl hk,Oe,h4⟩
  ·subst hb
   rw[if_neg (by simp)];have X3:=h3;obtain⟨mL,⟨xP,Ax,pz⟩,H0,C3⟩:=h3;have s0:=wE w3;generalize X4:({ w3 with drawn:=w3.drawn+1 }:World)=V0 at s0
   obtain⟨c,V1,ov,Au,m1,Of⟩:=N5 (qR.af s0) (by omega);have X5:=(pz.af s0).af m1;have hsz0:w3.heap.size<=V0.heap.size:=s0.size;have X6:=pz.lt;obtain⟨y,V2,z,V3,hy,m2,hz,m3,S',nH,X7⟩:=X5.snoc Au.rd Au.cap (fun k hk=>⟨aF.lt Au hk,fun t=>by have:=X6 k t;have:=Of k hk;omega⟩) hl;have Og:=s0.af Ax;have H2:=m1.af Og;have X8:=m2.af H2;have H3:¬ aw xP p:=fun t=>(C3 p (pz.own p t)).1 rfl;have X9:=m3.ag H2 H3;have Ya:Fr (tW S p b) w3 V3:=((s0.trans m1).mono fun _ _ t=>t.elim).trans (m3.mono fun k _ t=>.inr (.inr (pz.own k t)));have Yb:gN V3 b g3 s2:=((mL.af s0).af m1).ag m3 (fun t=>(C3 b (pz.own b t)).2.1 rfl) (fun t=>(C3 g3 (pz.own g3 t)).2.2 rfl);have acH:=X3.Av;have acI:=mL.lt;have acJ:=mL.qq;have yZ:=m1.size;have Ay:∀ k,S' k->S k\/w3.heap.size<=k:=fun k hk=>by
    rcases nH k hk with t | t | t
    ·exact .inl t
    ·have:=Of k t;exact .inr (by omega)
    ·exact .inr (by omega)
   have Oh:∀ k,S' k->k≠p/\k≠b/\k≠g3:=fun k hk=>by
    rcases Ay k hk with t | t
    ·exact C3 k t
    ·omega
   refine⟨⟨XY V0 V1 V2 V3 (fun w9=>Fr (only p) V3 w9/\w9.heap[p]? = some (.cells #[.pointer (some ⟨b,0,none⟩),.slice z.1 z.2.1 z.2.2,.bool false] 181 (0,0))),⟨fun _=>X4,(fun t=>by cases t),(fun t=>by cases t),(fun t=>by cases t),(fun t=>by cases t),(fun t=>by cases t),(fun t=>by cases t)⟩,?_⟩⟩;refine⟨xP,fun D w5 hD _ hC=>?_,?_⟩
   ·obtain⟨k1,k2,k3,k4,k5,k6,k7⟩:=hC
    have h8:D 8=false:=by
     cases hd:D 8 with
     | false=>rfl
     | true=>have:=(k5 hd).2;rw[hD] at this;cases this
    have lr:D 11=false:=by
     cases hd:D 11 with
     | false=>rfl
     | true=>have:=(k7 hd).1;rw[h8] at this;cases this
    have Aw:w5.heap[p]? = some (.cells #[.pointer (some ⟨b,0,none⟩),.slice xP.1 xP.2.1 xP.2.2,.bool (d||s.dead)] 181 (0,0)):=by
     rw[hd];cases h6:D 6 with
     | false=>rw[k1 h6];exact Og
     | true=>
      cases h7:D 7 with
      | false=>rw[k2 h6 h7];exact H2
      | true=>rw[k4 h7 h8];exact X8
    refine ae.ah Aw (x:=xP) rfl ⟨rfl,fun t=>?_,fun t t'=>?_,fun t=>?_,fun t t'=>?_,fun t=>?_,fun t=>?_,fun t=>?_⟩
    ·rw[fA _ (by decide)] at t;exact k1 t
    ·rw[fA _ (by decide)] at t t';exact k2 t t'
    ·rw[fA _ (by decide)] at t ⊢;exact k3 t
    ·rw[fA _ (by decide)] at t t';exact k4 t t'
    ·rw[fA _ (by decide)] at t;rw[h8] at t;cases t
    ·rw[fA _ (by decide)] at t;rw[h8] at t;cases t
    ·rw[fA _ (by decide)] at t;rw[lr] at t;cases t
   refine⟨c,fun D w5 hD _ hC=>?_,?_⟩
   ·obtain⟨k1,k2,k3,k4,k5,k6,k7⟩:=hC
    have h7:D 7=false:=by
     cases hd:D 7 with
     | false=>rfl
     | true=>have:=k3 hd;rw[hD] at this;cases this
    have h8:D 8=false:=by
     cases hd:D 8 with
     | false=>rfl
     | true=>have:=(k5 hd).1;rw[h7] at this;cases this
    have lr:D 11=false:=by
     cases hd:D 11 with
     | false=>rfl
     | true=>have:=(k7 hd).1;rw[h8] at this;cases this
    obtain rfl:=k1 hD;refine ab.of ov ?_;rintro _ _ ⟨rfl,rfl⟩;refine⟨c,rfl,rfl,fun t=>?_,fun _ _=>rfl,fun _=>tU _ _,fun t=>?_,fun t=>?_,fun t=>?_,fun t=>?_⟩
    ·rw[tU] at t;cases t
    ·rw[fA _ (by decide)] at t;rw[h7] at t;cases t
    ·rw[fA _ (by decide)] at t;rw[h8] at t;cases t
    ·rw[fA _ (by decide)] at t;rw[h8] at t;cases t
    ·rw[fA _ (by decide)] at t;rw[lr] at t;cases t
   refine⟨y,fun D w5 hD hp hC=>?_,?_⟩
   ·obtain⟨k1,k2,k3,k4,k5,k6,k7⟩:=hC
    have h6:=hp 6 (by simp);have h8:D 8=false:=by
     cases hd:D 8 with
     | false=>rfl
     | true=>have:=(k5 hd).1;rw[hD] at this;cases this
    have lr:D 11=false:=by
     cases hd:D 11 with
     | false=>rfl
     | true=>have:=(k7 hd).1;rw[h8] at this;cases this
    obtain rfl:=k2 h6 hD;refine⟨y,V2,hy,rfl,fun t=>?_,fun _ t=>?_,fun _=>?_,fun _ _=>rfl,fun t=>?_,fun t=>?_,fun t=>?_⟩
    ·rw[fA _ (by decide),h6] at t;cases t
    ·rw[tU] at t;cases t
    ·rw[fA _ (by decide),h6]
    ·rw[fA _ (by decide)] at t;rw[h8] at t;cases t
    ·rw[fA _ (by decide)] at t;rw[h8] at t;cases t
    ·rw[fA _ (by decide)] at t;rw[lr] at t;cases t
   refine⟨z,fun D w5 hD hp hC=>?_,?_⟩
   ·obtain⟨k1,k2,k3,k4,k5,k6,k7⟩:=hC
    have h4:=hp 4 (by simp);have h6:=hp 6 (by simp);have h7:=hp 7 (by simp);have lr:D 11=false:=by
     cases hd:D 11 with
     | false=>rfl
     | true=>have:=(k7 hd).1;rw[hD] at this;cases this
    obtain rfl:=k4 h7 hD;refine⟨z,V3,hz,rfl,fun t=>?_,fun _ t=>?_,fun _=>?_,fun _ t=>?_,fun _=>⟨?_,?_⟩,fun _ _=>rfl,fun t=>?_⟩
    ·rw[fA _ (by decide),h6] at t;cases t
    ·rw[fA _ (by decide),h7] at t;cases t
    ·rw[fA _ (by decide),h6]
    ·rw[tU] at t;cases t
    ·rw[fA _ (by decide),h7]
    ·rw[fA _ (by decide),h4]
    ·rw[fA _ (by decide)] at t;rw[lr] at t;cases t
   refine⟨(),fun D w5 hD hp hC=>?_,?_⟩
   ·obtain⟨k1,k2,k3,k4,k5,k6,k7⟩:=hC
    have h4:=hp 4 (by simp);have h6:=hp 6 (by simp);have h7:=hp 7 (by simp);have h8:=hp 8 (by simp);obtain rfl:=k6 h8 hD;refine az.ah X9 (by simp) rfl fun w9 H4 f9 _=>⟨rfl,fun t=>?_,fun _ t=>?_,fun _=>?_,fun _ t=>?_,fun _=>⟨?_,?_⟩,fun _ t=>?_,fun _=>⟨?_,f9,?_⟩⟩
    ·rw[fA _ (by decide),h6] at t;cases t
    ·rw[fA _ (by decide),h7] at t;cases t
    ·rw[fA _ (by decide),h6]
    ·rw[fA _ (by decide),h8] at t;cases t
    ·rw[fA _ (by decide),h7]
    ·rw[fA _ (by decide),h4]
    ·rw[tU] at t;cases t
    ·rw[fA _ (by decide),h8]
    ·exact H4
   intro w9 hC;obtain⟨_,f9,H4⟩:=hC.2.2.2.2.2.2 rfl;refine⟨rfl,(HZ.trans Ya).trans (xO _ _ f9),S',g3,fun k hk=>(Ay k hk).imp id (Nat.le_trans HZ.size),Oe,Yb.ag f9 (fun t=>H0.1 (Eq.symm t)) (fun t=>H0.2 (Eq.symm t)),⟨z,H4,X7.ag f9 (fun k hk t=>(Oh k hk).1 t)⟩,H0,Oh⟩
 ·refine aa.ne (fun hb=>?_) (fun hb=>absurd hb he)
  rw[if_pos hb];exact h2.flag (ea==11) fun w4 f4 h4=>⟨rfl,HX.trans (xO _ _ f4),S,g2,fun k hk=>.inl hk,Od,h4⟩
theorem Yc {s:bI}{x:List UInt8}(hl:s.lit=false)(hd:s.dead=false)(hx:x.length<=4000)(h:(x.length:Int)+3<=s.cr - s.b.length):
  (iU s false x).2.2.1=0/\(iU s false x).2.2.2=true/\(iU s false x).2.1=false/\(iU s false x).1.b=s.b++bP x/\(iU s false x).1.cr=s.cr/\(iU s false x).1.synced=(s.b++bP x).length/\(iU s false x).1.lit=false/\(iU s false x).1.dead=false:=by
 obtain⟨a1,a2,a3,a4,a5,a6⟩:=Xr (s:=s) (x:=bP x) hl hd (by rw[oE];omega);obtain⟨b1,b2,b3,b4,b5,b6⟩:=Xs a5 a6;unfold iU;rw[hd,if_neg (by simp),if_neg (by omega),if_neg (by rw[a1];simp),if_neg (by rw[b1];simp)];exact⟨rfl,rfl,rfl,b2.trans a2,b3.trans a3,by rw[b4,a2],b5,b6⟩
theorem Yd (x c:UInt8):sF x (c.toNat:Int)=x ^^^ c:=by
 unfold sF;apply UInt8.toNat_inj.1;have h1:∀ y:UInt8,(BitVec.ofInt 8 (y.toNat:Int))=y.toBitVec:=fun y=>by
  apply BitVec.eq_of_toNat_eq;rw[BitVec.ofInt_natCast,BitVec.toNat_ofNat,Nat.mod_eq_of_lt (UInt8.toNat_lt _)];rfl
 rw[h1,h1,UInt8.toNat_ofNat',Nat.mod_eq_of_lt (BitVec.isLt _)];rfl
theorem xQ (a c:UInt8)(bs:List UInt8):kj a (c::bs)=kj (a ^^^ c) bs:=by
 unfold kj;rw[List.foldl_cons,Yd]
theorem Oi (a:UInt8)(bs:List UInt8):kj a bs=a ^^^ kj 0 bs:=by
 induction bs generalizing a with
 | nil=>unfold kj;simp
 | cons c bs ih=>rw[xQ,xQ,ih,ih (0 ^^^ c),UInt8.xor_assoc,UInt8.zero_xor]
theorem Oj {z:Int}(h0:0<=z)(h1:z<=255):((toByte z).toNat:Int)=z:=by
 have:=HO h0 h1;unfold bc at this;injection this with _ h
 omega
theorem bd.cellAt {w:World}{v:Sl}{bs:List UInt8}(h:bd w v bs){i:Int}(h0:0<=i)(h1:i<v.2.1):∃ a,v.1=some a/\∀ w',Fr none1 w w'->w'.cell? (a.add (i.toNat * 1))=some (.int .u8 ((bs.getD i.toNat 0).toNat:Int)):=by
 have hl:=h.len;obtain⟨q1,q2,q3⟩:=h;cases hv:v.1 with
 | none=>have:=(q2 hv).1;omega
 | some a=>
  refine⟨a,rfl,fun w' f=>f.cell0 ?_⟩;have:=wD (bs.map bc) 0 i.toNat (bc (bs.getD i.toNat 0)) (q3 a hv) (by
   rw[List.getElem?_map,List.getElem?_eq_getElem (by omega),List.getD_eq_getElem?_getD,List.getElem?_eq_getElem (by omega)];rfl)
  rw[Nat.zero_add] at this;rw[Nat.mul_one];exact this
def nI (bs:List UInt8):Nat:=256 * (bs.getD 0 0).toNat+(bs.getD 1 0).toNat
def jo (bs:List UInt8):Option (List UInt8×List UInt8):=
 if bs.length<2 then none else if 4000<nI bs then none else if bs.length<nI bs+3 then none else
 if bs.getD (2+nI bs) 0≠kj 150 (bs.take (2+nI bs)) then none else some ((bs.drop 2).take (nI bs),bs.drop (nI bs+3))
theorem Ye (a b:UInt8):((BitVec.ofInt 64 ((a.toNat:Int) * 256) ||| BitVec.ofInt 64 (b.toNat:Int)).toNat:Int)=256 * (a.toNat:Int)+(b.toNat:Int):=by
 have ha:=UInt8.toNat_lt a;have hb:=UInt8.toNat_lt b;have e1:(BitVec.ofInt 64 ((a.toNat:Int) * 256)).toNat=2 ^ 8 * a.toNat:=by
  rw[show(a.toNat:Int) * 256=((2 ^ 8 * a.toNat:Nat):Int) by omega,BitVec.ofInt_natCast,BitVec.toNat_ofNat,Nat.mod_eq_of_lt (by omega)]
 have e2:(BitVec.ofInt 64 (b.toNat:Int)).toNat=b.toNat:=by
  rw[BitVec.ofInt_natCast,BitVec.toNat_ofNat,Nat.mod_eq_of_lt (by omega)]
 rw[BitVec.toNat_or,e1,e2,<- Nat.two_pow_add_eq_or_of_lt (by omega)];omega
def Ol (w:World)(v:Sl)(bs:List UInt8)(r:Value)(w':World):Prop:=
 Fr none1 w w'/\match jo bs with
 | none=>r=.tuple #[.slice none 0 0,.slice v.1 v.2.1 v.2.2,.bool false]
 | some (x,t)=>∃ u q:Sl,r=.tuple #[.slice u.1 u.2.1 u.2.2,.slice q.1 q.2.1 q.2.2,.bool true]/\cd w' u x/\(∀ k,aw u k->w.heap.size<=k)/\bd w' q t/\q.2.1<=q.2.2/\∀ k,aw q k->aw v k
theorem Yf {w:World}{v:Sl}{bs:List UInt8}(h:bd w v bs)(hc:v.2.1<=v.2.2)(hl:bs.length<=1000000):Ret Tryz.prog 87 #[.slice v.1 v.2.1 v.2.2] w (Ol w v bs):=by
 have cO:=h.len;refine c87 v.1 v.2.1 v.2.2 w _ ?_;unfold C87 Ol jo;refine aa.dec (fun h2=>?_) (fun h2=>?_)
 ·rw[if_pos (by omega)];exact⟨Fr.refl _ _,rfl⟩
 rw[if_neg (by omega)];obtain⟨a0,Yg,Yh⟩:=h.cellAt (i:=0) (by omega) (by omega);obtain⟨a1,Yi,Yj⟩:=h.cellAt (i:=1) (by omega) (by omega);have b0:=UInt8.toNat_lt (bs.getD 0 0);have b1:=UInt8.toNat_lt (bs.getD 1 0);refine oN.nD ?_;refine⟨a0,Yg,by omega,by omega,?_⟩;refine gn.nD ((bs.getD 0 0).toNat:Int) (fun w7 f7=>ae.cell (Yh w7 f7) ⟨rfl,f7⟩) ?_;refine gn.nD (IntKind.i64.wrap ((bs.getD 0 0).toNat:Int)) (fun w7 f7=>⟨rfl,f7⟩) ?_;refine⟨by omega,a1,Yi,by omega,by omega,?_⟩;refine gn.nD ((bs.getD 1 0).toNat:Int) (fun w7 f7=>ae.cell (Yj w7 f7) ⟨rfl,f7⟩) ?_;refine gn.nD (IntKind.i64.wrap ((bs.getD 1 0).toNat:Int)) (fun w7 f7=>⟨rfl,f7⟩) ?_;intro w1 f1;have f1:Fr none1 w w1:=f1;have Yk:IntKind.i64.wrap ((BitVec.ofInt 64 (IntKind.i64.wrap (IntKind.i64.wrap ((bs.getD 0 0).toNat:Int) * 2 ^ (min (Int.toNat 8) 64))) ||| BitVec.ofInt 64 (IntKind.i64.wrap ((bs.getD 1 0).toNat:Int))).toNat:Int)=(nI bs:Int):=by
  rw[wI (x:=((bs.getD 0 0).toNat:Int)) (by omega) (by omega),wI (x:=((bs.getD 1 0).toNat:Int)) (by omega) (by omega),show(2:Int) ^ (min (Int.toNat 8) 64)=256 from rfl,wI (x:=((bs.getD 0 0).toNat:Int) * 256) (by omega) (by omega),Ye];unfold nI;rw[wI (by omega) (by omega)];omega
 have acK:nI bs<=65535:=by unfold nI;omega
 rw[Yk];generalize nI bs=n at *;rw[wI (x:=2+(n:Int)) (by omega) (by omega),wI (x:=2+(n:Int)+1) (by omega) (by omega)];refine oN.nD ?_;refine aa.dec (fun h3=>?_) (fun h3=>?_)
 ·rw[if_pos (by omega)]
  refine⟨fun D w2 f2=>f2,⟨fun D w2 f2=>f2,fun w2 f2=>?_⟩⟩;have f2:Fr none1 w1 w2:=f2;exact⟨f1.trans f2,rfl⟩
 rw[if_neg (by omega)];refine aa.dec (fun h4=>?_) (fun h4=>?_)
 ·rw[if_pos (by omega)]
  refine⟨fun D w2 f2=>f2,⟨fun D w2 f2=>f2,fun w2 f2=>?_⟩⟩;have f2:Fr none1 w1 w2:=f2;exact⟨f1.trans f2,rfl⟩
 rw[if_neg (by omega)];have r1:=h.af f1;obtain⟨a2,Yl,Om⟩:=r1.cellAt (i:=2+(n:Int)) (by omega) (by omega);rw[show(2+(n:Int)).toNat=2+n by omega] at Om;refine⟨a2,Yl,by omega,by omega,?_⟩;rw[show(2+(n:Int)).toNat=2+n by omega];refine gn.nD ((bs.getD (2+n) 0).toNat:Int) (fun w7 f7=>ae.cell (Om w7 f7) ⟨rfl,f7⟩) ?_;refine bd.sub r1 (n:=2+(n:Int)) (by omega) (by omega) hc fun hs=>?_;rw[show(2+(n:Int)).toNat=2+n by omega] at hs;refine gn.nD ((kj 150 (bs.take (2+n))).toNat:Int) (fun w7 f7=>?_) ?_
 ·refine ab.of (N6 (v:=(v.1,(2+(n:Int)).toNat,v.2.2)) (bs:=bs.take (2+n)) ?_ (by simp only[List.length_take];omega)) ?_
  ·rw[show(2+(n:Int)).toNat=2+n by omega];exact hs.af f7
  rintro _ _ ⟨rfl,rfl⟩;exact⟨_,rfl,rfl,f7⟩
 intro w2 f2;have f2:Fr none1 w1 w2:=f2;refine aa.ne (fun ay=>?_) (fun heq=>?_)
 ·rw[if_pos (fun t=>ay (by rw[t]))]
  exact⟨f1.trans f2,rfl⟩
 rw[if_neg (by rw[Decidable.not_not];exact UInt8.toNat_inj.1 (by omega))];have nJ:=f1.trans f2;have r0:=wE w2;generalize HW:({ w2 with drawn:=w2.drawn+1 }:World)=W0 at r0
 have On:=(h.af nJ).af r0;have Ym:((bs.drop (2:Int).toNat).take (2+(n:Int) - 2).toNat)=(bs.drop 2).take n:=by rw[show(2+(n:Int) - 2).toNat=n by omega];rfl
 -- the record in new memory
 obtain⟨jV,Yn,Yo⟩:∃ jV:Sl,bd W0 jV ((bs.drop 2).take n)/\∀ K:Option Addr->Nat->Nat->Prop,K jV.1 jV.2.1 jV.2.2->eX v.1 v.2.2 2 (2+(n:Int)) v.2.2 1 K:=by
  have:=bd.jV On (lo:=2) (hi:=2+(n:Int)) (K:=fun a l c=>∃ u:Sl,u=(a,l,c)/\bd W0 u ((bs.drop 2).take n)) (by omega) (by omega) (by omega) hc (fun u hu _ _ _=>⟨u,rfl,by rw[Ym] at hu;exact hu⟩);obtain⟨q1,q2,q3,q4,u,hu,hr⟩:=this.out;exact⟨u,hr,fun K hK=>⟨q1,q2,q3,q4,by rw[hu] at hK;exact hK⟩⟩
 obtain⟨u,W1,ef,hu,q1,tX⟩:=N5 Yn (by simp only[List.length_take,List.length_drop];omega);refine⟨⟨fun D w9=>(D 4=false->w9=W0)/\(D 4=true->w9=W1),⟨fun _=>HW,(fun t=>by cases t)⟩,?_⟩⟩;refine Yo _ ?_;refine⟨u,fun D w9 hD _ hC=>?_,?_⟩
 ·obtain rfl:=hC.1 hD
  refine ab.of ef ?_;rintro _ _ ⟨rfl,rfl⟩;exact⟨u,rfl,rfl,(fun t=>by rw[tU] at t;cases t),fun _=>rfl⟩
 refine bd.jV ((On.af q1)) (lo:=2+(n:Int)+1) (hi:=v.2.1) (by omega) (by omega) (Int.le_refl _) hc fun q hq C4 _ qv=>?_;intro w9 hC;obtain rfl:=hC.2 rfl;have e4:((bs.drop (2+(n:Int)+1).toNat).take ((v.2.1:Int) - (2+(n:Int)+1)).toNat)=bs.drop (n+3):=by
  rw[show(2+(n:Int)+1).toNat=n+3 by omega,List.take_of_length_le (by simp only[List.length_drop];omega)]
 rw[e4] at hq;refine⟨(nJ.trans r0).trans q1,u,q,rfl,hu,fun k hk=>?_,hq,C4,qv⟩;exact Nat.le_trans (nJ.trans r0).size (tX k hk)
theorem H5 {bs x t:List UInt8}(h:jo bs=some (x,t)):t.length+3<=bs.length/\x.length+t.length+3=bs.length/\x.length<=4000:=by
 unfold jo at h;split at h
 ·cases h
 split at h
 ·cases h
 split at h
 ·cases h
 split at h
 ·cases h
 injection h with h
 injection h with h1 h2
 subst h1;subst h2;simp only[List.length_take,List.length_drop];omega
inductive mN:List UInt8->List (List UInt8)->List UInt8->Prop where
 | stop {bs:List UInt8}:jo bs=none->mN bs [] bs
 | next {bs x t q:List UInt8} {l:List (List UInt8)}:jo bs=some (x,t)->mN t l q->mN bs (x::l) q
theorem mN.len {bs q:List UInt8}{l:List (List UInt8)}(h:mN bs l q):q.length+3 * l.length<=bs.length/\∀ r∈l,r.length<=4000:=by
 induction h with
 | stop _=>simp
 | next h _ ih=>
  have:=H5 h;simp only[List.length_cons,List.mem_cons];refine⟨by omega,fun r hr=>?_⟩
  rcases hr with rfl | hr
  ·exact this.2.2
  ·exact ih.2 r hr
def acL (w:World)(b g:Nat)(s:bI)(rows:List (List UInt8))(rest:List UInt8)(r:Value)(w':World):Prop:=
 ∃ (p:Nat) (S:Nat->Prop) (g':Nat) (s':bI),r=.tuple #[.pointer (some ⟨p,0,none⟩),.int .i64 0]/\w.heap.size<=p/\Fr (only b) w w'/\(∀ k,S k->w.heap.size<=k)/\(g'=b\/g'=g\/w.heap.size<=g')/\iD w' S p b g' s' false rows /\
  s'.b=s.b.take (s.b.length - rest.length)/\s'.cr=s.cr/\s'.lit=false/\s'.dead=false/\(s'.synced=s.synced/\rest=[]\/s'.synced=s'.b.length)
theorem ja.row {w:World}{S:Nat->Prop}{v:Sl}{rs:List (List UInt8)}(h:ja w S v rs){i:Int}(h0:0<=i)(h1:i<v.2.1){K:Sl->Prop}(k:∀ u:Sl,bd w u (rs.getD i.toNat [])->K u):bQ v.1 v.2.1 i 1 fun p=>ae .aj p w K:=by
 have hl:=h.len;obtain⟨⟨us,a1,a2,a3,a4⟩,o,l⟩:=h;have hi:i.toNat<us.length:=by omega
 exact aF.ld a1 h0 h1 (x:=us.getD i.toNat Ar) (by rw[List.getElem?_map,List.getD_eq_getElem?_getD,List.getElem?_eq_getElem hi];rfl) (k _ (a3 i.toNat hi))
theorem ja.Yp {w:World}{S:Nat->Prop}{v:Sl}{rs:List (List UInt8)}(h:ja w S v rs){i:Int}(h0:0<=i)(h1:i<v.2.1){K:Sl->Prop}(k:∀ u:Sl,bd w u (rs.getD i.toNat [])->u.2.1<=u.2.2->(∀ k,aw u k->S k)->K u):bQ v.1 v.2.1 i 1 fun p=>ae .aj p w K:=by
 have hl:=h.len;obtain⟨⟨us,a1,a2,a3,a4⟩,o,l⟩:=h;have hi:i.toNat<us.length:=by omega
 have hm:us.getD i.toNat Ar∈us:=by rw[List.getD_eq_getElem?_getD,List.getElem?_eq_getElem hi];exact List.getElem_mem hi
 exact aF.ld a1 h0 h1 (x:=us.getD i.toNat Ar) (by rw[List.getElem?_map,List.getD_eq_getElem?_getD,List.getElem?_eq_getElem hi];rfl) (k _ (a3 i.toNat hi) (a4 _ hm).2 fun k hk=>((a4 _ hm).1 k hk).1)
theorem Oo {a b c:UInt8}(h:a ^^^ c=b ^^^ c):a=b:=by
 have:(a ^^^ c) ^^^ c=(b ^^^ c) ^^^ c:=by rw[h]
 rwa[UInt8.xor_assoc,UInt8.xor_assoc,UInt8.xor_self,UInt8.xor_zero,UInt8.xor_zero] at this
theorem Yq {a b c:UInt8}(h:c ^^^ a=c ^^^ b):a=b:=by
 rw[UInt8.xor_comm c a,UInt8.xor_comm c b] at h;exact Oo h
theorem Oq:∀ (l:List UInt8) (a v:UInt8) (j:Nat),j<l.length->kj a (l.set j v)=kj a l->v=l.getD j 0
 | [],_,_,_,h,_=>by simp at h
 | c::l,a,v,0,_,h=>by
  rw[List.set_cons_zero,xQ,xQ,Oi (a ^^^ v),Oi (a ^^^ c)] at h;exact Yq (Oo h)
 | c::l,a,v,j+1,hj,h=>by
  rw[List.set_cons_succ,xQ,xQ] at h;have:=Oq l (a ^^^ c) v j (by simpa using hj) h;simpa using this
def hd (n:Nat):List UInt8:=[toByte ((n:Int) / 256),toByte ((n:Int) % 256)]
theorem Ot {n:Nat}(h:n<=4000)(t:List UInt8):nI (hd n++t)=n:=by
 have e1:=Oj (z:=(n:Int) / 256) (by omega) (by omega);have e2:=Oj (z:=(n:Int) % 256) (by omega) (by omega);show 256 * (toByte ((n:Int) / 256)).toNat+(toByte ((n:Int) % 256)).toNat=n;omega
theorem H6 {n:Nat}(hn:n<=4000){m t:List UInt8}(hm:m.length=n)(e:UInt8):jo (hd n++m++[e]++t)=if e=kj 150 (hd n++m) then some (m,t) else none:=by
 have hs:nI (hd n++m++[e]++t)=n:=by
  rw[List.append_assoc,List.append_assoc];exact Ot hn _
 have hlen:(hd n++m).length=2+n:=by rw[List.length_append,hm];rfl
 unfold jo;have acM:(hd n++m++[e]++t).length=2+n+1+t.length:=by rw[List.length_append,List.length_append,hlen];rfl
 rw[hs,if_neg (by omega),if_neg (by omega),if_neg (by omega)];have e1:(hd n++m++[e]++t).getD (2+n) 0=e:=by
  rw[List.getD_eq_getElem?_getD,List.append_assoc,List.getElem?_append_right (by omega),hlen,Nat.sub_self];rfl
 have e2:(hd n++m++[e]++t).take (2+n)=hd n++m:=by
  rw[List.append_assoc,<- hlen,List.take_left]
 have e3:((hd n++m++[e]++t).drop 2).take n=m:=by
  show((m++[e]++t)).take n=m;rw[List.append_assoc,<- hm,List.take_left]
 have e4:(hd n++m++[e]++t).drop (n+3)=t:=by
  rw[show n+3=(hd n++m++[e]).length by simp[hd,hm],List.drop_left]
 rw[e1,e2,e3,e4]
 by_cases h:e=kj 150 (hd n++m)
 ·rw[if_neg (by simpa using h),if_pos h]
 ·rw[if_pos h,if_neg h]
theorem H7 (x:List UInt8):bP x=hd x.length++x++[kj 150 (hd x.length++x)]:=rfl
theorem Yr {x:List UInt8}(t:List UInt8)(h:x.length<=4000):jo (bP x++t)=some (x,t):=by
 rw[H7,H6 h rfl,if_pos rfl]
theorem Ys {x:List UInt8}(t:List UInt8)(h:x.length<=4000){j:Nat}{v:UInt8}(h2:2<=j)(hj:j<x.length+3)(hv:v≠(bP x).getD j 0):jo ((bP x).set j v++t)=none:=by
 have hh:(hd x.length).length=2:=rfl;have hl:(hd x.length++x).length=2+x.length:=by rw[List.length_append,hh]
 rw[H7] at hv ⊢
 by_cases he:j=2+x.length
 ·subst he
  rw[List.set_append_right _ _ (by omega),hl,Nat.sub_self,List.set_cons_zero,H6 h rfl,if_neg];intro t;apply hv;rw[t,List.getD_eq_getElem?_getD,List.getElem?_append_right (by omega),hl,Nat.sub_self];rfl
 ·have e0:(hd x.length++x).set j v=hd x.length++x.set (j - 2) v:=by
   rw[List.set_append_right _ _ (by omega)];rfl
  rw[List.set_append_left _ _ (by omega),e0,H6 h (by simp),if_neg];intro t;apply hv;rw[<- e0] at t;have:=Oq _ 150 v j (by omega) t.symm;rw[this,G1 (hd x.length++x) _ _ (by omega)]
def dm:List (List UInt8)->List UInt8
 | []=>[]
 | x::l=>bP x++dm l
theorem Yt (a b:List (List UInt8)):dm (a++b)=dm a++dm b:=by
 induction a with
 | nil=>rfl
 | cons x l ih=>show bP x++dm (l++b)=(bP x++dm l)++dm b;rw[ih,List.append_assoc]
theorem Az (a:List (List UInt8))(x:List UInt8):dm (a++[x])=dm a++bP x:=by
 rw[Yt];show dm a++(bP x++[])=_;rw[List.append_nil]
theorem C7 {t:List UInt8}(ht:jo t=none):∀ (l:List (List UInt8)),(∀ r∈l,r.length<=4000)->mN (dm l++t) l t
 | [],_=>.stop ht
 | x::l,h=>by
  refine .next (x:=x) (t:=dm l++t) ?_ (C7 ht l fun r hr=>h r (by simp[hr]));show jo (bP x++dm l++t)=_;rw[List.append_assoc];exact Yr _ (h x (by simp))
theorem Ou:jo []=none:=by unfold jo;rw[if_pos (by simp)]
def Yu (w:World)(b g:Nat)(s:bI)(rows:List (List UInt8))(rest:List UInt8)(r:Value)(w':World):Prop:=
 (∃ (p:Nat) (S:Nat->Prop) (g':Nat) (s':bI),r=.tuple #[.pointer (some ⟨p,0,none⟩),.int .i64 0]/\w.heap.size<=p/\Fr (only b) w w'/\(∀ k,S k->w.heap.size<=k)/\(g'=b\/g'=g\/w.heap.size<=g')/\iD w' S p b g' s' false rows /\
  (rest=[]/\s'=s\/rest≠[]/\(lJ s ((s.b.length - rest.length:Nat):Int)).2=0/\s'=(lJ s ((s.b.length - rest.length:Nat):Int)).1)) \/
 (rest≠[]/\(lJ s ((s.b.length - rest.length:Nat):Int)).2≠0/\r=.tuple #[.pointer none,.int .i64 (lJ s ((s.b.length - rest.length:Nat):Int)).2]/\jW w b g (lJ s ((s.b.length - rest.length:Nat):Int)).1 w')
theorem Yv {w:World}{b g:Nat}{s:bI}{rows:List (List UInt8)}{rest:List UInt8}(h:gN w b g s)(hd:s.dead=false)(hP:mN s.b rows rest):
  Ret Tryz.prog 39 #[.pointer (some ⟨b,0,none⟩)] w (Yu w b g s rows rest):=by
 have lA:=h.lt;have l0:=h.qq;have jh:=h.ok.len;refine c39 _ w _ ?_;refine ab.of (NU h) ?_;rintro _ _ ⟨rfl,rfl⟩;rw[hd];refine⟨_,rfl,aa.f rfl ?_⟩;refine ak.of fun p w1 hp C2 f1 kq=>?_;have h1:=h.af f1;refine ab.of (WY h1) ?_;rintro _ w2 ⟨u,rfl,hu,f2,tX⟩;refine⟨u,rfl,?_⟩;have dk:=hu.len;have nJ:=f1.trans f2;have W6:=f2.size;have Ov:∀ k,aw u k->k<w2.heap.size:=fun k hk=>aF.lt hu hk;have F0:Fr (only p) w2 w2:=Fr.refl _ _;refine bC.of (fun q w'=>∃ (jl:Sl) (S:Nat->Prop) (rs:List (List UInt8)) (bs:List UInt8),bd w' q.1 bs/\q.1.2.1<=q.1.2.2/\(∀ k,aw q.1 k->aw u k)/\(∃ l,rows=rs++l/\mN bs l rest)/\bs.length+3 * rs.length<=s.b.length /\
   w'.heap[p]? = some (.cells #[.pointer (some ⟨b,0,none⟩),.slice jl.1 jl.2.1 jl.2.2,.bool false] 181 (0,0))/\ja w' S jl rs/\(∀ k,S k->w2.heap.size<=k)/\Fr (only p) w2 w') (fun q _=>q.1.2.1)
  ⟨(none,0,0),fun _=>False,[],s.b,hu.rd,hu.cap,fun k hk=>hk,⟨rows,rfl,hP⟩,by simp,f2.af C2,As _ _ (fun k t=>t.elim),fun k t=>t.elim,F0⟩ ?_
 rintro _ ⟨q,_⟩ w3 ⟨jl,S,rs,bs,hq,C4,qv,⟨l,rm,Da⟩,hlen,Ax,pz,hS,f3⟩;dsimp only at hq C4 qv ⊢;have Yw:=hq.len;refine ab.of (Yf hq C4 (by omega)) ?_;rintro r w4 ⟨f4,hr⟩;have xR:=f4.af Ax;have Ow:=pz.af f4;have f24:Fr (only p) w2 w4:=f3.dq f4;have WB:=f24.size;cases Da with
 | stop hn=>
  rw[hn] at hr;dsimp only at hr;subst hr;refine⟨((none,0,0),(q.1,q.2.1,q.2.2),false,()),rfl,aa.t rfl ?_⟩;rw[List.append_nil] at rm;subst rm;have h4:gN w4 b g s:=(h.af nJ).ag f24 (fun t=>by have:b=p:=t;omega) (fun t=>by have:g=p:=t;omega);have j4:iD w4 S p b g s false rows:=⟨h4,⟨jl,xR,Ow⟩,by omega,fun k hk=>by have:=hS k hk;omega⟩;refine aa.dec (fun oT=>?_) (fun hz=>?_)
  ·have CQ:((u.2.1:Int) - (q.2.1:Int))=((s.b.length - rest.length:Nat):Int):=by omega
   rw[wI (x:=(u.2.1:Int) - (q.2.1:Int)) (by omega) (by omega),CQ];have zK:rest≠[]:=fun e=>by rw[e,List.length_nil] at Yw;omega
   refine ab.of (W8 h4 _) ?_;rintro _ w5 ⟨rfl,t5⟩;have f5:=t5.1;have zd:=nJ.fresh f24 (by omega);obtain⟨g',qw,j5⟩:=j4.xN t5;have AA:g'=b\/g'=g\/w.heap.size<=g':=by
    have:=zd.size
    rcases qw with t | t | t
    ·exact .inl t
    ·exact .inr (.inl t)
    ·exact .inr (.inr (by omega))
   refine⟨_,rfl,aa.ne (fun he=>?_) (fun he=>?_)⟩
   ·refine .inr ⟨zK,he,rfl,(zd.mono fun _ _ t=>t.elim).trans f5,g',AA,j5.file⟩
   ·exact .inl ⟨p,S,g',_,rfl,by omega,(zd.mono fun _ _ t=>t.elim).trans f5,fun k hk=>Nat.le_trans nJ.size (hS k hk),AA,j5,.inr ⟨zK,he,rfl⟩⟩
  ·have Yx:rest=[]:=List.eq_nil_of_length_eq_zero (by omega)
   exact .inl ⟨p,S,g,s,rfl,by omega,(nJ.fresh f24 (by omega)).mono fun _ _ t=>t.elim,fun k hk=>Nat.le_trans nJ.size (hS k hk),.inr (.inl rfl),j4,.inl ⟨Yx,rfl⟩⟩
 | next hf Yy=>
  rename_i x t l';rw[hf] at hr;obtain⟨y,q2,hr,hy,Ox,oS,Yz,Db⟩:=hr;subst hr;have aU:=H5 hf;refine⟨((y.1,y.2.1,y.2.2),(q2.1,q2.2.1,q2.2.2),true,()),rfl,aa.f rfl ?_⟩;refine ae.ah xR (x:=jl) rfl ?_;have Dc:=f4.size;have s23:=f3.size;have C0:=pz.lt;obtain⟨m,w5,z,w6,r1,f5,r2,f6,S',nH,hz⟩:=Ow.snoc hy.rd hy.cap (fun k hk=>⟨aF.lt hy hk,fun t=>by have:=C0 k t;have:=Ox k hk;omega⟩) (by omega);refine⟨m,w5,r1,z,w6,r2,?_⟩;have H3:¬ aw jl p:=fun t=>by have:=hS p (pz.own p t);omega
  have YA:=f6.ag xR H3;refine az.ah YA (by simp) rfl fun w7 YB f7 _=>?_;have Ay:∀ k,S' k->w2.heap.size<=k:=fun k hk=>by
   rcases nH k hk with t | t | t
   ·exact hS k t
   ·have:=Ox k t;omega
   ·omega
  have f46:∀ k,aw q2 k->¬ aw jl k:=fun k hk t=>by have:=Ov k (qv k (Db k hk));have:=hS k (pz.own k t);omega
  have YC:bd w7 q2 t:=(oS.ag f6 f46).ag f7 (fun k hk t=>by have:=Ov k (qv k (Db k hk));have:=tX k (qv k (Db k hk));have:k=p:=t;omega);refine⟨⟨z,S',rs++[x],t,YC,Yz,fun k hk=>qv k (Db k hk),⟨l',by rw[rm];simp,Yy⟩,by simp only[List.length_append,List.length_singleton];omega,YB,hz.ag f7 (fun k hk t=>by have:=Ay k hk;have:k=p:=t;omega),Ay,?_⟩,?_⟩
  ·exact(f24.comp f6 (fun x hx t=>by have:=hS x (pz.own x t);omega)).trans f7
  ·have:=oS.len
   dsimp only;omega
theorem YD:∀ (n:Nat) (bs:List UInt8),bs.length<=n->∃ rows rest,mN bs rows rest:=by
 intro n
 induction n with
 | zero=>
  intro bs h;refine⟨[],bs,.stop ?_⟩;unfold jo;rw[if_pos (by omega)]
 | succ n ih=>
  intro bs h;cases hf:jo bs with
  | none=>exact⟨[],bs,.stop hf⟩
  | some xt=>
   obtain⟨x,t⟩:=xt;have:=H5 hf;obtain⟨rows,rest,hp⟩:=ih t (by omega);exact⟨x::rows,rest,.next hf hp⟩
set_option maxRecDepth 100000
def xS:Nat->List UInt8->List (List UInt8)×List UInt8
 | 0,bs=>([],bs)
 | n+1,bs=>match jo bs with
  | none=>([],bs)
  | some (x,t)=>(x::(xS n t).1,(xS n t).2)
def vG (bs:List UInt8):List (List UInt8)×List UInt8:=xS bs.length bs
def ma (s:bI):bI×List (List UInt8)×Int:=
 if s.dead=true then(s,[],11) else if(vG s.b).2=[] then(s,(vG s.b).1,0) else
 ((lJ s ((s.b.length - (vG s.b).2.length:Nat):Int)).1,if(lJ s ((s.b.length - (vG s.b).2.length:Nat):Int)).2≠0 then[] else(vG s.b).1,(lJ s ((s.b.length - (vG s.b).2.length:Nat):Int)).2)
structure jY where
 fs:bI
 d:Bool
 rs:List (List UInt8)
def jY.put (j:jY)(x:List UInt8):jY×Int:=
 (⟨(iU j.fs j.d x).1,(iU j.fs j.d x).2.1,if(iU j.fs j.d x).2.2.2=true then j.rs++[x] else j.rs⟩,(iU j.fs j.d x).2.2.1)
structure sH where
 e:Int
 h:Int
 s:Int->Bool
def vH:sH:=⟨-1,-1,fun _=>false⟩
def sH.acc (w:sH)(ep n:Int):Bool:=jF w.e w.h w.s ep n
def sH.accept (w:sH)(ep n:Int):sH:=⟨tS w.e ep (w.acc ep n),rk w.e w.h ep n (w.acc ep n),tT w.e ep n w.s (w.acc ep n)⟩
structure NodeM where
 kb:List UInt8
 side:Int
 j:jY
 p:PeerM
 w:sH
 aZ:Int
 number:Int
namespace NodeM
def record (n:NodeM)(b:List UInt8):NodeM×Bool:=
 match b with
 | []=>(n,false)
 | c::r=>
  if c=1 then({ n with aZ:=n.aZ+1 },r.isEmpty)
  else if c=2 then
   (if(iR false r).2≠0 then(n,false) else({ n with p:=(n.p.bR { bH with da:=true,bm:=(iR false r).1 }).1 },(n.p.bR { bH with da:=true,bm:=(iR false r).1 }).2==0))
  else if c=3 then
   (if(fV false r).2≠0 then(n,false) else if n.p.len % 2≠n.side then(n,false) else({ n with p:=(n.p.bR { bH with cQ:=true,bN:=(fV false r).1 }).1 },true))
  else(n,false)
def records (n:NodeM):List (List UInt8)->NodeM×Bool
 | []=>(n,true)
 | b::l=>if(n.record b).2=true then records (n.record b).1 l else((n.record b).1,false)
def fresh (kb:List UInt8)(side:Int)(fs:bI)(rs:List (List UInt8)):NodeM:=⟨kb,side,⟨fs,false,rs⟩,mK kb side,vH,0,0⟩
def open_ (kb:List UInt8)(side:Int)(s:bI):bI×Option NodeM×Int:=
 if side≠0/\side≠1 then(s,none,1) else if(ma s).2.2≠0 then((ma s).1,none,(ma s).2.2) else
 if((fresh kb side (ma s).1 (ma s).2.1).records (ma s).2.1).2=false then((ma s).1,none,12) else
 let n:=((fresh kb side (ma s).1 (ma s).2.1).records (ma s).2.1).1
 if(n.j.put [1]).2≠0 then((n.j.put [1]).1.fs,none,(n.j.put [1]).2) else((n.j.put [1]).1.fs,some { n with j:=(n.j.put [1]).1,aZ:=n.aZ+1 },0)
def dead (n:NodeM):Bool:=n.j.d
def offer (n:NodeM)(m:aT):NodeM×Int:=if n.dead=true then(n,11) else({ n with p:=(n.p.offer m).1 },(n.p.offer m).2)
def eF (a:bX):List UInt8×Int:=if a.da=true then(2::(gD a.bm).1,(gD a.bm).2) else(3::(dw a.bN).1,(dw a.bN).2)
def ag (n:NodeM)(a:bX):NodeM×Int:=
 if a.da=false/\a.cQ=false then(n,0) else if(eF a).2≠0 then(n,(eF a).2) else({ n with j:=(n.j.put (eF a).1).1 },(n.j.put (eF a).1).2)
def jZ (kb:List UInt8)(side aZ:Int):List ct->Int->List (List UInt8)×Int×Int
 | [],n=>([],n,0)
 | f::l,n=>
  if(kI kb (side,aZ,n,f.2.2.2)).2≠0 then([],n,(kI kb (side,aZ,n,f.2.2.2)).2) else
  if(jZ kb side aZ l (n+1)).2.2≠0 then([],(jZ kb side aZ l (n+1)).2.1,(jZ kb side aZ l (n+1)).2.2) else
  ((kI kb (side,aZ,n,f.2.2.2)).1::(jZ kb side aZ l (n+1)).1,(jZ kb side aZ l (n+1)).2.1,0)
def act (n:NodeM)(a:bX):NodeM×List (List UInt8)×Int:=
 if(n.ag a).2≠0 then((n.ag a).1,[],(n.ag a).2) else
 if((n.ag a).1.p.bR a).2≠0 then((n.ag a).1,[],((n.ag a).1.p.bR a).2) else
 ({ (n.ag a).1 with p:=((n.ag a).1.p.bR a).1,number:=(jZ n.kb n.side n.aZ a.bO n.number).2.1 },(jZ n.kb n.side n.aZ a.bO n.number).1,(jZ n.kb n.side n.aZ a.bO n.number).2.2)
def tick (n:NodeM):NodeM×List (List UInt8)×Int:=if n.dead=true then(n,[],11) else n.act n.p.tick
def take (n:NodeM)(b:List UInt8):NodeM×List (List UInt8)×Int:=
 if n.dead=true then(n,[],11) else if(eZ n.kb b).2≠0 then(n,[],(eZ n.kb b).2) else if(eZ n.kb b).1.1=n.side then(n,[],8) else
 if n.w.acc (eZ n.kb b).1.2.1 (eZ n.kb b).1.2.2.1=false then(n,[],4) else
 ({ n with w:=n.w.accept (eZ n.kb b).1.2.1 (eZ n.kb b).1.2.2.1 }:NodeM).act (n.p.take (eZ n.kb b).1)
end NodeM
theorem rn (n:Int):cI n=true↔-1000000000000<=n/\n<=1000000000000:=by unfold cI;rw[Bool.and_eq_true,decide_eq_true_eq,decide_eq_true_eq]
theorem Oy {a b:Int}(h:(la a b).2=true):cI a=true/\cI b=true/\cI (a * b)=true/\(la a b).1=a * b:=by
 unfold la at *;split at h
 ·rename_i hc
  rw[Bool.and_eq_true,Bool.and_eq_true] at hc;rw[if_pos (by rw[hc.1.1,hc.1.2,hc.2];rfl)];exact⟨hc.1.1,hc.1.2,hc.2,rfl⟩
 ·cases h
theorem Oz {n:Int}(h:cI n=true):cI (-n)=true:=by rw[rn] at *;omega
structure AB (w:de):Prop where
 fx:∀ x∈w.fx,cI x.2=true
 YE:w.fx.length<=32
 ch:∀ x∈w.ch,(x.2.1=0\/x.2.1=1)/\0<=x.2.2/\x.2.2<=10000
theorem OA {κ ν:Type}[DecidableEq κ]{k:κ}{v:ν}:∀ {l:List (κ×ν)},bq k l=some v->(k,v)∈l
 | [],h=>by simp[bq] at h
 | (a,u)::l,h=>by
  unfold bq at h;split at h
  ·rename_i e;subst e;injection h with h;subst h;simp
  ·exact List.mem_cons_of_mem _ (OA h)
theorem Dd {κ ν:Type}[DecidableEq κ]{k:κ}{v:ν}{x:κ×ν}:∀ {l:List (κ×ν)},x∈jT k v l->x∈l\/x=(k,v)
 | [],h=>by simp[jT] at h;exact .inr h
 | (a,u)::l,h=>by
  unfold jT at h;split at h
  ·rename_i e;subst e
   rcases List.mem_cons.1 h with h | h
   ·exact .inr h
   ·exact .inl (List.mem_cons_of_mem _ h)
  ·rcases List.mem_cons.1 h with h | h
   ·exact .inl (by simp[h])
   ·rcases Dd h with h | h
    ·exact .inl (List.mem_cons_of_mem _ h)
    ·exact .inr h
theorem YF (o:Ob):(cx o).length<=bA o:=by
 have hf:∀ (l out:List (List UInt8)),(l.foldl gA out).length<=out.length+l.length:=by
  intro l
  induction l with
  | nil=>intro out;simp
  | cons s l ih=>
   intro out;have:=ih (gA out s);have h2:(gA out s).length<=out.length+1:=by unfold gA;split<;>simp
   simp only[List.foldl_cons,List.length_cons];omega
 induction o with
 | none=>simp[cx]
 | const n=>simp[cx]
 | fix s=>simp[cx,bA]
 | neg o ih=>unfold cx bA;have:=hf (cx o) [];simp at this;omega
 | add l r a b=>unfold cx bA;have h1:=hf (cx l) [];have h2:=hf (cx r) ((cx l).foldl gA []);simp at h1;omega
 | mul l r a b=>unfold cx bA;have h1:=hf (cx l) [];have h2:=hf (cx r) ((cx l).foldl gA []);simp at h1;omega
 | max l r a b=>unfold cx bA;have h1:=hf (cx l) [];have h2:=hf (cx r) ((cx l).foldl gA []);simp at h1;omega
theorem H8 (w:de)(d:Int)(o:Ob):(nB w d o).length<=bA o:=by
 unfold nB;split
 ·simp
 ·exact Nat.le_trans (List.length_filter_le _ _) (YF o)
theorem AD (d:Int):∀ (names:List (List UInt8)) (ws:List gB),∃ new,lD d names ws=ws++new/\new.length<=names.length
 | [],ws=>⟨[],by simp[lD],by simp⟩
 | s::names,ws=>by
  unfold lD;simp only[List.foldl_cons];split
  ·obtain⟨new,h1,h2⟩:=AD d names ws
   exact⟨new,h1,by simp;omega⟩
  ·obtain⟨new,h1,h2⟩:=AD d names (ws++[(false,s,[],d,0)])
   refine⟨(false,s,[],d,0)::new,?_,by simp;omega⟩;unfold lD at h1;rw[h1];simp
theorem OB (id:List UInt8)(w:de):∀ (t:Tm) (d k:Int) (x:iP),∃ fs ws,(cD id w t d k x).1=(x.1++fs,x.2++ws)/\fs.length<=aK t/\ws.length<=aK t/\(cI k=true->∀ f∈fs,cI f.2.2=true):=by
 intro t
 induction t with
 | none=>intro d k x;exact⟨[],[],by simp[cD],by simp,by simp,by simp⟩
 | zero=>intro d k x;exact⟨[],[],by simp[cD],by simp,by simp,by simp⟩
 | one s=>intro d k x;exact⟨[(d,s,k)],[],by simp[cD],by simp[aK],by simp,fun h f hf=>by simp at hf;subst hf;exact h⟩
 | gG t ih=>
  intro d k x;obtain⟨fs,ws,h1,h2,h3,h4⟩:=ih d (-k) x;exact⟨fs,ws,h1,by unfold aK;omega,by unfold aK;omega,fun h=>h4 (Oz h)⟩
 | and l r a b=>
  intro d k x;obtain⟨fs,ws,h1,h2,h3,h4⟩:=a d k x;obtain⟨YG,YH,g1,g2,g3,g4⟩:=b d k (cD id w l d k x).1;unfold cD;split
  ·exact⟨fs,ws,h1,by unfold aK;omega,by unfold aK;omega,h4⟩
  ·refine⟨fs++YG,ws++YH,by rw[g1,h1];simp,by unfold aK;simp;omega,by unfold aK;simp;omega,fun h f hf=>?_⟩
   rcases List.mem_append.1 hf with hf | hf
   ·exact h4 h f hf
   ·exact g4 h f hf
 | when n t ih=>
  intro d k x;obtain⟨fs,ws,h1,h2,h3,h4⟩:=ih (max d n) k x;exact⟨fs,ws,h1,by unfold aK;omega,by unfold aK;omega,h4⟩
 | scale o t ih=>
  intro d k x;unfold cD;split
  ·exact⟨[],[],by simp,by simp,by simp,by simp⟩
  split
  ·obtain⟨new,h1,h2⟩:=AD d (nB w d o) x.2
   have:=H8 w d o;exact⟨[],new,by simp[h1],by simp,by unfold aK;omega,by simp⟩
  split
  ·exact⟨[],[],by simp,by simp,by simp,by simp⟩
  rename_i hm;split
  ·exact⟨[],[],by simp,by simp,by simp,by simp⟩
  ·obtain⟨fs,ws,h1,h2,h3,h4⟩:=ih d (la k (fp w d o).1).1 x
   have hm:=Oy (by simpa using hm);exact⟨fs,ws,h1,by unfold aK;omega,by unfold aK;omega,fun _=>h4 (by rw[hm.2.2.2];exact hm.2.2.1)⟩
 | cond o l r a b=>
  intro d k x;unfold cD;split
  ·exact⟨[],[],by simp,by simp,by simp,by simp⟩
  split
  ·obtain⟨new,h1,h2⟩:=AD d (nB w d o) x.2
   have:=H8 w d o;exact⟨[],new,by simp[h1],by simp,by unfold aK;omega,by simp⟩
  split
  ·obtain⟨fs,ws,h1,h2,h3,h4⟩:=a d k x
   exact⟨fs,ws,h1,by unfold aK;omega,by unfold aK;omega,h4⟩
  ·obtain⟨fs,ws,h1,h2,h3,h4⟩:=b d k x
   exact⟨fs,ws,h1,by unfold aK;omega,by unfold aK;omega,h4⟩
 | or s l r a b=>
  intro d k x;unfold cD;split
  ·exact⟨[],_,by simp;rfl,by simp,by unfold aK;simp,by simp⟩
  ·rename_i p since _
   split
   ·obtain⟨fs,ws,h1,h2,h3,h4⟩:=a (max d since) k x
    exact⟨fs,ws,h1,by unfold aK;omega,by unfold aK;omega,h4⟩
   ·obtain⟨fs,ws,h1,h2,h3,h4⟩:=b (max d since) k x
    exact⟨fs,ws,h1,by unfold aK;omega,by unfold aK;omega,h4⟩
theorem OC {id:List UInt8}{t:Tm}{day:Int}{w:de}(h:(fN id t day w).2=0):jR t=0/\0<=day/\day<=10000/\(cD id w t day 1 ([],[])).2=0/\(fN id t day w).1=(cD id w t day 1 ([],[])).1:=by
 unfold fN at h ⊢;split at h
 ·cases h
 ·rename_i h1
  rw[if_neg h1];split at h
  ·rename_i h2;exact absurd h h2
  ·rename_i h2
   rw[if_neg h2];have h1:¬ jR t≠0/\¬ day<0/\¬ 10000<day:=⟨fun q=>h1 (.inl q),fun q=>h1 (.inr (.inl q)),fun q=>h1 (.inr (.inr q))⟩;exact⟨Classical.not_not.1 h1.1,by omega,by omega,Classical.not_not.1 h2,rfl⟩
theorem H9 {t:Tm}(h:jR t=0):cJ t=true/\aK t<=60/\cC t<=12/\(fT t).Nodup:=by
 unfold jR at h;split at h
 ·cases h
 split at h
 ·cases h
 split at h
 ·cases h
 split at h
 ·rename_i h1 h2 h3 h4;exact⟨by simpa using h1,by omega,by omega,h4⟩
 ·cases h
theorem Ia (id:List UInt8)(t:Tm)(day:Int)(w:de):(fN id t day w).1.1.length<=60/\(fN id t day w).1.2.length<=60/\∀ f∈(fN id t day w).1.1,cI f.2.2=true:=by
 by_cases h:(fN id t day w).2=0
 ·obtain⟨h1,_,_,_,h5⟩:=OC h
  obtain⟨_,h6,_⟩:=H9 h1;obtain⟨fs,ws,g1,g2,g3,g4⟩:=OB id w t day 1 ([],[]);rw[h5,g1];simp only[List.nil_append];exact⟨by omega,by omega,g4 rfl⟩
 ·have:(fN id t day w).1=([],[]):=by
   unfold fN at h ⊢;split
   ·rfl
   ·rename_i h1
    rw[if_neg h1] at h;split
    ·rfl
    ·rename_i h2;rw[if_neg h2] at h;exact absurd rfl h
  rw[this];exact⟨by simp,by simp,by simp⟩
structure mO (l:cH):Prop where
 day:0<=l.day/\l.day<=10000
 num:l.cP.length<=8
 ids:(l.cP.map (·.1)).Nodup
 ok:∀ d∈l.cP,(fN d.1 d.2.2 d.2.1 l.w).2=0
 w:AB l.w
 gj:∀ x∈l.gj,-480000000000000<=x.2/\x.2<=480000000000000
theorem YI:mO xz:=⟨⟨by decide,by decide⟩,by decide,List.nodup_nil,(fun d hd=>nomatch hd),⟨(fun x hx=>nomatch hx),by decide,(fun x hx=>nomatch hx)⟩,(fun x hx=>nomatch hx)⟩
theorem OD (w:de):∀ (l:List ke) (x:iP),(∀ f∈x.1,cI f.2.2=true)->(ow w l x).1.1.length<=x.1.length+60 * l.length/\(ow w l x).1.2.length<=x.2.length+60 * l.length/\∀ f∈(ow w l x).1.1,cI f.2.2=true
 | [],x,h=>by unfold ow;exact⟨by simp,by simp,h⟩
 | d::l,x,h=>by
  unfold ow;obtain⟨h1,h2,h3⟩:=Ia d.1 d.2.2 d.2.1 w;split
  ·exact⟨by simp,by simp,by simp⟩
  ·obtain⟨g1,g2,g3⟩:=OD w l (x.1++(fN d.1 d.2.2 d.2.1 w).1.1,x.2++(fN d.1 d.2.2 d.2.1 w).1.2) (by
    intro f hf
    rcases List.mem_append.1 hf with hf | hf
    ·exact h f hf
    ·exact h3 f hf)
   simp only[List.length_append] at g1 g2;refine⟨?_,?_,g3⟩<;>simp only[List.length_cons]<;>omega
theorem Ib {l:cH}(h:mO l):l.all.1.1.length<=480/\l.all.1.2.length<=480/\∀ f∈l.all.1.1,cI f.2.2=true:=by
 have:=h.num;obtain⟨h1,h2,h3⟩:=OD l.w l.cP ([],[]) (by simp);exact⟨by unfold cH.all;simp at h1;omega,by unfold cH.all;simp at h2;omega,h3⟩
theorem De (d:Int)(c:List UInt8):∀ (fs:List lC) (n:Int),(∀ f∈fs,cI f.2.2=true)->n - 1000000000000 * fs.length<=kF d c n fs/\kF d c n fs<=n+1000000000000 * fs.length
 | [],n,_=>by simp[kF]
 | f::fs,n,h=>by
  have h1:=(rn _).1 (h f (by simp));unfold kF;simp only[List.foldl_cons,List.length_cons];have ih:=De d c fs (if f.1=d/\f.2.1=c then n+f.2.2 else n) (fun g hg=>h g (by simp[hg]));unfold kF at ih;split at ih<;>rename_i hc
  ·rw[if_pos hc];omega
  ·rw[if_neg hc];omega
theorem Ic (d:Int)(c:List UInt8):∀ (fs:List lC) (n:Int),kF d c n fs=n+kF d c 0 fs
 | [],n=>by simp[kF]
 | f::fs,n=>by
  have e:∀ n,kF d c n (f::fs)=kF d c (if f.1=d/\f.2.1=c then n+f.2.2 else n) fs:=fun n=>rfl;rw[e,e,Ic d c fs,Ic d c fs (if f.1=d/\f.2.1=c then 0+f.2.2 else 0)];split<;>omega
theorem Ie {l:cH}(h:mO l)(d:Int)(c:List UInt8):-480000000000000<=l.kf d c/\l.kf d c<=480000000000000:=by
 unfold cH.kf;cases hg:bq (d,c) l.gj with
 | none=>simp
 | some v=>exact h.gj _ (OA hg)
theorem YJ {id:List UInt8}{w w':de}(hf:w'.fx=w.fx)(hc:∀ s,bq (id,s) w'.ch=bq (id,s) w.ch):∀ (t:Tm) (d k:Int) (x:iP),cD id w' t d k x=cD id w t d k x:=by
 have hn:∀ d o,eI w' d o=eI w d o:=by
  intro d o
  induction o with
  | none=>rfl
  | const n=>rfl
  | fix s=>unfold eI;rw[hf]
  | add l r a b=>unfold eI;rw[a,b]
  | mul l r a b=>unfold eI;rw[a,b]
  | max l r a b=>unfold eI;rw[a,b]
  | neg o ih=>unfold eI;rw[ih]
 have hv:∀ d o,fp w' d o=fp w d o:=fun d o=>by unfold fp;rw[hn]
 have hd:∀ d o,nB w' d o=nB w d o:=fun d o=>by unfold nB;rw[hf]
 intro t
 induction t with
 | none=>intro d k x;rfl
 | zero=>intro d k x;rfl
 | one s=>intro d k x;rfl
 | gG t ih=>intro d k x;unfold cD;exact ih _ _ _
 | and l r a b=>intro d k x;unfold cD;rw[a,b]
 | when n t ih=>intro d k x;unfold cD;exact ih _ _ _
 | scale o t ih=>intro d k x;unfold cD;rw[hv,hd,ih]
 | cond o l r a b=>intro d k x;unfold cD;rw[hv,hd,a,b]
 | or s l r a b=>intro d k x;unfold cD;rw[hc];split<;>simp only[a,b]
theorem YK {id:List UInt8}{w w':de}(hf:w'.fx=w.fx)(hc:∀ s,bq (id,s) w'.ch=bq (id,s) w.ch)(t:Tm)(d:Int):fN id t d w'=fN id t d w:=by
 unfold fN;rw[YJ hf hc]
theorem OE {w:de}:∀ {l:List ke} {x:iP},(ow w l x).2=0↔∀ d∈l,(fN d.1 d.2.2 d.2.1 w).2=0
 | [],x=>by simp[ow]
 | d::l,x=>by
  unfold ow;split
  ·rename_i h
   constructor
   ·intro h2;exact absurd h2 h
   ·intro h2;exact absurd (h2 d (by simp)) h
  ·rename_i h
   rw[OE]
   constructor
   ·intro h2 e he
    rcases List.mem_cons.1 he with rfl | he
    ·exact Classical.not_not.1 h
    ·exact h2 e he
   ·intro h2 e he;exact h2 e (List.mem_cons_of_mem _ he)
theorem YL {w:de}(hw:AB w){s:List UInt8}{d v:Int}:AB (ra w s d v).1:=by
 unfold ra;split
 ·exact hw
 split
 ·exact hw
 split
 ·exact hw
 ·rename_i h1 h2 h3
  refine⟨fun x hx=>?_,?_,hw.ch⟩
  ·rcases Dd hx with hx | rfl
   ·exact hw.fx x hx
   ·have:¬ cI v=false:=fun q=>h1 (.inr (.inr q))
    simpa using this
  ·rw[Cv _ _ _ (by simpa using h2)]
   simp;omega
theorem YM {w:de}(hw:AB w){id label:List UInt8}{side day:Int}:AB (lE w id label side day).1:=by
 unfold lE;split
 ·exact hw
 split
 ·exact hw
 ·rename_i h1 h2
  refine⟨hw.fx,hw.YE,fun x hx=>?_⟩
  rcases Dd hx with hx | rfl
  ·exact hw.ch x hx
  ·have a:¬ (side≠0/\side≠1):=fun q=>h1 (.inr (.inr (.inl q)))
   have b:¬ tH day=false:=fun q=>h1 (.inr (.inr (.inr q)));unfold tH at b;simp only[Bool.not_eq_false,Bool.and_eq_true,decide_eq_true_eq] at b;exact⟨by dsimp only;omega,b⟩
theorem YN {m:aT}(h:jm m=0):0<=m.day/\m.day<=10000:=by
 obtain⟨_,_,_,h4,h5,_⟩:=Ct h;exact⟨h4,h5⟩
theorem YO {l:cH}(h:mO l)(m:aT)(b:Int):mO (iQ l m b).1:=by
 unfold iQ;split
 ·exact h
 split
 ·exact h
 rename_i hb hc;have hd:=YN (Classical.not_not.1 hc);split
 ·unfold tI
  split
  ·exact h
  split
  ·exact h
  split
  ·exact h
  ·rename_i h1 h2 h3
   refine⟨h.day,by simp;omega,?_,?_,h.w,h.gj⟩
   ·simp only[List.map_append,List.map_cons,List.map_nil]
    rw[List.nodup_append];refine⟨h.ids,by simp,?_⟩;intro a ha c hc;simp at hc;subst hc;intro e;apply h1;rw[List.mem_map] at ha;obtain⟨x,hx,rfl⟩:=ha;rw[List.any_eq_true];exact⟨x,hx,by simp[e]⟩
   ·intro d hd
    rcases List.mem_append.1 hd with hd | hd
    ·exact h.ok d hd
    ·simp at hd;subst hd;exact Classical.not_not.1 h3
 split
 ·unfold sx
  split
  ·exact h
  split
  ·exact h
  split
  ·exact h
  ·rename_i h1 h2 h3
   have h3:=Classical.not_not.1 h3;exact⟨h.day,h.num,h.ids,OE.1 h3,YL h.w,h.gj⟩
 split
 ·unfold sy
  split
  ·exact h
  ·rename_i d Df
   split
   ·exact h
   ·rename_i x hfx
    split
    ·exact h
    split
    ·exact h
    split
    ·exact h
    split
    ·exact h
    ·rename_i h1 h2 h3 h4
     have YP:d.1=m.id:=by
      have:=List.find?_some Df;simpa using this
     have xT:=List.mem_of_find?_eq_some Df;refine⟨h.day,h.num,h.ids,fun e he=>?_,YM h.w,h.gj⟩
     by_cases hid:e.1=m.id
     ·have:e=d:=by
       have hn:=h.ids;obtain⟨i,hi,rfl⟩:=List.getElem_of_mem he;obtain⟨j,hj,rfl⟩:=List.getElem_of_mem xT;have lz:i=j:=by
        have h5:(l.cP.map (·.1))[i]'(by simpa using hi)=(l.cP.map (·.1))[j]'(by simpa using hj):=by simp[hid,YP]
        exact(List.getElem_inj hn).1 h5
       subst lz;rfl
      subst this;exact Classical.not_not.1 h4
     ·rw[show(({ l with w:=(lE l.w m.id m.label m.val l.day).1 }:cH).w)=(lE l.w m.id m.label m.val l.day).1 from rfl]
      rw[YK (w:=l.w) (w':=(lE l.w m.id m.label m.val l.day).1) ?_ ?_]
      ·exact h.ok e he
      ·unfold lE;split
       ·rfl
       split<;>rfl
      ·intro s
       unfold lE;split
       ·rfl
       split
       ·rfl
       ·dsimp only
        rw[MH,if_neg (fun q=>hid (by injection q with q _;exact q.symm))]
 split
 ·unfold tJ
  split
  ·exact h
  split
  ·exact h
  split
  ·exact h
  ·refine⟨h.day,h.num,h.ids,h.ok,h.w,fun x hx=>?_⟩
   rcases Dd hx with hx | rfl
   ·exact h.gj x hx
   ·obtain⟨a1,_,a3⟩:=Ib h
    have:=De m.day m.cur l.all.1.1 0 a3;dsimp only;unfold cH.ox;rw[Ic];omega
 split
 ·split
  ·exact h
  ·exact⟨hd,h.num,h.ids,h.ok,h.w,h.gj⟩
 ·exact h
structure cX (p:PeerM):Prop where
 kb:p.kb.length=16
 side:p.side=0\/p.side=1
 hs:p.hs.length=p.es.length+1
 num:p.es.length<=64
 lI:∀ h∈p.hs,0<=h/\h<18446744073709551616
 es:∀ x∈p.es,dH x.1
 off:dH p.off.1
 aW:dH p.aW.1
 cq:mO p.cq
theorem dN:dH bb:=⟨by decide,by decide,by decide,by decide,by decide⟩
theorem OF:dH vD:=⟨by decide,by decide,by decide,by decide,by decide⟩
theorem OG {kb:List UInt8}(hk:kb.length=16)(side:Int):cX (mK kb side):=
 ⟨hk,(by unfold mK;dsimp only;split<;>simp),rfl,Nat.zero_le _,(by intro h hh;simp[mK] at hh;subst hh;decide),(fun x hx=>nomatch hx),dN,dN,YI⟩
theorem cX.vI {p:PeerM}(h:cX p):0<=p.head/\p.head<18446744073709551616:=by
 unfold PeerM.head;have hl:=h.hs;rw[List.getD_eq_getElem?_getD,List.getElem?_eq_getElem (by omega)];exact h.lI _ (List.getElem_mem _)
theorem cX.YQ {p:PeerM}(h:cX p)(n:Int):0<=(p.at_ n).1/\(p.at_ n).1<18446744073709551616:=by
 unfold PeerM.at_;split
 ·decide
 ·dsimp only
  rw[List.getD_eq_getElem?_getD,List.getElem?_eq_getElem (by omega)];exact h.lI _ (List.getElem_mem _)
theorem OH (kb:List UInt8)(h:Int)(x:fw):0<=(fX kb h x).1/\(fX kb h x).1<18446744073709551616:=by
 unfold fX;split
 ·dsimp only;omega
 ·exact GC _ _
theorem cX.entry {p:PeerM}(h:cX p){x:fw}(hx:dH x.1):cX (p.entry x).1:=by
 unfold PeerM.entry;split
 ·exact h
 split
 ·exact h
 split
 ·exact h
 ·rename_i h1 h2 h3
  have hs:=h.hs;refine⟨h.kb,h.side,by simp[hs],by simp;omega,fun y hy=>?_,fun y hy=>?_,h.off,dN,?_⟩
  ·rcases List.mem_append.1 hy with hy | hy
   ·exact h.lI y hy
   ·simp at hy;subst hy;exact OH _ _ _
  ·rcases List.mem_append.1 hy with hy | hy
   ·exact h.es y hy
   ·simp at hy;subst hy;exact hx
  ·dsimp only
   split
   ·exact h.cq
   ·exact YO h.cq _ _
theorem cX.ended {p:PeerM}(h:cX p){a:bX}(hp:dH a.bN):cX (p.ended a):=by
 have ho:dH (if p.pv a=true then((bb,false):aT×Bool) else p.off).1:=by
  split
  ·exact dN
  ·exact h.off
 unfold PeerM.ended PeerM.lq;split
 ·exact⟨h.kb,h.side,h.hs,h.num,h.lI,h.es,ho,hp,h.cq⟩
 ·exact⟨h.kb,h.side,h.hs,h.num,h.lI,h.es,ho,h.aW,h.cq⟩
theorem cX.bR {p:PeerM}(h:cX p){a:bX}(he:dH a.bm.1)(hp:dH a.bN):cX (p.bR a).1:=by
 unfold PeerM.bR;split
 ·split
  ·exact h
  ·exact(h.entry he).ended hp
 ·exact h.ended hp
theorem cX.offer {p:PeerM}(h:cX p){m:aT}(hm:dH m):cX (p.offer m).1:=by
 unfold PeerM.offer;split
 ·exact h
 split
 ·exact h
 split
 ·exact h
 split
 ·exact h
 ·exact⟨h.kb,h.side,h.hs,h.num,h.lI,h.es,hm,h.aW,h.cq⟩
structure nK (a:bX):Prop where
 bm:dH a.bm.1
 bN:dH a.bN
 bO:∀ f∈a.bO,dH f.m/\0<=f.2.2.2.2.2.1/\f.2.2.2.2.2.1<18446744073709551616
 num:a.bO.length<=1
theorem xU:nK bH:=⟨dN,dN,(fun f hf=>nomatch hf),Nat.zero_le _⟩
theorem tY {a:bX}(h1:dH a.bm.1)(h2:dH a.bN)(h3:a.bO=[]):nK a:=⟨h1,h2,(by rw[h3];exact(fun f hf=>nomatch hf)),(by rw[h3];decide)⟩
theorem vJ {f:ct}(h1:dH f.m)(h2:0<=f.2.2.2.2.2.1/\f.2.2.2.2.2.1<18446744073709551616):(∀ g∈[f],dH g.m/\0<=g.2.2.2.2.2.1/\g.2.2.2.2.2.1<18446744073709551616)/\([f]:List ct).length<=1:=
 ⟨(fun g hg=>by simp at hg;subst hg;exact⟨h1,h2⟩),Nat.le_refl _⟩
theorem cX.kJ {p:PeerM}(h:cX p){m:aT}(hm:dH m):nK (p.kJ m):=by
 unfold PeerM.kJ;split
 ·exact tY dN dN rfl
 ·have:=vJ (f:=p.eT 1 false m) hm h.vI
  exact⟨dN,hm,this.1,this.2⟩
theorem cX.tick {p:PeerM}(h:cX p):nK p.tick:=by
 unfold PeerM.tick;split
 ·have:=vJ (f:=p.eT 4 true bb) dN h.vI
  exact⟨dN,dN,this.1,this.2⟩
 split
 ·exact xU
 split
 ·have:=vJ (f:=p.eT 1 false p.aW.1) h.aW h.vI
  exact⟨dN,dN,this.1,this.2⟩
 split
 ·exact h.kJ h.off
 split
 ·exact h.kJ OF
 split
 ·have:=vJ (f:=p.eT 3 false bb) dN h.vI
  exact⟨dN,dN,this.1,this.2⟩
 ·exact xU
theorem cX.take {p:PeerM}(h:cX p){f:ct}(hf:dH f.m):nK (p.take f):=by
 unfold PeerM.take;split
 ·exact xU
 split
 ·unfold PeerM.lI
  have:=vJ (f:=p.eT 4 false bb) dN h.vI;refine⟨dN,dN,?_,?_⟩<;>dsimp only<;>split
  ·exact this.1
  ·exact fun f hf=>nomatch hf
  ·exact this.2
  ·decide
 split
 ·exact xU
 split
 ·unfold PeerM.want
  split<;>exact tY dN dN rfl
 split
 ·unfold PeerM.oB
  split
  ·exact tY dN dN rfl
  split
  ·have:=vJ (f:=PeerM.fr 2 f.2.2.2.2.1 (p.at_ (f.2.2.2.2.1+1)).1 (p.es.getD f.2.2.2.2.1.toNat (bb,false)).2 bb) dN (h.YQ _)
   exact⟨dN,dN,this.1,this.2⟩
  split
  ·exact xU
  split
  ·exact xU
  ·have:=vJ (f:=PeerM.fr 2 f.2.2.2.2.1 (fX p.kb p.head (f.m,p.gM f.m)).1 (p.gM f.m) bb) dN (OH _ _ _)
   exact⟨hf,dN,this.1,this.2⟩
 ·unfold PeerM.pq
  split
  ·exact tY dN dN rfl
  split
  ·exact tY dN dN rfl
  split
  ·exact tY dN dN rfl
  split
  ·exact tY dN dN rfl
  ·exact tY h.aW dN rfl
theorem Dg (m:ct):(dI m.f).all bK=true:=Hn (Tm.bW _)
theorem YR {w:World}{v:Sl}{bs:List UInt8}(h:bd w v bs)(hc:v.2.1<=v.2.2)(hl:35<=bs.length)(ht:TabW w):Ret Tryz.prog 51 #[.slice v.1 v.2.1 v.2.2] w fun r w'=>r=lH (il bs).f/\Fr none1 w w':=by
 refine c51 v.1 v.2.1 v.2.2 w _ ?_;unfold C51;have cO:=h.len;refine ak.of fun g1 w1 dp au f1 kq=>?_;have au:w1.heap[g1]? = some (.cells (dI jD.f).toArray 42 (0,0)):=au;refine aD.of fun w2 _ f2=>aV.of (fun k=>k<w.heap.size) ?_;have f12:=f1.trans f2;have h2:=h.af f12;have ay:bs≠[]:=fun t=>by rw[t] at hl;simp at hl
 have hS:∀ a,v.1=some a->(fun k=>k<w.heap.size) a.block:=fun a ha=>h.G2 ay ⟨a,ha,rfl⟩;refine bQ.Hd hS (bd.at h2 (by decide) (by omega) (bQ.Hd hS (bd.at h2 (by decide) (by omega) (bQ.Hd hS (bd.at h2 (by decide) (by omega) ?_)))));rw[show Int.toNat 0=0 by rfl,show Int.toNat 17=17 by rfl,show Int.toNat 34=34 by rfl];have b0:=(bs.getD 0 0).toNat_lt;have Hw:=(bs.getD 17 0).toNat_lt;rw[wI (x:=((bs.getD 0 0).toNat:Int)) (by omega) (by omega),wI (x:=((bs.getD 17 0).toNat:Int)) (by omega) (by omega)];have fQ:=f12.size;refine ak.of fun g w3 hg aR f3 pj=>ai.of f3 ?_;obtain⟨fl,jP⟩:∃ fl,fl=(((bs.getD 34 0).toNat:Int)==1):=⟨_,rfl⟩;rw[<- jP];obtain⟨X,hX⟩:∃ X:ct,X=(((bs.getD 0 0).toNat:Int),0,0,((bs.getD 17 0).toNat:Int),0,0,fl,bb):=⟨_,rfl⟩;refine ar.aE (cs:=dI jD.f) (vs:=dI (aT.e bb |> fun e=>((((bs.getD 0 0).toNat:Int),0,0,((bs.getD 17 0).toNat:Int),0,0,fl,e):lj))) aR rfl (Hn rfl) fun w4 dy f4 sC=>ai.on f4 (fun k hk t=>by have:k=g:=t;omega) ?_;have F4:Fr none1 w w4:=(f12.trans f3).fresh f4 (by omega);have g14:=f4.ag (f3.af (f2.af au)) (fun t=>by have:g1=g:=t;have:=bL au;have:=f2.size;omega);have h4:=h.af F4;refine bd.jV h4 (by decide) (by decide) (by omega) hc fun u1 OI _ _ _=>?_;refine ab.of (BR OI) ?_;rintro _ _ ⟨rfl,rfl⟩;refine⟨((ia (fu bs 1 9)).1,(ia (fu bs 1 9)).2,()),rfl,?_⟩;refine az.ah dy (by show 0+1<15;omega) rfl fun w5 cY f5 _=>?_;have F5:Fr none1 w w5:=F4.fresh f5 (by omega);have h5:=h.af F5;have g15:=f5.ag g14 (fun t=>by have:g1=g:=t;have:=bL au;have:=f2.size;omega);refine bd.jV h5 (by decide) (by decide) (by omega) hc fun u2 uD _ _ _=>?_;refine ab.of (BR uD) ?_;rintro _ _ ⟨rfl,rfl⟩;refine⟨((ia (fu bs 9 17)).1,(ia (fu bs 9 17)).2,()),rfl,?_⟩;refine az.ah cY (by show 0+2<15;omega) rfl fun w6 fq f6 _=>?_;have F6:Fr none1 w w6:=F5.fresh f6 (by omega);have h6:=h.af F6;have g16:=f6.ag g15 (fun t=>by have:g1=g:=t;have:=bL au;have:=f2.size;omega);refine bd.jV h6 (by decide) (by decide) (by omega) hc fun u3 kT _ _ _=>?_;refine ab.of (BR kT) ?_;rintro _ _ ⟨rfl,rfl⟩;refine⟨((ia (fu bs 18 26)).1,(ia (fu bs 18 26)).2,()),rfl,?_⟩;refine az.ah fq (by show 0+4<15;omega) rfl fun w7 gC f7 _=>?_;have F7:Fr none1 w w7:=F6.fresh f7 (by omega);have h7:=h.af F7;have g17:=f7.ag g16 (fun t=>by have:g1=g:=t;have:=bL au;have:=f2.size;omega);refine bd.jV h7 (by decide) (by decide) (by omega) hc fun u4 xc _ _ _=>?_;have Hh:(fu bs 26 34).length=8:=by unfold fu;rw[List.length_take,List.length_drop];omega
 have xc:bd w7 u4 (fu bs 26 34):=xc;refine ab.of (Wh xc) ?_;rintro _ _ ⟨rfl,rfl⟩;rw[if_pos Hh];refine⟨((gK (fu bs 26 34):Int),decide ((fu bs 26 34).length=8),()),rfl,?_⟩;refine az.ah gC (by show 0+5<15;omega) rfl fun w8 jB f8 _=>?_;have F8:Fr none1 w w8:=F7.fresh f8 (by omega);have h8:=h.af F8;have g18:=f8.ag g17 (fun t=>by have:g1=g:=t;have:=bL au;have:=f2.size;omega);have jB:w8.heap[g]? = some (.cells (dI (ct.f (((bs.getD 0 0).toNat:Int),(ia (fu bs 1 9)).1,(ia (fu bs 9 17)).1,((bs.getD 17 0).toNat:Int),(ia (fu bs 18 26)).1,(gK (fu bs 26 34):Int),fl,bb))).toArray 42 (0,0)):=by rw[jB];rfl
 have fin:∀ (Y:ct) (w9:World),w9.heap[g]? = some (.cells (dI Y.f).toArray 42 (0,0))->w9.heap[g1]? = some (.cells (dI jD.f).toArray 42 (0,0))->Fr none1 w w9->Y=il bs ->
   aq FK ⟨g,0,none⟩ w9 (fun(gX:Cs FK)=>ar ⟨g1,0,none⟩ (Cs.vals FK gX) w9 (fun iy=>aq FK ⟨g1,0,none⟩ iy (fun(dG:Cs FK)=>(Value.agg (Cs.vals FK dG).toArray)=lH (il bs).f/\Fr none1 w iy))):=fun Y w9 hY h1 F9 e=>by
  subst e;refine aq.aE (cks:=FK) (x:=(il bs).f) hY ?_;refine ar.aE (cs:=dI jD.f) (vs:=dI (il bs).f) h1 rfl (Dg _) fun aG lK f10 _=>aq.aE (cks:=FK) (x:=(il bs).f) lK ?_;exact⟨rfl,F9.fresh f10 (by omega)⟩
 have OJ:((bs.getD 34 0).toNat==1)=fl:=by
  rw[jP,Bool.eq_iff_iff];simp only[beq_iff_eq];omega
 refine ae.ah jB (x:=((bs.getD 17 0).toNat:Int)) rfl ?_;refine aa.eq (fun h1=>?_) (fun h1=>?_)
 ·refine bd.jV h8 (by decide) (by omega) (Int.le_refl _) hc fun u5 nr YS _ _=>?_
  have e35:(bs.drop (35:Int).toNat).take ((v.2.1:Int) - 35).toNat=bs.drop 35:=by
   rw[show(35:Int).toNat=35 by rfl];exact List.take_of_length_le (by rw[List.length_drop];omega)
  rw[e35] at nr;refine ab.of (G7 nr YS (ht.af F8)) ?_;rintro _ w9 ⟨rfl,f9⟩;refine⟨((fV false (bs.drop 35)).1.e,(fV false (bs.drop 35)).2,()),rfl,?_⟩;have e:il bs=(((bs.getD 0 0).toNat:Int),(ia (fu bs 1 9)).1,(ia (fu bs 9 17)).1,((bs.getD 17 0).toNat:Int),(ia (fu bs 18 26)).1,(gK (fu bs 26 34):Int),fl,(fV false (bs.drop 35)).1):=by
   unfold il;rw[if_pos (by omega),OJ]
  obtain⟨a1,a2,a3,a4⟩:=EL (T:=42) (b:=g) (gV (fV false (bs.drop 35)).1.e) w9 [.int .i64 ((bs.getD 0 0).toNat:Int),.int .i64 (ia (fu bs 1 9)).1,.int .i64 (ia (fu bs 9 17)).1,.int .i64 ((bs.getD 17 0).toNat:Int),.int .i64 (ia (fu bs 18 26)).1,.int .u64 (gK (fu bs 26 34):Int),.bool fl] (gV bb.e) (f9.af jB) rfl (GM (Tm.bW _));refine⟨Ns _ _ 0 a1,?_⟩;rw[Nt];refine fin _ _ ?_ (a3.ag (f9.af g18) (fun t=>by have:g1=g:=t;have:=bL au;have:=f2.size;omega)) ((F8.trans f9).fresh a3 (by omega)) e.symm;exact a2
 ·refine fin _ w8 jB g18 F8 ?_
  unfold il;rw[if_neg (by omega),OJ]
theorem OK (bs:List UInt8):dH (il bs).m:=by
 unfold il;show dH (if(bs.getD 17 0).toNat=1 then(fV false (bs.drop 35)).1 else bb);have hz:dH bb:=⟨by decide,by decide,by decide,by decide,by decide⟩;split
 ·unfold fV;split
  ·exact G5 false _
  ·exact hz
 ·exact hz
theorem YT (bs:List UInt8):0<=(il bs).2.2.2.2.2.1/\(il bs).2.2.2.2.2.1<18446744073709551616:=by
 unfold il;dsimp only;have h:=Cz (fu bs 26 34);have h2:256 ^ (fu bs 26 34).length<=256 ^ 8:=Nat.pow_le_pow_right (by decide) (by unfold fu;rw[List.length_take];omega);have:(256:Nat) ^ 8=18446744073709551616:=by decide
 omega
theorem YU (m:ct)(hs:pU m.m.e)(hn:aK m.m.t<=1000000)(hh:0<=m.2.2.2.2.2.1/\m.2.2.2.2.2.1<18446744073709551616)(w:World)(ht:TabW w):
  Ret Tryz.prog 52 #[lH m.f] w fun r w'=>∃ v:Sl,r=.tuple #[.slice v.1 v.2.1 v.2.2,.int .i64 (ll m).2]/\Own w w' v (ll m).1/\Fr none1 w w':=by
 have hl:=tF m.m.t;exact NA m.f (vr m.m.t) hs hh (bp m.m.t).1 (by omega) (bp m.m.t).2 w (CP m.m.t hn ht)
theorem YV (kb:List UInt8)(hk:kb.length=16)(m:ct)(hs:pU m.m.e)(hn:aK m.m.t<=1000000)(hh:0<=m.2.2.2.2.2.1/\m.2.2.2.2.2.1<18446744073709551616)(w:World)(ht:TabW w):
  Ret Tryz.prog 24 #[.agg (cV kb).toArray,lH m.f] w fun r w'=>∃ v:Sl,r=.tuple #[.slice v.1 v.2.1 v.2.2,.int .i64 (kI kb m).2]/\Own w w' v (kI kb m).1/\Fr none1 w w':=by
 have hl:=tF m.m.t;exact Wz kb hk m.f (vr m.m.t) hs hh (bp m.m.t).1 (by omega) (bp m.m.t).2 w (CP m.m.t hn ht)
theorem YW (m:ct)(hn:aK m.m.t<=1000000)(w:World)(ht:TabW w):Ret Tryz.prog 109 #[lH m.f] w fun r w'=>r=.int .i64 (kH m.f (bp m.m.t).2)/\Fr none1 w w':=
 Ny m.f (vr m.m.t) (bp m.m.t).1 (bp m.m.t).2 w (CP m.m.t hn ht)
theorem YX (kb:List UInt8)(hk:kb.length=16){w:World}{v:Sl}{bs:List UInt8}(h:bd w v bs)(hc:v.2.1<=v.2.2)(hl:bs.length<=140737488355300)(ht:TabW w):
  Ret Tryz.prog 14 #[.agg (cV kb).toArray,.slice v.1 v.2.1 v.2.2] w fun r w'=>r=.tuple #[lH (eZ kb bs).1.f,.int .i64 (eZ kb bs).2]/\Fr none1 w w':=by
 refine c14 (cV kb) v.1 v.2.1 v.2.2 w _ ?_;unfold C14;have cO:=h.len;refine ak.of fun g0 w0 Hb sr f0 qM=>ak.of fun g w1 hg au f1 kq=>?_;have au:w1.heap[g]? = some (.cells (dI jD.f).toArray 42 (0,0)):=au;have vC:=f0.trans f1;have fail:∀ (code:Int),eZ kb bs=(jD,code)->∀ w2,w2.heap[g]? = some (.cells (dI jD.f).toArray 42 (0,0))->Fr none1 w w2->ar ⟨g,0,none⟩ (dI jD.f) w2 (fun w5=>aq FK ⟨g,0,none⟩ w5 (fun(x6:Cs FK)=>(Value.tuple #[.agg (Cs.vals FK x6).toArray,.int .i64 code])=.tuple #[lH (eZ kb bs).1.f,.int .i64 (eZ kb bs).2]/\Fr none1 w w5)):=fun code e w2 hb f2=>by
  rw[e];refine ar.aE (cs:=dI jD.f) (vs:=dI jD.f) hb rfl (Dg jD) fun w3 aR f3 _=>aq.aE (cks:=FK) (x:=jD.f) aR ?_;exact⟨rfl,f2.fresh f3 (by omega)⟩
 have WA:=vC.size;have hO:eZ kb bs=if bs.length<8 then(jD,2) else if xL bs≠gL (nC kb (iS bs)) then(jD,12) else if(iS bs).length<35 then(jD,2)
   else if(ll (il (iS bs))).2≠0\/(ll (il (iS bs))).1≠iS bs then(jD,2) else(il (iS bs),0):=rfl
 refine aa.dec (fun aU=>?_) (fun eu=>?_)
 ·exact fail 2 (by rw[hO,if_pos (by omega)]) w1 au vC
 rw[if_neg (by omega)] at hO;refine aD.of fun w2 _ f2=>?_;have nJ:=vC.trans f2;have aI:=f2.af au;have h2:=h.af nJ;rw[wI (x:=(v.2.1:Int) - 8) (by omega) (by omega)];obtain⟨n,hn⟩:∃ n,n=bs.length - 8:=⟨_,rfl⟩;refine bd.sub h2 (by omega) (by omega) hc fun hT=>?_;refine bd.jV h2 (by omega) (by omega) (Int.le_refl _) hc fun u hu rh dk mH=>?_;have en:((v.2.1:Int) - 8).toNat=n:=by omega
 have e8:((v.2.1:Int) - ((v.2.1:Int) - 8)).toNat=8:=by omega
 rw[en] at hT hu ⊢;rw[e8,List.take_of_length_le (by rw[List.length_drop];omega)] at hu;have uK:n<=v.2.2:=by omega
 have OL:iS bs=bs.take n:=by unfold iS;rw[hn]
 have YY:xL bs=bs.drop n:=by unfold xL;rw[hn]
 rw[<- OL] at hT;rw[<- YY] at hu;have Ch:(iS bs).length=n:=by rw[OL,List.length_take];omega
 refine eK.of (f2.af (f1.af sr)) (by simp[cV,hk]) ?_;refine ab.of (Hi (v:=(v.1,n,v.2.2)) hk hT uK (by omega)) ?_;rintro _ w3 ⟨rfl,f3⟩;refine⟨_,rfl,?_⟩;have hr:=GC kb (iS bs);refine Ht _ hr.1 hr.2 w3 fun q w4 hq f4=>?_;have f24:=f3.trans f4;refine ab.of (Wi (hu.af f24) hq.rd) ?_;rintro _ _ ⟨rfl,rfl⟩;refine⟨_,rfl,?_⟩;have Dh:=nJ.trans f24;have dy:=f24.af aI;refine aa.not (aa.by (fun heq=>?_) (fun ay=>fail 12 (by rw[hO,if_pos (by intro t;rw[t] at ay;simp at ay)]) w4 dy Dh));rw[if_neg (by simpa using heq)] at hO;refine aa.dec (fun aU=>?_) (fun acN=>?_)
 ·exact fail 2 (by rw[hO,if_pos (by omega)]) w4 dy Dh
 rw[if_neg (by omega)] at hO;have OM:=hT.af f24;have ql:=OK (iS bs);have YZ:=YT (iS bs);refine ab.of (YR (v:=(v.1,n,v.2.2)) OM uK (by omega) (ht.af Dh)) ?_;rintro _ w5 ⟨rfl,f5⟩;generalize iS bs=tx at *;generalize il tx=X at *;refine⟨X.f,rfl,?_⟩;refine cM (zs:=dI jD.f) (vs:=dI X.f) rfl (Dg X) fun g6 w6 Ig fq f6=>?_;have f46:=f5.trans f6;have Di:=Dh.trans f46;refine aq.aE (cks:=FK) (x:=X.f) fq ?_;refine ab.of (YU X ql.e ql.2.2.2.2 YZ w6 (ht.af Di)) ?_;rintro _ w7 ⟨y,rfl,hy,f7⟩;refine⟨(y,(ll X).2,()),rfl,?_⟩;have AE:=Di.trans f7;have gC:=f7.af (f46.af dy);dsimp only;refine aa.ne (fun ay=>?_) (fun he=>?_)
 ·exact fail 2 (by rw[hO,if_pos (.inl ay)]) w7 gC AE
 refine ab.of (G6 (u:=(v.1,n,v.2.2)) hy.is.rd ((OM.af f46).af f7)) ?_;rintro _ _ ⟨rfl,rfl⟩;refine⟨_,rfl,aa.not (aa.by (fun mB=>?_) (fun HY=>?_))⟩
 ·rw[if_neg (by rw[he];simpa using mB)] at hO
  rw[hO];refine aq.aE (cks:=FK) (x:=X.f) (f7.af fq) ?_;refine ar.aE (cs:=dI jD.f) (vs:=dI X.f) gC rfl (Dg X) fun w8 jB f8 _=>aq.aE (cks:=FK) (x:=X.f) jB ?_;exact⟨rfl,AE.fresh f8 (by omega)⟩
 ·exact fail 2 (by rw[hO,if_pos (.inr (by intro t;rw[t] at HY;simp at HY))]) w7 gC AE
theorem xV (m:aT):(dw m).2=jm m:=by
 unfold dw je jm;split
 ·rfl
 ·rename_i h;exact(Classical.not_not.1 h).symm
theorem Dj (x:fw):(gD x).2=jm x.1:=by
 have h:=xV x.1;unfold dw at h;unfold gD tK;split
 ·exact h
 ·rename_i h2;rw[h] at h2;exact(Classical.not_not.1 h2).symm
theorem ON {m:aT}(h:jm m=0):dw m=((dw m).1,0):=by
 have:=xV m;rw[h] at this;exact Prod.ext rfl this
theorem OO {m:aT}(h:jm m=0):fV false (dw m).1=(m,0):=MF false (ON h)
theorem OP {x:fw}(h:jm x.1=0):(gD x).1=(if x.2=true then 1 else 0)::(dw x.1).1:=by
 have h2:=xV x.1;rw[h] at h2;unfold gD tK;rw[if_neg (fun t=>t h2)];rfl
theorem Y0 {x:fw}(h:jm x.1=0):iR false (gD x).1=(x,0):=by
 have e:=OO h;rw[OP h];unfold iR;obtain⟨m,r⟩:=x;rw[if_neg (by cases r<;>simp),if_neg (by rw[List.drop_one,List.tail_cons,e];simp)]
 rw[List.drop_one,List.tail_cons,e];cases r<;>rfl
theorem Ih (bs:List UInt8):dH (fV false bs).1:=by
 unfold fV;split
 ·exact G5 false bs
 ·exact dN
theorem OQ (bs:List UInt8):dH (iR false bs).1.1:=by
 unfold iR;split
 ·exact dN
 split
 ·exact dN
 ·exact Ih _
theorem Y1 (kb bs:List UInt8):dH (eZ kb bs).1.m:=by
 unfold eZ
 repeat' split
 all_goals first | exact dN | exact OK _
theorem Ii {s:bI}(h:s.Ok)(ag:Int):0<=jn s ag/\jn s ag<=s.b.length:=by
 have h1:=h.s0;have h2:=h.s1;unfold jn;omega
theorem OR {s:bI}(h:s.Ok)(ag sp:Int):(tR s (jn s ag) sp).length=(jn s ag).toNat:=by
 have hk:=Ii h ag;unfold tR;split
 ·rw[List.length_set,List.length_take];omega
 ·rw[List.length_take];omega
theorem Y2 {s:bI}(h:s.Ok)(ag sp:Int):(mM s ag sp).Ok:=by
 have hk:=Ii h ag;have hl:=h.len;have hb:=OR h ag sp;refine⟨?_,h.q0,h.q1,hk.1,?_⟩
 ·show(tR s (jn s ag) sp).length<=65536
  omega
 ·show jn s ag<=((tR s (jn s ag) sp).length:Int)
  omega
theorem Y3 {m:aT}(h:jm m=0):(cS m.1 73=true->m.2.1.length<=48)/\(cS m.1 78=true->m.2.2.1.length<=48)/\(cS m.1 76=true->m.2.2.2.1.length<=48)/\(cS m.1 67=true->m.2.2.2.2.1.length<=48):=by
 obtain⟨_,_,hn,_⟩:=Ct h;unfold oW at hn;simp only[Bool.and_eq_true,Bool.or_eq_true,Bool.not_eq_true'] at hn;have nm:∀ s:List UInt8,pQ (str s)=true->s.length<=48:=fun s hs=>Cb (by unfold pQ at hs;unfold fm;simpa[str] using hs);obtain⟨⟨⟨h1,h2⟩,h3⟩,h4⟩:=hn;have e0:m.e.1=m.1:=rfl;rw[e0] at h1 h2 h3 h4;refine⟨fun q=>?_,fun q=>?_,fun q=>?_,fun q=>?_⟩
 ·rw[q] at h1;exact nm _ (h1.resolve_left (by simp))
 ·rw[q] at h2;exact nm _ (h2.resolve_left (by simp))
 ·rw[q] at h3;exact nm _ (h3.resolve_left (by simp))
 ·rw[q] at h4;exact nm _ (h4.resolve_left (by simp))
def Ij (c:UInt8):Nat:=if c=68 then 8 else if c=86 then 8 else if c=84 then 1002 else 49
theorem OS (q:UInt8->Bool)(f:UInt8->List UInt8):∀ l:List UInt8,(∀ c∈l,q c=true->(f c).length<=Ij c)->((l.filter q).flatMap f).length<=(l.map Ij).sum
 | [],_=>by simp
 | c::l,h=>by
  have ih:=OS q f l fun d hd=>h d (List.mem_cons_of_mem _ hd);rw[List.filter_cons,List.map_cons,List.sum_cons];split
  ·rename_i hq
   have:=h c (by simp) hq;rw[List.flatMap_cons,List.length_append];omega
  ·omega
theorem Dk {m:aT}(h:jm m=0):(dw m).1.length<=1215:=by
 obtain⟨n1,n2,n3,n4⟩:=Y3 h;have hw:=tF m.t;have h':mA m.e (bp m.t).2=0:=h;unfold dw je;rw[if_neg (fun t=>t h')];have:=OS (cS m.1) (fj m.e (bp m.t).1) pT (fun c hc hq=>by
  simp only[pT,List.mem_cons,List.not_mem_nil,or_false] at hc;have sz:∀ s:List UInt8,s.length<=48->(ky (str s).data.toList).length<=49:=fun s hs=>by unfold ky;simp[str];omega
  rcases hc with rfl | rfl | rfl | rfl | rfl | rfl | rfl
  ·exact sz m.2.1 (n1 hq)
  ·exact sz m.2.2.1 (n2 hq)
  ·exact sz m.2.2.2.1 (n3 hq)
  ·exact sz m.2.2.2.2.1 (n4 hq)
  ·show(cu _).length<=8;rw[iJ];exact Nat.le_refl _
  ·show(cu _).length<=8;rw[iJ];exact Nat.le_refl _
  ·show(_::_::(bp m.t).1).length<=1002;simp only[List.length_cons];omega)
 have e:(pT.map Ij).sum=1214:=by decide
 rw[e] at this;simp only[List.length_cons];have e2:(eQ m.e.1).flatMap (fj m.e (bp m.t).1)=(pT.filter (cS m.1)).flatMap (fj m.e (bp m.t).1):=rfl;rw[e2];omega
theorem OT {x:fw}(h:jm x.1=0):(gD x).1.length<=1216:=by
 rw[OP h,List.length_cons];have:=Dk h;omega
theorem Y4 {bs:List UInt8}(h:bs.length<nI bs+3):jo bs=none:=by
 unfold jo
 repeat' split
 all_goals first | rfl | (exfalso;omega)
theorem Y5 {x:List UInt8}(hx:x.length<=4000){m:Nat}(hm:m<x.length+3)(h0:0<m)(v:UInt8):jo (((bP x).take m).set (m - 1) v)=none:=by
 have hl:(((bP x).take m).set (m - 1) v).length=m:=by rw[List.length_set,List.length_take,oE];omega
 refine Y4 ?_;rw[hl]
 by_cases h2:m<=2
 ·omega
 have hh:(hd x.length).length=2:=rfl;have e:((bP x).take m).set (m - 1) v=hd x.length++((x++[kj 150 (hd x.length++x)]).take (m - 2)).set (m - 1 - 2) v:=by
  rw[H7,List.append_assoc,show m=(hd x.length).length+(m - 2) by omega,List.take_length_add_append,List.set_append_right _ _ (by omega)];rw[hh,show 2+(m - 2) - 2=m - 2 by omega]
 rw[e,Ot hx];exact hm
theorem Y6 {G:List (List UInt8)}{x y:List UInt8}{s:bI}(ok:s.Ok)(hy:y=[]\/y=bP x)(hx:x.length<=4000)(hb:s.b=dm G++y)(hs:s.synced=((dm G).length:Int))(hG:∀ r∈G,r.length<=4000)(ag sp:Int):
  ∃ R rest,(R=G\/R=G++[x]/\y=bP x)/\mN (mM s ag sp).b R rest/\(mM s ag sp).b.take ((mM s ag sp).b.length - rest.length)=dm R/\(mM s ag sp).synced=((mM s ag sp).b.length:Int):=by
 obtain⟨m,hm,yZ⟩:∃ m:Nat,jn s ag=((dm G).length:Int)+m/\m<=y.length:=by
  have lA:(s.b.length:Int)=(dm G).length+y.length:=by rw[hb,List.length_append];omega
  refine⟨(jn s ag - (dm G).length).toNat,?_,?_⟩<;>unfold jn<;>rw[hs,lA]<;>repeat' split
  all_goals omega
 have hB:(mM s ag sp).b=tR s (jn s ag) sp:=rfl;have hS:(mM s ag sp).synced=jn s ag:=rfl;rw[hB,hS,hm];unfold tR;rw[hs,hb];have Y7:(dm G++y).take (((dm G).length:Int)+m).toNat=dm G++y.take m:=by
  rw[show(((dm G).length:Int)+m).toNat=(dm G).length+m by omega,List.take_length_add_append]
 rw[Y7]
 by_cases h0:m=0
 ·subst h0
  rw[if_neg (by omega),List.take_zero];refine⟨G,[],.inl rfl,C7 Ou G hG,?_,by simp⟩;simp
 ·rw[if_pos (by omega)]
  have Ik:y=bP x:=by
   rcases hy with t | t
   ·subst t;simp at yZ;omega
   ·exact t
  subst Ik;rw[oE] at yZ;generalize sF ((dm G++bP x).getD (((dm G).length:Int)+(m:Int) - 1).toNat 0) sp=v;have Y8:(dm G++(bP x).take m).set (((dm G).length:Int)+(m:Int) - 1).toNat v=dm G++((bP x).take m).set (m - 1) v:=by
   rw[show(((dm G).length:Int)+(m:Int) - 1).toNat=(dm G).length+(m - 1) by omega,List.set_append_right _ _ (by omega),Nat.add_sub_cancel_left]
  rw[Y8];have hl:(((bP x).take m).set (m - 1) v).length=m:=by rw[List.length_set,List.length_take,oE];omega
  have bad:jo (((bP x).take m).set (m - 1) v)=none->∃ R rest,(R=G\/R=G++[x]/\bP x=bP x)/\mN (dm G++((bP x).take m).set (m - 1) v) R rest/\(dm G++((bP x).take m).set (m - 1) v).take ((dm G++((bP x).take m).set (m - 1) v).length - rest.length)=dm R/\((dm G).length:Int)+m=((dm G++((bP x).take m).set (m - 1) v).length:Int):=fun hn=>by
   refine⟨G,_,.inl rfl,C7 hn G hG,?_,by rw[List.length_append,hl];omega⟩;rw[List.length_append,Nat.add_sub_cancel,List.take_left]
  by_cases Y9:m<x.length+3
  ·exact bad (Y5 hx Y9 (by omega) v)
  ·have hmm:m=x.length+3:=by omega
   have OU:(bP x).take m=bP x:=List.take_of_length_le (by rw[oE];omega)
   by_cases hv:v=(bP x).getD (m - 1) 0
   ·have Za:((bP x).take m).set (m - 1) v=bP x:=by
     rw[OU,hv,List.getD_eq_getElem?_getD,List.getElem?_eq_getElem (by rw[oE];omega)];simp
    rw[Za];refine⟨G++[x],[],.inr ⟨rfl,rfl⟩,?_,?_,by rw[List.length_append,oE];omega⟩
    ·rw[<- Az]
     have:=C7 Ou (G++[x]) (fun r hr=>by
      simp only[List.mem_append,List.mem_singleton] at hr
      rcases hr with t | t
      ·exact hG r t
      ·rw[t];exact hx)
     rw[List.append_nil] at this;exact this
    ·rw[<- Az];simp
   ·refine bad ?_
    rw[OU];have:=Ys (x:=x) [] hx (j:=m - 1) (v:=v) (by omega) (by omega) hv;rw[List.append_nil] at this;exact this
structure dJ (p q:PeerM):Prop where
 kb:p.kb=q.kb
 side:p.side=q.side
 es:p.es=q.es
 hs:p.hs=q.hs
 cq:p.cq=q.cq
 aW:p.aW=q.aW
theorem dJ.refl (p:PeerM):dJ p p:=⟨rfl,rfl,rfl,rfl,rfl,rfl⟩
theorem dJ.symm {p q:PeerM}(h:dJ p q):dJ q p:=⟨h.kb.symm,h.side.symm,h.es.symm,h.hs.symm,h.cq.symm,h.aW.symm⟩
theorem dJ.trans {p q r:PeerM}(h:dJ p q)(k:dJ q r):dJ p r:=⟨h.kb.trans k.kb,h.side.trans k.side,h.es.trans k.es,h.hs.trans k.hs,h.cq.trans k.cq,h.aW.trans k.aW⟩
theorem dJ.len {p q:PeerM}(h:dJ p q):p.len=q.len:=by unfold PeerM.len;rw[h.es]
theorem dJ.head {p q:PeerM}(h:dJ p q):p.head=q.head:=by unfold PeerM.head;rw[h.es,h.hs]
theorem dJ.entry {p q:PeerM}(h:dJ p q)(x:fw):(p.entry x).2=(q.entry x).2/\dJ (p.entry x).1 (q.entry x).1:=by
 unfold PeerM.entry;rw[h.es,h.kb,h.head,h.cq,h.len];split
 ·exact⟨rfl,h⟩
 split
 ·exact⟨rfl,h⟩
 split
 ·exact⟨rfl,h⟩
 ·exact⟨rfl,rfl,h.side,rfl,(by dsimp only;rw[h.hs]),rfl,rfl⟩
theorem rp (p:PeerM)(a:bX):dJ (p.ended a) { p with aW:=if a.cQ=true then(a.bN,true) else p.aW }:=by
 unfold PeerM.ended PeerM.lq;split
 ·exact⟨rfl,rfl,rfl,rfl,rfl,rfl⟩
 ·exact⟨rfl,rfl,rfl,rfl,rfl,rfl⟩
theorem dJ.ended {p q:PeerM}(h:dJ p q){a b:bX}(hp:a.cQ=b.cQ)(he:a.cQ=true->a.bN=b.bN):dJ (p.ended a) (q.ended b):=by
 refine(rp p a).trans (dJ.trans ?_ (rp q b).symm);refine⟨h.kb,h.side,h.es,h.hs,h.cq,?_⟩;dsimp only;rw[<- hp];split
 ·rename_i t;rw[he t]
 ·exact h.aW
theorem dJ.bR {p q:PeerM}(h:dJ p q){a b:bX}(hE:a.da=b.da)(hx:a.da=true->a.bm=b.bm)(hp:a.cQ=b.cQ)(he:a.cQ=true->a.bN=b.bN):(p.bR a).2=(q.bR b).2/\dJ (p.bR a).1 (q.bR b).1:=by
 unfold PeerM.bR;rw[<- hE];split
 ·rename_i t
  rw[<- hx t,(h.entry a.bm).1];split
  ·exact⟨rfl,h⟩
  ·exact⟨rfl,(h.entry a.bm).2.ended hp he⟩
 ·exact⟨rfl,h.ended hp he⟩
def vK:bI:=⟨[],0,0,false,0,false⟩
def log (kb:List UInt8)(side:Int)(rs:List (List UInt8)):NodeM×Bool:=(NodeM.fresh kb side vK []).records rs
theorem Zb (n:NodeM)(j:jY)(b:List UInt8):({ n with j:=j }:NodeM).record b=({ (n.record b).1 with j:=j },(n.record b).2):=by
 unfold NodeM.record;cases b with
 | nil=>rfl
 | cons c r=>
  dsimp only;split
  ·rfl
  split
  ·split<;>rfl
  split
  ·split
   ·rfl
   split<;>rfl
  ·rfl
theorem tZ (n:NodeM)(b:List UInt8)(l:List (List UInt8)):n.records (b::l)=if(n.record b).2=true then(n.record b).1.records l else((n.record b).1,false):=rfl
theorem OV (j:jY):∀ (l:List (List UInt8)) (n:NodeM),({ n with j:=j }:NodeM).records l=({ (n.records l).1 with j:=j },(n.records l).2)
 | [],n=>rfl
 | b::l,n=>by
  rw[tZ,tZ,Zb];dsimp only;split
  ·exact OV j l _
  ·rfl
theorem Zc (kb:List UInt8)(side:Int)(fs:bI)(rs l:List (List UInt8)):(NodeM.fresh kb side fs rs).records l=({ (log kb side l).1 with j:=⟨fs,false,rs⟩ },(log kb side l).2):=
 OV ⟨fs,false,rs⟩ l (NodeM.fresh kb side vK [])
theorem OW:∀ (l m:List (List UInt8)) (n:NodeM),n.records (l++m)=if(n.records l).2=true then(n.records l).1.records m else n.records l
 | [],m,n=>by simp[NodeM.records]
 | b::l,m,n=>by
  rw[List.cons_append,tZ,tZ]
  by_cases h:(n.record b).2=true
  ·rw[if_pos h,if_pos h,OW l m]
  ·rw[if_neg h,if_neg h];simp
theorem vL {kb:List UInt8}{side:Int}{l:List (List UInt8)}{b:List UInt8}(h:(log kb side l).2=true):log kb side (l++[b])=(log kb side l).1.record b:=by
 unfold log at *;rw[OW,if_pos h,tZ];generalize((NodeM.fresh kb side vK []).records l).1.record b=r
 by_cases t:r.2=true
 ·rw[if_pos t];exact Prod.ext rfl t.symm
 ·rw[if_neg t];exact Prod.ext rfl (by simpa using t)
theorem OX (n:NodeM)(b:List UInt8):(n.record b).1.kb=n.kb/\(n.record b).1.side=n.side/\(n.record b).1.j=n.j/\(n.record b).1.w=n.w/\(n.record b).1.number=n.number:=by
 unfold NodeM.record;cases b with
 | nil=>exact⟨rfl,rfl,rfl,rfl,rfl⟩
 | cons c r=>
  dsimp only;split
  ·exact⟨rfl,rfl,rfl,rfl,rfl⟩
  split
  ·split<;>exact⟨rfl,rfl,rfl,rfl,rfl⟩
  split
  ·split
   ·exact⟨rfl,rfl,rfl,rfl,rfl⟩
   split<;>exact⟨rfl,rfl,rfl,rfl,rfl⟩
  ·exact⟨rfl,rfl,rfl,rfl,rfl⟩
theorem Il:∀ (l:List (List UInt8)) (n:NodeM),(n.records l).1.kb=n.kb/\(n.records l).1.side=n.side/\(n.records l).1.j=n.j/\(n.records l).1.w=n.w/\(n.records l).1.number=n.number
 | [],n=>⟨rfl,rfl,rfl,rfl,rfl⟩
 | b::l,n=>by
  rw[tZ];obtain⟨a1,a2,a3,a4,a5⟩:=OX n b;split
  ·obtain⟨b1,b2,b3,b4,b5⟩:=Il l (n.record b).1
   exact⟨b1.trans a1,b2.trans a2,b3.trans a3,b4.trans a4,b5.trans a5⟩
  ·exact⟨a1,a2,a3,a4,a5⟩
theorem AF {l:cH}{m:aT}{b:Int}(h:jU l m b=0):jm m=0:=by
 unfold jU iQ at h;split at h
 ·cases h
 split at h
 ·exact h
 ·rename_i t;exact Classical.not_not.1 t
theorem Zd {n s:Int}(h:PeerM.owner n=s):n % 2=s:=by
 unfold PeerM.owner at h;split at h<;>omega
def pA (p:PeerM):Prop:=p.aW.2=true->PeerM.owner p.len=p.side/\jU p.cq p.aW.1 p.side=0/\p.es.length<64
structure Fits (p:PeerM)(a:bX):Prop where
 one:a.da=true->a.cQ=false
 own:a.cQ=true->PeerM.owner p.len=p.side/\jU p.cq a.bN p.side=0/\p.es.length<64
 bm:a.da=true->(p.entry a.bm).2=0
 new:a.cQ=true->p.aW.2=false/\(p.off.2=true/\a.bN=p.off.1\/p.off.2=false/\a.bN=vD)
 src:a.da=true->PeerM.owner p.len≠p.side\/p.aW.2=true/\a.bm.1=p.aW.1
theorem xW {p:PeerM}{a:bX}(h1:a.da=false)(h2:a.cQ=false):Fits p a:=⟨fun t=>(by rw[h1] at t;cases t),fun t=>(by rw[h2] at t;cases t),fun t=>(by rw[h1] at t;cases t),fun t=>(by rw[h2] at t;cases t),fun t=>(by rw[h1] at t;cases t)⟩
theorem OY {p:PeerM}(m:aT)(ho:PeerM.owner p.len=p.side)(hf:¬ p.full=true)(hp:¬ p.aW.2=true)(hm:p.off.2=true/\m=p.off.1\/p.off.2=false/\m=vD):Fits p (p.kJ m):=by
 unfold PeerM.kJ;split
 ·exact xW rfl rfl
 ·rename_i t
  exact⟨fun t=>(by cases t),fun _=>⟨ho,Classical.not_not.1 t,by unfold PeerM.full at hf;simpa using hf⟩,fun t=>(by cases t),fun _=>⟨by simpa using hp,hm⟩,fun t=>(by cases t)⟩
theorem Im (p:PeerM):Fits p p.tick:=by
 unfold PeerM.tick;split
 ·exact xW rfl rfl
 split
 ·exact xW rfl rfl
 rename_i hf;split
 ·exact xW rfl rfl
 rename_i hp;split
 ·rename_i t;exact OY _ t.1 hf hp (.inl ⟨t.2,rfl⟩)
 rename_i ho;split
 ·rename_i t;exact OY _ t.1 hf hp (.inr ⟨by simpa using fun q=>ho ⟨t.1,q⟩,rfl⟩)
 split
 ·exact xW rfl rfl
 ·exact xW rfl rfl
theorem Fits.bR {p:PeerM}{a:bX}(h:Fits p a):(p.bR a).2=0:=by
 unfold PeerM.bR;split
 ·rename_i t;rw[if_neg (fun q=>q (h.bm t))]
 ·rfl
theorem pA.bR {p:PeerM}{a:bX}(hp:pA p)(h:Fits p a):pA (p.bR a).1:=by
 have hc:∀ q:PeerM,dJ p q->pA q:=fun q s t=>by
  obtain⟨a1,a2,a3⟩:=hp (by rw[s.aW];exact t);rw[<- s.len,<- s.side,<- s.cq,<- s.aW,<- s.es];exact⟨a1,a2,a3⟩
 unfold PeerM.bR;split
 ·rename_i t
  rw[if_neg (fun q=>q (h.bm t))];have e:=rp (p.entry a.bm).1 a;have hP:=h.one t;intro w;rw[e.aW] at w;dsimp only at w;rw[if_neg (by rw[hP];simp)] at w
  exfalso
  have h0:=h.bm t;unfold PeerM.entry at w h0;split at h0
  ·cases h0
  rename_i g1;rw[if_neg g1] at w;split at h0
  ·rename_i q;exact q h0
  rename_i g2;rw[if_neg g2] at w;split at h0
  ·rename_i q;exact q.2 h0
  rename_i g3;rw[if_neg g3] at w;cases w
 ·have e:=rp p a
  intro w;rw[e.aW] at w;rw[e.len,e.side,e.cq,e.aW,e.es];dsimp only at w ⊢;cases hP:a.cQ with
  | true=>rw[if_pos rfl];exact h.own hP
  | false=>rw[hP] at w;rw[if_neg (by simp)] at w ⊢;exact hp w
theorem Dl (s:bI):(cW s).2=true->(cW s).1.dead=s.dead:=by
 unfold cW;split
 ·intro h;cases h
 ·intro _;rfl
theorem Io (s:bI)(h:s.lit=false):(cW s).2=true/\(cW s).1.lit=false:=by
 unfold cW;rw[h];exact⟨rfl,rfl⟩
def Holds (s:bI)(rs:List (List UInt8))(y:List UInt8):Prop:=s.b=dm rs++y/\s.synced=((dm rs).length:Int)
theorem OZ {j:jY}{x:List UInt8}(hd:j.d=false)(hf:j.fs.dead=false)(hb:Holds j.fs j.rs [])(hx:x.length<=4000):
  ((j.put x).2=0/\(j.put x).1.d=false/\(j.put x).1.rs=j.rs++[x]/\(j.put x).1.fs.dead=false/\Holds (j.put x).1.fs (j.rs++[x]) []) \/
  ((j.put x).2=10/\(j.put x).1.d=false/\(j.put x).1.rs=j.rs/\(j.put x).1.fs=j.fs) \/
  ((j.put x).2=11/\(j.put x).1.d=true/\(j.put x).1.rs=j.rs/\((j.put x).1.fs.b=j.fs.b\/(j.put x).1.fs.b=j.fs.b++bP x)/\(j.put x).1.fs.synced=j.fs.synced):=by
 obtain⟨hb,hs⟩:=hb;rw[List.append_nil] at hb;unfold jY.put iU;dsimp only;rw[if_neg (by rw[hd,hf];simp),if_neg (by omega)];obtain⟨e1,e2,e3⟩:=pw j.fs;have hA:eU j.fs (bP x)=if((bP x).length:Int) > j.fs.cr - j.fs.b.length then(j.fs,10) else if(cW j.fs).2 then({ (cW j.fs).1 with b:=j.fs.b++bP x },0) else((cW j.fs).1,11):=by
  unfold eU;rw[if_neg (by rw[hf];simp)]
 by_cases hq:((bP x).length:Int) > j.fs.cr - j.fs.b.length
 ·rw[hA,if_pos hq,if_pos (by simp)]
  exact .inr (.inl ⟨rfl,rfl,rfl,rfl⟩)
 rw[if_neg hq] at hA
 by_cases h1:(cW j.fs).2=true
 ·rw[if_pos h1] at hA
  rw[hA,if_neg (fun t=>t rfl)];generalize gw:({ (cW j.fs).1 with b:=j.fs.b++bP x }:bI)=s2
  have d2:s2.dead=false:=by rw[<- gw];exact(Dl _ h1).trans hf
  have b2:s2.b=j.fs.b++bP x:=by rw[<- gw]
  have y2:s2.synced=j.fs.synced:=by rw[<- gw];exact e3
  obtain⟨g1,g2,g3⟩:=pw s2;have hS:iq s2=if(cW s2).2 then({ (cW s2).1 with synced:=s2.b.length },0) else((cW s2).1,11):=by unfold iq;rw[if_neg (by rw[d2];simp)]
  by_cases h2:(cW s2).2=true
  ·rw[if_pos h2] at hS
   rw[hS,if_neg (fun t=>t rfl)];refine .inl ⟨rfl,rfl,rfl,(Dl _ h2).trans d2,?_,?_⟩
   ·show(cW s2).1.b=_
    rw[g1,b2,hb,Az,List.append_nil]
   ·show(s2.b.length:Int)=_
    rw[b2,hb,Az]
  ·rw[if_neg h2] at hS
   rw[hS,if_pos (by simp)];exact .inr (.inr ⟨rfl,rfl,rfl,.inr (g1.trans b2),g3.trans y2⟩)
 ·rw[if_neg h1] at hA
  rw[hA,if_pos (by simp)];exact .inr (.inr ⟨rfl,rfl,rfl,.inl e1,e3⟩)
theorem Ze {L:NodeM}{p:PeerM}{a:bX}(hc:dJ L.p p)(hs:L.side=p.side)(hf:Fits p a)(hb:a.da=true\/a.cQ=true)(h0:(NodeM.eF a).2=0):
  (L.record (NodeM.eF a).1).2=true/\dJ (L.record (NodeM.eF a).1).1.p (p.bR a).1/\(L.record (NodeM.eF a).1).1.aZ=L.aZ:=by
 have qS:=hf.bR;unfold NodeM.eF at h0 ⊢
 by_cases hE:a.da=true
 ·rw[if_pos hE] at h0 ⊢
  have hP:=hf.one hE;have hk:jm a.bm.1=0:=by rw[<- Dj];exact h0
  unfold NodeM.record;dsimp only;rw[if_neg (by decide),if_pos rfl,Y0 hk,if_neg (fun t=>t rfl)];dsimp only;have:=hc.bR (a:={ bH with da:=true,bm:=a.bm }) (b:=a) hE.symm (fun _=>rfl) hP.symm (fun t=>by cases t)
  refine⟨?_,this.2,rfl⟩;rw[this.1,qS];rfl
 ·rw[if_neg hE] at h0 ⊢
  have hP:a.cQ=true:=hb.resolve_left hE;obtain⟨o1,o2,o3⟩:=hf.own hP;have hk:jm a.bN=0:=AF o2;unfold NodeM.record;dsimp only;rw[if_neg (by decide),if_neg (by decide),if_pos rfl,OO hk,if_neg (fun t=>t rfl),if_neg (by rw[hc.len,hs];exact fun t=>t (Zd o1))];have Zf:a.da=false:=by simpa using hE
  have:=hc.bR (a:={ bH with cQ:=true,bN:=a.bN }) (b:=a) Zf.symm (fun t=>by cases t) hP.symm (fun _=>rfl)
  exact⟨rfl,this.2,rfl⟩
theorem Zg {a:bX}(h0:(NodeM.eF a).2=0):(NodeM.eF a).1.length<=4000:=by
 unfold NodeM.eF at h0 ⊢;split
 ·rename_i t
  rw[if_pos t] at h0;have:=OT (x:=a.bm) (by rw[<- Dj];exact h0);simp only[List.length_cons];omega
 ·rename_i t
  rw[if_neg t] at h0;have:=Dk (m:=a.bN) (by rw[<- xV];exact h0);simp only[List.length_cons];omega
def Ip (n:NodeM)(x:List UInt8):Prop:=
 x.length<=4000/\(log n.kb n.side (n.j.rs++[x])).2=true/\∃ a,Fits n.p a/\(a.da=true\/a.cQ=true)/\nK a/\dJ (log n.kb n.side (n.j.rs++[x])).1.p (n.p.bR a).1/\(log n.kb n.side (n.j.rs++[x])).1.aZ=n.aZ
structure Dm (n:NodeM):Prop where
 ok:(log n.kb n.side n.j.rs).2=true
 p:dJ (log n.kb n.side n.j.rs).1.p n.p
 aZ:(log n.kb n.side n.j.rs).1.aZ=n.aZ
 rows:∀ r∈n.j.rs,r.length<=4000
structure Live (n:NodeM):Prop where
 ok:cX n.p
 side:n.p.side=n.side
 kb:n.p.kb=n.kb
 aW:pA n.p
 log:Dm n
 nL:n.j.fs.Ok
 live:n.j.d=false->n.j.fs.dead=false/\Holds n.j.fs n.j.rs []
 dead:n.j.d=true->∃ y,Holds n.j.fs n.j.rs y/\(y=[]\/∃ x,y=bP x/\Ip n x)
theorem Iq {s:bI}(h:s.Ok):(cW s).1.Ok:=by
 unfold cW;split<;>exact⟨h.len,h.q0,h.q1,h.s0,h.s1⟩
theorem O0 {s:bI}(h:s.Ok)(d:Bool)(x:List UInt8):(iU s d x).1.Ok:=by
 have sI:=Iq h;obtain⟨e1,e2,e3⟩:=pw s;have hA:(eU s (bP x)).1.Ok:=by
  unfold eU;split
  ·exact h
  split
  ·exact h
  rename_i hq;split
  ·have h4:=h.s1;have h5:=h.q1
   refine⟨?_,sI.q0,sI.q1,sI.s0,?_⟩
   ·show(s.b++bP x).length<=_
    rw[List.length_append];omega
   ·show(cW s).1.synced<=((s.b++bP x).length:Int)
    rw[e3,List.length_append];omega
  ·exact sI
 have hS:∀ {s:bI},s.Ok->(iq s).1.Ok:=fun{s} h=>by
  have sI:=Iq h;obtain⟨e1,e2,e3⟩:=pw s;unfold iq;split
  ·exact h
  split
  ·refine⟨sI.len,sI.q0,sI.q1,?_,?_⟩
   ·show(0:Int)<=(s.b.length:Int);omega
   ·show(s.b.length:Int)<=((cW s).1.b.length:Int);rw[e1];exact Int.le_refl _
  ·exact sI
 unfold iU;split
 ·exact h
 split
 ·exact h
 split
 ·exact hA
 split
 ·exact hS hA
 ·exact hS hA
theorem Dm.snoc {n n':NodeM}(h:Dm n){x:List UInt8}(hk:n'.kb=n.kb)(hs:n'.side=n.side)(hr:n'.j.rs=n.j.rs++[x])(hx:x.length<=4000)(h1:((log n.kb n.side n.j.rs).1.record x).2=true)(h2:dJ ((log n.kb n.side n.j.rs).1.record x).1.p n'.p)(h3:((log n.kb n.side n.j.rs).1.record x).1.aZ=n'.aZ):Dm n':=by
 have e:=vL (b:=x) h.ok;refine⟨?_,?_,?_,?_⟩
 ·rw[hk,hs,hr,e];exact h1
 ·rw[hk,hs,hr,e];exact h2
 ·rw[hk,hs,hr,e];exact h3
 ·rw[hr];intro r hr
  rcases List.mem_append.1 hr with hr | hr
  ·exact h.rows r hr
  ·simp at hr;subst hr;exact hx
theorem O1 (kb:List UInt8)(side:Int)(l:List (List UInt8)):(log kb side l).1.kb=kb/\(log kb side l).1.side=side/\(log kb side l).1.number=0:=by
 obtain⟨a,b,c,d,e⟩:=Il l (NodeM.fresh kb side vK []);exact⟨a,b,e⟩
theorem Live.ag {n:NodeM}(h:Live n)(hd:n.j.d=false){a:bX}(hf:Fits n.p a)(ha:nK a):
  ((n.ag a).2=0/\(n.ag a).1.j.d=false/\(n.ag a).1.p=n.p/\Live { (n.ag a).1 with p:=(n.p.bR a).1 }/\(n.ag a).1.aZ=n.aZ/\(n.ag a).1.number=n.number/\(n.ag a).1.kb=n.kb/\(n.ag a).1.side=n.side/\(n.ag a).1.w=n.w) \/
  ((n.ag a).2≠0/\(n.ag a).1.p=n.p/\Live (n.ag a).1/\((n.ag a).2=11↔(n.ag a).1.j.d=true)/\(n.ag a).1.aZ=n.aZ/\(n.ag a).1.number=n.number/\(n.ag a).1.kb=n.kb/\(n.ag a).1.side=n.side/\(n.ag a).1.w=n.w/\((n.ag a).1.j.d=false->(n.ag a).1=n)):=by
 obtain⟨Df,hH⟩:=h.live hd
 by_cases hn:a.da=false/\a.cQ=false
 ·have e:n.ag a=(n,0):=by unfold NodeM.ag;rw[if_pos hn]
  rw[e];refine .inl ⟨rfl,hd,rfl,?_,rfl,rfl,rfl,rfl,rfl⟩;have hc:dJ n.p (n.p.bR a).1:=by
   unfold PeerM.bR;rw[if_neg (by rw[hn.1];simp)];refine dJ.symm ((rp n.p a).trans ?_);rw[hn.2];exact dJ.refl _
  exact⟨h.ok.bR ha.bm ha.bN,hc.side.symm.trans h.side,hc.kb.symm.trans h.kb,h.aW.bR hf,⟨h.log.ok,h.log.p.trans hc,h.log.aZ,h.log.rows⟩,h.nL,h.live,fun t=>by rw[hd] at t;cases t⟩
 have hb:a.da=true\/a.cQ=true:=by
  cases hE:a.da
  ·cases hP:a.cQ
   ·exact absurd ⟨hE,hP⟩ hn
   ·exact .inr rfl
  ·exact .inl rfl
 have Ir:(NodeM.eF a).2=0:=by
  unfold NodeM.eF;split
  ·rename_i t
   have h0:=hf.bm t;show(gD a.bm).2=0;unfold PeerM.entry at h0;split at h0
   ·cases h0
   split at h0
   ·rename_i q;exact absurd h0 q
   rename_i q;have q:=Classical.not_not.1 q;unfold fX at q;split at q
   ·rename_i r;exact q
   ·rename_i r;exact Classical.not_not.1 r
  ·rename_i t
   have:=hf.own (hb.resolve_left t);show(dw a.bN).2=0;rw[xV];exact AF this.2.1
 have hx:=Zg Ir;have e:n.ag a=({ n with j:=(n.j.put (NodeM.eF a).1).1 },(n.j.put (NodeM.eF a).1).2):=by
  unfold NodeM.ag;rw[if_neg hn,if_neg (fun t=>t Ir)]
 obtain⟨lk,ls,ln⟩:=O1 n.kb n.side n.j.rs;have me:=Ze h.log.p (ls.trans h.side.symm) hf hb Ir;have O2:(n.j.put (NodeM.eF a).1).1.fs.Ok:=O0 h.nL _ _;have hcs:(n.p.bR a).1.side=n.p.side/\(n.p.bR a).1.kb=n.p.kb:=by
  unfold PeerM.bR;split
  ·split
   ·exact⟨rfl,rfl⟩
   ·have:=rp (n.p.entry a.bm).1 a
    have e2:(n.p.entry a.bm).1.side=n.p.side/\(n.p.entry a.bm).1.kb=n.p.kb:=by
     unfold PeerM.entry;split
     ·exact⟨rfl,rfl⟩
     split
     ·exact⟨rfl,rfl⟩
     split<;>exact⟨rfl,rfl⟩
    exact⟨this.side.trans e2.1,this.kb.trans e2.2⟩
  ·have:=rp n.p a
   exact⟨this.side,this.kb⟩
 rw[e]
 rcases OZ hd Df hH hx with⟨c0,c1,c2,c3,c4⟩ | ⟨c0,c1,c2,c3⟩ | ⟨c0,c1,c2,c3,c4⟩
 ·refine .inl ⟨c0,c1,rfl,?_,rfl,rfl,rfl,rfl,rfl⟩
  refine⟨h.ok.bR ha.bm ha.bN,hcs.1.trans h.side,hcs.2.trans h.kb,h.aW.bR hf,?_,O2,fun _=>⟨c3,by rw[<- c2] at c4;exact c4⟩,fun t=>by rw[c1] at t;cases t⟩;exact h.log.snoc rfl rfl c2 hx me.1 me.2.1 (me.2.2.trans h.log.aZ)
 ·refine .inr ⟨by rw[c0];decide,rfl,?_,⟨fun t=>(by rw[c0] at t;cases t),fun t=>(by rw[c1] at t;cases t)⟩,rfl,rfl,rfl,rfl,rfl,fun _=>?_⟩
  ·have ej:(n.j.put (NodeM.eF a).1).1=n.j:=by
    generalize(n.j.put (NodeM.eF a).1).1=j' at c1 c2 c3;cases j';simp only at c1 c2 c3;cases sJ:n.j;rw[sJ] at c2 c3 hd;simp only at c2 c3 hd;rw[c1,c2,c3,hd]
   rw[ej];exact h
  ·have ej:(n.j.put (NodeM.eF a).1).1=n.j:=by
    generalize(n.j.put (NodeM.eF a).1).1=j' at c1 c2 c3;cases j';simp only at c1 c2 c3;cases sJ:n.j;rw[sJ] at c2 c3 hd;simp only at c2 c3 hd;rw[c1,c2,c3,hd]
   rw[ej]
 ·refine .inr ⟨by rw[c0];decide,rfl,?_,⟨fun _=>c1,fun _=>c0⟩,rfl,rfl,rfl,rfl,rfl,fun t=>by dsimp only at t;rw[c1] at t;cases t⟩
  refine⟨h.ok,h.side,h.kb,h.aW,⟨?_,?_,?_,?_⟩,O2,fun t=>(by rw[c1] at t;cases t),fun _=>?_⟩
  ·dsimp only;rw[c2];exact h.log.ok
  ·dsimp only;rw[c2];exact h.log.p
  ·dsimp only;rw[c2];exact h.log.aZ
  ·dsimp only;rw[c2];exact h.log.rows
  ·dsimp only
   obtain⟨au,aI⟩:=hH;rw[List.append_nil] at au
   rcases c3 with c3 | c3
   ·exact⟨[],⟨by rw[c2,c3,au,List.append_nil],by rw[c2,c4,aI]⟩,.inl rfl⟩
   ·refine⟨bP (NodeM.eF a).1,⟨by rw[c2,c3,au],by rw[c2,c4,aI]⟩,.inr ⟨_,rfl,hx,?_,a,hf,hb,ha,?_,?_⟩⟩
    ·rw[c2,vL h.log.ok];exact me.1
    ·rw[c2,vL h.log.ok];exact me.2.1
    ·rw[c2,vL h.log.ok];exact me.2.2.trans h.log.aZ
theorem Live.Zh {n:NodeM}(h:Live n)(k:Int):Live { n with number:=k }:=⟨h.ok,h.side,h.kb,h.aW,⟨h.log.ok,h.log.p,h.log.aZ,h.log.rows⟩,h.nL,h.live,fun t=>h.dead t⟩
theorem Live.Zi {n:NodeM}(h:Live n){p:PeerM}(hp:dJ n.p p)(ho:dH p.off.1)(hq:n.j.d=false\/p.off=n.p.off):Live { n with p:=p }:=by
 have Zj:pA p:=fun t=>by
  obtain⟨a1,a2,a3⟩:=h.aW (by rw[hp.aW];exact t);rw[<- hp.len,<- hp.side,<- hp.cq,<- hp.aW,<- hp.es];exact⟨a1,a2,a3⟩
 refine⟨⟨?_,?_,?_,?_,?_,?_,ho,?_,?_⟩,hp.side.symm.trans h.side,hp.kb.symm.trans h.kb,Zj,⟨h.log.ok,h.log.p.trans hp,h.log.aZ,h.log.rows⟩,h.nL,h.live,fun t=>?_⟩
 ·rw[<- hp.kb];exact h.ok.kb
 ·rw[<- hp.side];exact h.ok.side
 ·rw[<- hp.hs,<- hp.es];exact h.ok.hs
 ·rw[<- hp.es];exact h.ok.num
 ·rw[<- hp.hs];exact h.ok.lI
 ·rw[<- hp.es];exact h.ok.es
 ·rw[<- hp.aW];exact h.ok.aW
 ·rw[<- hp.cq];exact h.ok.cq
 ·obtain⟨y,hy,hx⟩:=h.dead t
  have hq:=hq.resolve_left (fun u=>by have t:n.j.d=true:=t;rw[t] at u;cases u);refine⟨y,hy,hx.imp id fun⟨x,q,l,r1,a,hf,hb,ha,r2,r3⟩=>⟨x,q,l,r1,a,?_,hb,ha,?_,r3⟩⟩
  ·refine⟨hf.one,fun t=>?_,fun t=>?_,fun t=>?_,fun t=>?_⟩
   ·have:=hf.own t
    rw[<- hp.len,<- hp.side,<- hp.cq,<- hp.es];exact this
   ·have:=hf.bm t
    rw[<- (hp.entry a.bm).1];exact this
   ·have:=hf.new t
    rw[<- hp.aW,hq];exact this
   ·have:=hf.src t
    rw[<- hp.len,<- hp.side,<- hp.aW];exact this
  ·exact r2.trans (hp.bR rfl (fun _=>rfl) rfl (fun _=>rfl)).2
theorem Live.act {n:NodeM}(h:Live n)(hd:n.j.d=false){a:bX}(hf:Fits n.p a)(ha:nK a):Live (n.act a).1:=by
 unfold NodeM.act
 rcases h.ag hd hf ha with⟨c0,c1,c2,c3,c4,c5,c6,c7,c8⟩ | ⟨c0,c1,c2,c3⟩
 ·rw[if_neg (fun t=>t c0),c2,if_neg (fun t=>t hf.bR)]
  exact Live.Zh c3 _
 ·rw[if_pos c0];exact c2
theorem Live.offer {n:NodeM}(h:Live n){m:aT}(hm:dH m):Live (n.offer m).1:=by
 unfold NodeM.offer NodeM.dead;split
 ·exact h
 ·rename_i hd
  refine h.Zi ?_ (h.ok.offer hm).off (.inl (by simpa using hd));unfold PeerM.offer;split
  ·exact dJ.refl _
  split
  ·exact dJ.refl _
  split
  ·exact dJ.refl _
  split
  ·exact dJ.refl _
  ·exact⟨rfl,rfl,rfl,rfl,rfl,rfl⟩
theorem Zk {bs q:List UInt8}{l:List (List UInt8)}(h:mN bs l q):∀ n,l.length<=n->xS n bs=(l,q):=by
 induction h with
 | stop h0=>
  intro n _;cases n with
  | zero=>rfl
  | succ n=>unfold xS;rw[h0]
 | next h0 _ ih=>
  intro n hn;cases n with
  | zero=>simp at hn
  | succ n=>
   unfold xS;rw[h0];dsimp only;rw[ih n (by simpa using hn)]
theorem Is {bs q:List UInt8}{l:List (List UInt8)}(h:mN bs l q):vG bs=(l,q):=Zk h _ (by have:=h.len;omega)
theorem Zl {j:jY}{x:List UInt8}(hd:j.d=false)(hf:j.fs.dead=false)(hl:j.fs.lit=false)(hx:x.length<=4000):
  (j.put x).2≠11/\(j.put x).1.fs.lit=false/\(j.put x).1.fs.cr=j.fs.cr/\((j.put x).2=10->j.fs.cr - j.fs.b.length<x.length+3):=by
 obtain⟨e1,e2,e3⟩:=pw j.fs;obtain⟨k1,k2⟩:=Io _ hl;unfold jY.put iU;dsimp only;rw[if_neg (by rw[hd,hf];simp),if_neg (by omega)];have hA:eU j.fs (bP x)=if((bP x).length:Int) > j.fs.cr - j.fs.b.length then(j.fs,10) else({ (cW j.fs).1 with b:=j.fs.b++bP x },0):=by
  unfold eU;rw[if_neg (by rw[hf];simp),if_pos k1]
 by_cases hq:((bP x).length:Int) > j.fs.cr - j.fs.b.length
 ·rw[hA,if_pos hq,if_pos (by simp)]
  refine⟨by simp,hl,rfl,fun _=>?_⟩;rw[oE] at hq;omega
 rw[if_neg hq] at hA;rw[hA,if_neg (fun t=>t rfl)];generalize gw:({ (cW j.fs).1 with b:=j.fs.b++bP x }:bI)=s2
 have d2:s2.dead=false:=by rw[<- gw];exact(Dl _ k1).trans hf
 have l2:s2.lit=false:=by rw[<- gw];exact k2
 have q2:s2.cr=j.fs.cr:=by rw[<- gw];exact e2
 obtain⟨g1,g2,g3⟩:=pw s2;obtain⟨m1,m2⟩:=Io _ l2;have hS:iq s2=({ (cW s2).1 with synced:=s2.b.length },0):=by unfold iq;rw[if_neg (by rw[d2];simp),if_pos m1]
 rw[hS,if_neg (fun t=>t rfl)];exact⟨by simp,m2,g2.trans q2,fun t=>by cases t⟩
theorem O3:([1]:List UInt8).length<=4000:=by decide
theorem O4 {kb:List UInt8}(hk:kb.length=16){side:Int}(hs:side=0\/side=1){s:bI}(ok:s.Ok)(hd:s.dead=false)(hl:s.lit=false){R:List (List UInt8)}{rest:List UInt8}(hP:mN s.b R rest)(ht:s.b.take (s.b.length - rest.length)=dm R)
  (It:s.synced=(s.b.length:Int)) (hR:∀ r∈R,r.length<=4000) (Dn:(log kb side R).2=true) (j7:cX (log kb side R).1.p) (hp:pA (log kb side R).1.p) (HV:(log kb side R).1.p.side=side/\(log kb side R).1.p.kb=kb) :
  (∃ m,NodeM.open_ kb side s=(m.j.fs,some m,0)/\Live m/\m.kb=kb/\m.side=side/\m.p=(log kb side R).1.p/\m.aZ=(log kb side R).1.aZ+1/\m.number=0/\m.w=vH/\m.j.rs=R++[[1]]/\m.j.d=false/\m.j.fs.lit=false/\m.j.fs.cr=s.cr) \/
  (∃ s',NodeM.open_ kb side s=(s',none,10)/\s'.cr - s'.b.length<4/\s'.b=dm R/\s'.cr=s.cr):=by
 have O5:rest.length<=s.b.length:=by have:=hP.len;omega
 obtain⟨s1,e1,b1,d1,l1,y1,Zm,q1⟩:∃ s1,ma s=(s1,R,0)/\s1.b=dm R/\s1.dead=false/\s1.lit=false/\s1.synced=((dm R).length:Int)/\s1.Ok/\s1.cr=s.cr:=by
  unfold ma;rw[Is hP,if_neg (by rw[hd];simp)];dsimp only
  by_cases h0:rest=[]
  ·subst h0
   rw[if_pos rfl];have:s.b=dm R:=by rw[<- ht];simp
   exact⟨s,rfl,this,hd,hl,by rw[It,this],ok,rfl⟩
  ·rw[if_neg h0]
   have dD:=Io s hl;obtain⟨g1,g2,g3⟩:=pw s;have hc:lJ s ((s.b.length - rest.length:Nat):Int)=({ (cW s).1 with b:=s.b.take (s.b.length - rest.length),synced:=((s.b.length - rest.length:Nat):Int) },0):=by
    unfold lJ;rw[if_neg (by rw[hd];simp),if_neg (by omega),if_neg (by omega),if_pos dD.1];rfl
   rw[hc];have hlen:(dm R).length=s.b.length - rest.length:=by rw[<- ht,List.length_take];omega
   have xX:=Iq ok;refine⟨_,rfl,ht,(Dl _ dD.1).trans hd,dD.2,by rw[hlen],?_,g2⟩;have:=ok.len;exact⟨by dsimp only;rw[ht];omega,xX.q0,xX.q1,by dsimp only;omega,by dsimp only;rw[ht];omega⟩
 unfold NodeM.open_;rw[if_neg (by rcases hs with rfl | rfl<;>decide),e1]
 dsimp only;rw[if_neg (fun t=>t rfl),Zc,Dn,if_neg (by simp)];obtain⟨lk,ls,ln⟩:=O1 kb side R;have lw:(log kb side R).1.w=vH:=(Il R (NodeM.fresh kb side vK [])).2.2.2.1;have hH:Holds s1 R []:=⟨by rw[b1,List.append_nil],y1⟩;obtain⟨p1,p2,p3,p4⟩:=Zl (j:=⟨s1,false,R⟩) (x:=[1]) rfl d1 l1 O3
 rcases OZ (j:=⟨s1,false,R⟩) (x:=[1]) rfl d1 hH O3 with⟨c0,c1,c2,c3,c4⟩ | ⟨c0,c1,c2,c3⟩ | ⟨c0,_⟩
 ·rw[if_neg (fun t=>t c0)]
  refine .inl ⟨{ (log kb side R).1 with j:=(jY.put ⟨s1,false,R⟩ [1]).1,aZ:=(log kb side R).1.aZ+1 },rfl,?_,lk,ls,rfl,rfl,ln,lw,c2,c1,p2,p3.trans q1⟩
  refine⟨j7,HV.1.trans ls.symm,HV.2.trans lk.symm,hp,?_,O0 Zm _ _,fun _=>⟨c3,by dsimp only;rw[c2];exact c4⟩,fun t=>by dsimp only at t;rw[c1] at t;cases t⟩;refine⟨?_,?_,?_,?_⟩<;>dsimp only<;>rw[c2]
  ·rw[lk,ls,vL Dn];rfl
  ·rw[lk,ls,vL Dn];exact dJ.refl _
  ·rw[lk,ls,vL Dn];rfl
  ·intro r hr
   rcases List.mem_append.1 hr with hr | hr
   ·exact hR r hr
   ·simp at hr;subst hr;decide
 ·rw[if_pos (by rw[c0];decide),c0]
  refine .inr ⟨_,rfl,?_⟩;have:=p4 c0;have c3:(jY.put ⟨s1,false,R⟩ [1]).1.fs=s1:=c3;rw[c3];have e:([1]:List UInt8).length=1:=rfl;rw[e] at this;dsimp only at this;exact⟨by omega,b1,q1⟩
 ·exact absurd c0 p1
theorem O6 {n:NodeM}(h:cX n.p)(b:List UInt8):cX (n.record b).1.p/\(n.record b).1.p.side=n.p.side/\(n.record b).1.p.kb=n.p.kb:=by
 have hcs:∀ a:bX,(n.p.bR a).1.side=n.p.side/\(n.p.bR a).1.kb=n.p.kb:=by
  intro a;unfold PeerM.bR;split
  ·split
   ·exact⟨rfl,rfl⟩
   ·have:=rp (n.p.entry a.bm).1 a
    have e2:(n.p.entry a.bm).1.side=n.p.side/\(n.p.entry a.bm).1.kb=n.p.kb:=by
     unfold PeerM.entry;split
     ·exact⟨rfl,rfl⟩
     split
     ·exact⟨rfl,rfl⟩
     split<;>exact⟨rfl,rfl⟩
    exact⟨this.side.trans e2.1,this.kb.trans e2.2⟩
  ·have:=rp n.p a
   exact⟨this.side,this.kb⟩
 unfold NodeM.record;cases b with
 | nil=>exact⟨h,rfl,rfl⟩
 | cons c r=>
  dsimp only;split
  ·exact⟨h,rfl,rfl⟩
  split
  ·split
   ·exact⟨h,rfl,rfl⟩
   ·exact⟨h.bR (OQ r) dN,hcs _⟩
  split
  ·split
   ·exact⟨h,rfl,rfl⟩
   split
   ·exact⟨h,rfl,rfl⟩
   ·exact⟨h.bR dN (Ih r),hcs _⟩
  ·exact⟨h,rfl,rfl⟩
theorem O7:∀ (l:List (List UInt8)) {n:NodeM},cX n.p->cX (n.records l).1.p/\(n.records l).1.p.side=n.p.side/\(n.records l).1.p.kb=n.p.kb
 | [],n,h=>⟨h,rfl,rfl⟩
 | b::l,n,h=>by
  rw[tZ];obtain⟨a1,a2,a3⟩:=O6 h b;split
  ·obtain⟨b1,b2,b3⟩:=O7 l a1
   exact⟨b1,b2.trans a2,b3.trans a3⟩
  ·exact⟨a1,a2,a3⟩
theorem O8 {kb:List UInt8}(hk:kb.length=16){side:Int}(hs:side=0\/side=1)(l:List (List UInt8)):cX (log kb side l).1.p/\(log kb side l).1.p.side=side/\(log kb side l).1.p.kb=kb:=by
 obtain⟨a,b,c⟩:=O7 l (n:=NodeM.fresh kb side vK []) (OG hk side);refine⟨a,b.trans ?_,c⟩
 rcases hs with rfl | rfl<;>rfl
theorem pA.same {p q:PeerM}(h:pA p)(s:dJ p q):pA q:=fun t=>by
 obtain⟨a1,a2,a3⟩:=h (by rw[s.aW];exact t);rw[<- s.len,<- s.side,<- s.cq,<- s.aW,<- s.es];exact⟨a1,a2,a3⟩
theorem Zn {n:NodeM}(h:Live n)(ag sp:Int):∃ R,
    (R=n.j.rs/\dJ (log n.kb n.side R).1.p n.p\/n.j.d=true/\∃ a,Fits n.p a/\(a.da=true\/a.cQ=true)/\nK a/\dJ (log n.kb n.side R).1.p (n.p.bR a).1)/\(log n.kb n.side R).1.aZ=n.aZ /\
    ((∃ m,NodeM.open_ n.kb n.side (mM n.j.fs ag sp)=(m.j.fs,some m,0)/\Live m/\m.kb=n.kb/\m.side=n.side/\m.p=(log n.kb n.side R).1.p/\m.aZ=n.aZ+1/\m.number=0/\m.w=vH/\m.j.rs=R++[[1]]/\m.j.d=false/\m.j.fs.lit=false/\m.j.fs.cr=n.j.fs.cr) \/
     (∃ s',NodeM.open_ n.kb n.side (mM n.j.fs ag sp)=(s',none,10)/\s'.cr - s'.b.length<4/\s'.b=dm R/\s'.cr=n.j.fs.cr))/\(dm R).length<=n.j.fs.b.length:=by
  have hk:n.kb.length=16:=by rw[<- h.kb];exact h.ok.kb
  have hs:n.side=0\/n.side=1:=by rw[<- h.side];exact h.ok.side
  obtain⟨y,hH,hy⟩:∃ y,Holds n.j.fs n.j.rs y/\(y=[]\/n.j.d=true/\∃ x,y=bP x/\Ip n x):=by
    cases hd:n.j.d with
    | false=>exact⟨[],(h.live hd).2,.inl rfl⟩
    | true=>obtain⟨y,a,b⟩:=h.dead hd;exact⟨y,a,b.imp id fun t=>⟨rfl,t⟩⟩
  obtain⟨x,Ik,hx,jS⟩:∃ x,(y=[]\/y=bP x)/\x.length<=4000/\(y=bP x->n.j.d=true/\Ip n x):=by
    rcases hy with rfl | ⟨hd,x,rfl,hn⟩
    · refine⟨[],.inl rfl,by decide,fun t=>?_⟩
      have:=congrArg List.length t;rw[oE] at this;simp at this
    · exact⟨x,.inr rfl,hn.1,fun _=>⟨hd,hn⟩⟩
  obtain⟨R,rest,hR,hP,ht,It⟩:=Y6 h.nL Ik hx hH.1 hH.2 h.log.rows ag sp;refine⟨R,?_⟩;have Zo:∀ r∈R,r.length<=4000:=hP.len.2;have facts:(log n.kb n.side R).2=true/\(R=n.j.rs/\dJ (log n.kb n.side R).1.p n.p\/n.j.d=true/\∃ a,Fits n.p a/\(a.da=true\/a.cQ=true)/\nK a/\dJ (log n.kb n.side R).1.p (n.p.bR a).1)/\(log n.kb n.side R).1.aZ=n.aZ/\pA (log n.kb n.side R).1.p:=by
    rcases hR with rfl | ⟨rfl,hyp⟩
    · exact⟨h.log.ok,.inl ⟨rfl,h.log.p⟩,h.log.aZ,h.aW.same h.log.p.symm⟩
    · obtain⟨hd,l,r1,a,hf,hb,ha,r2,r3⟩:=jS hyp
      exact⟨r1,.inr ⟨hd,a,hf,hb,ha,r2⟩,r3,(h.aW.bR hf).same r2.symm⟩
  obtain⟨f1,f2,f3,f4⟩:=facts;refine⟨f2,f3,?_,?_⟩
  rotate_left
  · rw[<- ht,List.length_take]
    have e:(mM n.j.fs ag sp).b.length=(jn n.j.fs ag).toNat:=OR h.nL ag sp;have:=Ii h.nL ag;omega
  obtain⟨l1,l2,l3⟩:=O8 hk hs R;have Zp:(mM n.j.fs ag sp).Ok:=Y2 h.nL ag sp
  rcases O4 hk hs Zp rfl rfl hP ht It Zo f1 l1 f4 ⟨l2,l3⟩ with⟨m,m1,m2,m3,m4,m5,m6,m7,m8,m9,m10,m11,m12⟩ | t
  · exact .inl ⟨m,m1,m2,m3,m4,m5,by rw[m6,f3],m7,m8,m9,m10,m11,m12⟩
  · exact .inr t
def vM (f:ct):Prop:=∀ side aZ number:Int,(side=0\/side=1)->iC aZ=true->iC number=true->po (side,aZ,number,f.2.2.2)=0
theorem Dp {kind slot head:Int}{flag:Bool}{m:aT}(hk:1<=kind/\kind<=4)(hs:iC slot=true)(hf:flag=true->kind≠1/\kind≠3)(h1:kind=1->jm m=0)(h2:kind≠1->m=bb):vM (PeerM.fr kind slot head flag m):=by
 intro side aZ number a b c;show kH (side,aZ,number,kind,slot,head,flag,m.e) (bp m.t).2=0;have e1:nG (side,aZ,number,kind,slot,head,flag,m.e)=true:=by
  unfold nG;dsimp only;rw[b,c,hs];rcases a with rfl | rfl<;>rfl
 have e2:tO (side,aZ,number,kind,slot,head,flag,m.e)=true:=by
  unfold tO;dsimp only;rw[decide_eq_true hk.1,decide_eq_true hk.2];cases flag with
  | false=>rfl
  | true=>obtain⟨x,y⟩:=hf rfl;simp[x,y]
 unfold kH;rw[if_neg (by rw[e1];simp),if_neg (by rw[e2];simp)]
 by_cases k:kind=1
 ·rw[if_pos (by exact k)];exact h1 k
 ·have hz:sE bb.e=true:=by decide +kernel
  rw[if_neg (by exact k),if_neg];rw[h2 k];show ¬ sE bb.e=false;rw[hz];simp
theorem Dq {p:PeerM}(h:cX p):iC p.len=true:=by
 have:=h.num;unfold iC PeerM.len;rw[decide_eq_true (by omega),decide_eq_true (by omega)];rfl
theorem Dr {g:ct}(h:vM g):∀ f∈[g],vM f:=fun f hf=>by
 have:f=g:=by simpa using hf
 rw[this];exact h
theorem O9 {p:PeerM}(h:cX p)(m:aT):∀ f∈(p.kJ m).bO,vM f:=by
 unfold PeerM.kJ;split
 ·exact fun f hf=>nomatch hf
 ·rename_i t
  exact Dr (Dp (by decide) (Dq h) (fun t=>by cases t) (fun _=>AF (Classical.not_not.1 t)) (fun t=>absurd rfl t))
theorem Pa {p:PeerM}(h:cX p)(hp:pA p):∀ f∈p.tick.bO,vM f:=by
 unfold PeerM.tick;split
 ·exact Dr (Dp (by decide) (Dq h) (fun _=>by decide) (fun t=>by cases t) (fun _=>rfl))
 split
 ·exact fun f hf=>nomatch hf
 split
 ·rename_i t
  exact Dr (Dp (by decide) (Dq h) (fun t=>by cases t) (fun _=>AF (hp t).2.1) (fun t=>absurd rfl t))
 split
 ·exact O9 h _
 split
 ·exact O9 h _
 split
 ·exact Dr (Dp (by decide) (Dq h) (fun t=>by cases t) (fun t=>by cases t) (fun _=>rfl))
 ·exact fun f hf=>nomatch hf
theorem Zq {kb:List UInt8}{m:ct}(h:po m=0):(kI kb m).2=0:=by
 have h:kH m.f (bp m.m.t).2=0:=h;have hb:(kg m.f (bp m.m.t).1 (bp m.m.t).2).2=0:=by
  unfold kg;rw[if_neg (fun t=>t h)];split<;>rfl
 unfold kI vz;rw[if_neg (fun t=>t hb)]
theorem Zr {kb:List UInt8}{m:ct}(h:po m=0)(hh:0<=m.2.2.2.2.2.1/\m.2.2.2.2.2.1<18446744073709551616):eZ kb (kI kb m).1=(m,0):=by
 have h:kH m.f (bp m.m.t).2=0:=h;have hb:(kg m.f (bp m.m.t).1 (bp m.m.t).2).2=0:=by
  unfold kg;rw[if_neg (fun t=>t h)];split<;>rfl
 have e:(kI kb m).1=(ll m).1++gL (nC kb (ll m).1):=by
  unfold kI vz;rw[if_neg (fun t=>t hb)];rfl
 rw[e];exact WI hh (show ll m=((ll m).1,0) from Prod.ext rfl hb)
theorem Zs {kb:List UInt8}{m:ct}(h:po m=0):(kI kb m).1.length<=5000:=by
 have h:kH m.f (bp m.m.t).2=0:=h;have hx:(kg m.f (bp m.m.t).1 (bp m.m.t).2).2=0:=by
  unfold kg;rw[if_neg (fun t=>t h)];split<;>rfl
 unfold kI vz;rw[if_neg (fun t=>t hx),List.length_append,qi];unfold kg;rw[if_neg (fun t=>t h)];split
 ·show(ri _).length+8<=5000
  rw[Ai];decide
 ·rename_i q7
  have Zt:jm m.m=0:=(CS h).2.2.2.2.2.1 (Classical.not_not.1 q7);have:=Dk Zt;show(ri _++(dw m.m).1).length+8<=5000;rw[List.length_append,Ai];omega
theorem Iu {n:NodeM}{a:bX}(hf:Fits n.p a):(a.da=false/\a.cQ=false/\n.ag a=(n,0)) \/
  ((a.da=true\/a.cQ=true)/\(NodeM.eF a).2=0/\(NodeM.eF a).1.length<=1217/\n.ag a=({ n with j:=(n.j.put (NodeM.eF a).1).1 },(n.j.put (NodeM.eF a).1).2)):=by
 by_cases hn:a.da=false/\a.cQ=false
 ·exact .inl ⟨hn.1,hn.2,by unfold NodeM.ag;rw[if_pos hn]⟩
 have hb:a.da=true\/a.cQ=true:=by
  cases hE:a.da
  ·cases hP:a.cQ
   ·exact absurd ⟨hE,hP⟩ hn
   ·exact .inr rfl
  ·exact .inl rfl
 have both:(NodeM.eF a).2=0/\(NodeM.eF a).1.length<=1217:=by
  unfold NodeM.eF
  by_cases hE:a.da=true
  ·rw[if_pos hE]
   have h0:=hf.bm hE;have hk:jm a.bm.1=0:=by
    rw[<- Dj];unfold PeerM.entry at h0;split at h0
    ·cases h0
    split at h0
    ·rename_i q;exact absurd h0 q
    rename_i q;have q:=Classical.not_not.1 q;unfold fX at q;split at q
    ·exact q
    ·rename_i r;exact Classical.not_not.1 r
   refine⟨by rw[show((2:UInt8)::(gD a.bm).1,(gD a.bm).2).2=(gD a.bm).2 from rfl,Dj];exact hk,?_⟩;have:=OT hk;simp only[List.length_cons];omega
  ·rw[if_neg hE]
   have hk:jm a.bN=0:=AF (hf.own (hb.resolve_left hE)).2.1;refine⟨by rw[show((3:UInt8)::(dw a.bN).1,(dw a.bN).2).2=(dw a.bN).2 from rfl,xV];exact hk,?_⟩;have:=Dk hk;simp only[List.length_cons];omega
 exact .inr ⟨hb,both.1,both.2,by unfold NodeM.ag;rw[if_neg hn,if_neg (fun t=>t both.1)]⟩
theorem Ds {n:NodeM}(a:bX):(n.ag a).1.p=n.p/\(n.ag a).1.kb=n.kb/\(n.ag a).1.side=n.side/\(n.ag a).1.aZ=n.aZ/\(n.ag a).1.number=n.number/\(n.ag a).1.w=n.w:=by
 unfold NodeM.ag;split
 ·exact⟨rfl,rfl,rfl,rfl,rfl,rfl⟩
 split<;>exact⟨rfl,rfl,rfl,rfl,rfl,rfl⟩
theorem Pb {n:NodeM}{a:bX}(h:Live n)(hf:Fits n.p a)(ha:nK a)(hk:(n.ag a).2=0)(hs:∀ f∈a.bO,vM f)(he:iC n.aZ=true)(hn:iC n.number=true):
  n.act a=({ (n.ag a).1 with p:=(n.p.bR a).1,number:=n.number+(a.bO.length:Int) },a.bO.map (fun f=>(kI n.kb (n.side,n.aZ,n.number,f.2.2.2)).1),0):=by
 obtain⟨k1,k2,k3,k4,k5,k6⟩:=Ds (n:=n) a;have AG:n.side=0\/n.side=1:=by rw[<- h.side];exact h.ok.side
 unfold NodeM.act;rw[if_neg (fun t=>t hk),k1,if_neg (fun t=>t hf.bR)];have hl:=ha.num
 match sK:a.bO with
 | []=>simp[NodeM.jZ]
 | [f]=>
  have hc:=Zq (kb:=n.kb) (hs f (by rw[sK];simp) n.side n.aZ n.number AG he hn);simp[NodeM.jZ,hc]
 | f::g::l=>rw[sK] at hl;simp at hl
theorem Zu (s:bI)(x:List UInt8):((eU s x).1.b=s.b\/(eU s x).1.b=s.b++x)/\(eU s x).1.cr=s.cr:=by
 obtain⟨e1,e2,e3⟩:=pw s;unfold eU;split
 ·exact⟨.inl rfl,rfl⟩
 split
 ·exact⟨.inl rfl,rfl⟩
 split
 ·exact⟨.inr rfl,e2⟩
 ·exact⟨.inl e1,e2⟩
theorem Zv (s:bI):(iq s).1.b=s.b/\(iq s).1.cr=s.cr:=by
 obtain⟨e1,e2,e3⟩:=pw s;unfold iq;split
 ·exact⟨rfl,rfl⟩
 split
 ·exact⟨e1,e2⟩
 ·exact⟨e1,e2⟩
theorem Zw (j:jY)(x:List UInt8):(j.put x).1.fs.b.length<=j.fs.b.length+(x.length+3)/\(j.put x).1.fs.cr=j.fs.cr:=by
 obtain⟨a1,a2⟩:=Zu j.fs (bP x);obtain⟨b1,b2⟩:=Zv (eU j.fs (bP x)).1;have ha:(eU j.fs (bP x)).1.b.length<=j.fs.b.length+(x.length+3):=by
  rcases a1 with t | t
  ·rw[t];omega
  ·rw[t,List.length_append,oE];omega
 unfold jY.put iU;dsimp only;split
 ·exact⟨by dsimp only;omega,rfl⟩
 split
 ·exact⟨by dsimp only;omega,rfl⟩
 split
 ·exact⟨ha,a2⟩
 split
 ·exact⟨by dsimp only;rw[b1];exact ha,by dsimp only;rw[b2,a2]⟩
 ·exact⟨by dsimp only;rw[b1];exact ha,by dsimp only;rw[b2,a2]⟩
theorem Pc {n:NodeM}{a:bX}(hf:Fits n.p a):(n.ag a).1.j.fs.b.length<=n.j.fs.b.length+1220/\(n.ag a).1.j.fs.cr=n.j.fs.cr/\(a.da=false->a.cQ=false->(n.ag a).1=n)/\(n.ag a).1.j.fs.b.length<=n.j.fs.b.length+((NodeM.eF a).1.length+3):=by
 rcases Iu hf with⟨_,_,e⟩ | ⟨hb,_,hl,e⟩
 ·rw[e];exact⟨by dsimp only;omega,rfl,fun _ _=>rfl,by dsimp only;omega⟩
 ·rw[e]
  have:=Zw n.j (NodeM.eF a).1;exact⟨by have:=this.1;dsimp only;omega,this.2,fun h1 h2=>by rw[h1,h2] at hb;simp at hb,this.1⟩
theorem Zx {j:jY}{x:List UInt8}(hd:j.d=false)(hf:j.fs.dead=false)(hl:j.fs.lit=false)(hx:x.length<=4000)(hr:(x.length:Int)+3<=j.fs.cr - j.fs.b.length):
  (j.put x).2=0/\(j.put x).1.d=false/\(j.put x).1.rs=j.rs++[x]/\(j.put x).1.fs.b=j.fs.b++bP x/\(j.put x).1.fs.cr=j.fs.cr/\(j.put x).1.fs.lit=false/\(j.put x).1.fs.dead=false:=by
 obtain⟨a,b,c,d,e,f,g,i⟩:=Yc hl hf hx hr;unfold jY.put;rw[hd];exact⟨a,c,by rw[b];rfl,d,e,g,i⟩
theorem Zy {j:jY}{x:List UInt8}(hd:j.d=false)(hf:j.fs.dead=false)(hl:j.fs.lit=true)(hu:j.fs.iT=0\/j.fs.iT=1)(hx:x.length<=4000)(hr:(x.length:Int)+3<=j.fs.cr - j.fs.b.length):(j.put x).2=11:=by
 have hA:¬ ((bP x).length:Int) > j.fs.cr - j.fs.b.length:=by rw[oE];omega
 unfold jY.put iU;dsimp only;rw[if_neg (by rw[hd,hf];simp),if_neg (by omega)]
 rcases hu with hu | hu
 ·have e:eU j.fs (bP x)=((cW j.fs).1,11):=by
   unfold eU;rw[if_neg (by rw[hf];simp),if_neg hA,if_neg];unfold cW;simp[hl,hu]
  rw[e,if_pos (by simp)]
 ·have es:cW j.fs=({ j.fs with iT:=0 },true):=by
   unfold cW;simp[hl,hu];rfl
  have e:eU j.fs (bP x)=({ ({ j.fs with iT:=0 }:bI) with b:=j.fs.b++bP x },0):=by
   unfold eU;rw[if_neg (by rw[hf];simp),if_neg hA,es];rfl
  rw[e,if_neg (fun t=>t rfl)];have e2:iq ({ ({ j.fs with iT:=0 }:bI) with b:=j.fs.b++bP x })=((cW ({ ({ j.fs with iT:=0 }:bI) with b:=j.fs.b++bP x })).1,11):=by
   unfold iq;rw[if_neg (by dsimp only;rw[hf];simp),if_neg];unfold cW;simp[hl]
  rw[e2,if_pos (by simp)]
theorem Zz {n:NodeM}(h:Live n)(hd:n.j.d=false)(hl:n.j.fs.lit=false){a:bX}(hf:Fits n.p a){L:Nat}(hL:L=1217\/(NodeM.eF a).1.length<=L)(hr:(n.j.fs.b.length:Int)+L+3<=n.j.fs.cr):(n.ag a).2=0/\(n.ag a).1.j.fs.lit=false/\(n.ag a).1.j.d=false:=by
 rcases Iu hf with⟨_,_,e⟩ | ⟨_,_,hx,e⟩
 ·rw[e];exact⟨rfl,hl,hd⟩
 ·rw[e]
  obtain⟨p1,p2,p3,p4,p5,p6,p7⟩:=Zx hd (h.live hd).1 hl (x:=(NodeM.eF a).1) (by omega) (by omega);exact⟨p1,p6,p2⟩
theorem Live.iT {n:NodeM}(h:Live n)(k:Int):Live { n with j:={ n.j with fs:=HK n.j.fs k } }:=
 ⟨h.ok,h.side,h.kb,h.aW,⟨h.log.ok,h.log.p,h.log.aZ,h.log.rows⟩,⟨h.nL.len,h.nL.q0,h.nL.q1,h.nL.s0,h.nL.s1⟩,fun t=>h.live t,fun t=>h.dead t⟩
theorem Pd:∀ l:List (List UInt8),3 * l.length<=(dm l).length
 | []=>Nat.zero_le _
 | x::l=>by
  have:=Pd l;show 3 * (l.length+1)<=(bP x++dm l).length;rw[List.length_append,oE];omega
theorem Live.Dt {n:NodeM}(h:Live n):n.j.rs.length<=1000000:=by
 obtain⟨y,hy⟩:∃ y,Holds n.j.fs n.j.rs y:=by
  cases hd:n.j.d with
  | false=>exact⟨[],(h.live hd).2⟩
  | true=>obtain⟨y,a,_⟩:=h.dead hd;exact⟨y,a⟩
 have h1:=h.nL.len;rw[hy.1,List.length_append] at h1;have:=Pd n.j.rs;omega
theorem dJ.eq {p q:PeerM}(h:dJ p q)(h1:p.off=q.off)(h2:p.wanted=q.wanted)(h3:p.bG=q.bG)(h4:p.refused=q.refused):p=q:=by
 obtain⟨a1,a2,a3,a4,a5,a6⟩:=h;cases p;cases q;simp only at *;subst a1 a2 a3 a4 a5 a6 h1 h2 h3 h4;rfl
theorem ZA {n:NodeM}(h:Live n)(hd:n.j.d=false):n.j.fs.b=dm n.j.rs:=by
 have:=(h.live hd).2.1;rwa[List.append_nil] at this
theorem ZB (R:List (List UInt8)):(dm (R++[[1]])).length=(dm R).length+4:=by
 rw[Az,List.length_append,oE];rfl
theorem ZC {kb:List UInt8}(hk:kb.length=16){side:Int}(hs:side=0\/side=1){q:Int}(h4:4<=(rj q).cr):
  ∃ m,NodeM.open_ kb side (rj q)=(m.j.fs,some m,0)/\Live m/\m.kb=kb/\m.side=side/\m.p=mK kb side/\m.aZ=1/\m.number=0/\m.w=vH/\m.j.rs=[[1]]/\m.j.d=false/\m.j.fs.lit=false/\m.j.fs.cr=(rj q).cr/\m.j.fs.b.length=4:=by
 have hP:mN (rj q).b [] []:=.stop (by
  show jo []=none;unfold jo;rw[if_pos (by simp)])
 have e0:(log kb side [])=(NodeM.fresh kb side vK [],true):=rfl;obtain⟨o1,o2,o3⟩:=O8 hk hs []
 rcases O4 hk hs (NS q) rfl rfl hP rfl rfl (fun r hr=>nomatch hr) (by rw[e0]) o1 (by rw[e0];exact fun t=>by cases t) ⟨o2,o3⟩ with⟨m,m1,m2,m3,m4,m5,m6,m7,m8,m9,m10,m11,m12⟩ | ⟨s',_,h,hb,hq⟩
 ·refine⟨m,m1,m2,m3,m4,by rw[m5,e0];rfl,by rw[m6,e0];rfl,m7,m8,m9,m10,m11,m12,?_⟩
  rw[ZA m2 m10,m9,ZB];rfl
 ·rw[hq] at h
  have:s'.b.length=0:=by rw[hb];rfl
  omega
namespace Vc
variable {P:Program}
inductive Pv where
 | i (n:Int)
 | s (l:List UInt8)
 | b (x:Bool)
 deriving DecidableEq
def Pv.v:Pv->Value
 | .i n=>.int .i64 n
 | .s l=>.string (str l)
 | .b x=>.bool x
def oG (P:Program)(t:TypeId):Pv->Prop
 | .i _=>P.underlying t=some (.int .i64)
 | .s _=>P.underlying t=some .string
 | .b _=>P.underlying t=some .bool
def AH (P:Program):Nat->List Field->List Pv->Prop
 | _,[],[]=>True
 | n, f :: fs, p :: ps => f.name ≠ "_" /\ f.offset = n /\ oG P f.type p /\ AH P (n + 1) fs ps
 | _,_,_=>False
theorem Iv {t:TypeId}{p:Pv}(ht:oG P t p){cs:Array Value}{n:Nat}(hc:cs[n]? = some p.v)(w:World):(part t cs n).run P w=.ok p.v w:=by
 cases p<;>simp only[oG] at ht<;>simp[part,isAgg,run_underlying ht,hc]
theorem ZD {t:TypeId}{p q:Pv}(hp:oG P t p)(hq:oG P t q)(d:Nat)(w:World):(Op.equalIn (d+1) t p.v q.v).run P w=.ok (decide (p=q)) w:=by
 cases p with
 | i n=>cases q with
  | i m=>
   refine(run_equalIn_int w d t .i64 .i64 n m hp).trans ?_
   congr 1
   by_cases h:n=m
   ·subst h;simp
   ·simp[h]
  | s m=>simp only[oG] at hp hq;rw[hp] at hq;cases hq
  | b m=>simp only[oG] at hp hq;rw[hp] at hq;cases hq
 | s l=>cases q with
  | i m=>simp only[oG] at hp hq;rw[hp] at hq;cases hq
  | s m=>
   refine(run_equalIn_string w d t _ _ hp).trans ?_;rw[jc]
   congr 1
   exact decide_eq_decide.2 ⟨fun h=>by rw[h],fun h=>by injection h⟩
  | b m=>simp only[oG] at hp hq;rw[hp] at hq;cases hq
 | b x=>cases q with
  | i m=>simp only[oG] at hp hq;rw[hp] at hq;cases hq
  | s m=>simp only[oG] at hp hq;rw[hp] at hq;cases hq
  | b y=>
   refine(run_equalIn_bool' w d t x y hp).trans ?_
   congr 1
   cases x<;>cases y<;>rfl
theorem Pe (d:Nat)(w:World):∀ (fs:List Field) (ps qs pre AI:List Pv) (n:Nat),pre.length=n->AI.length=n->AH P n fs ps->AH P n fs qs ->
  (Op.eqFields (d+1) ((pre++ps).map Pv.v).toArray ((AI++qs).map Pv.v).toArray fs).run P w=.ok (decide (ps=qs)) w
 | [],[],[],_,_,_,_,_,_,_=>by simp[Op.eqFields]
 | [],[],_::_,_,_,_,_,_,_,h=>h.elim
 | [],_::_,_,_,_,_,_,_,h,_=>h.elim
 | _::_,[],_,_,_,_,_,_,h,_=>h.elim
 | _::_,_::_,[],_,_,_,_,_,_,h=>h.elim
 | f::fs,p::ps,q::qs,pre,AI,n,h1,h2,⟨hn,ho,hp,ZE⟩,⟨_,_,hq,ZF⟩=>by
  have c1:(((pre++p::ps).map Pv.v).toArray)[f.offset]? = some p.v:=by rw[ho];simp[<- h1]
  have c2:(((AI++q::qs).map Pv.v).toArray)[f.offset]? = some q.v:=by rw[ho];simp[<- h2]
  simp only[Op.eqFields,ne_eq,hn,not_false_eq_true,if_true,Sem.run_bind,Iv hp c1,Iv hq c2,Result.andThen_ok,ZD hp hq]
  by_cases h:p=q
  ·subst h
   have ih:=Pe d w fs ps qs (pre++[p]) (AI++[p]) (n+1) (by simp[h1]) (by simp[h2]) ZE ZF;rw[List.append_assoc,List.append_assoc,List.singleton_append,List.singleton_append] at ih;simp only[decide_true,if_true];exact ih.trans (by simp)
  ·simp[h]
structure vN (P:Program)(t:TypeId)(ps:List Pv):Prop where
 und:P.underlying t=some (.struct (P.fieldsOf t))
 held:P.stoodInHeld t=false
 guard:P.eqGuardType P.depth t=false
 fits:AH P 0 (P.fieldsOf t).toList ps
theorem Pf {t:TypeId}{ps qs:List Pv}(h:vN P t ps)(h':vN P t qs)(d:Nat)(w:World):(Op.equalIn (d+2) t (.agg (ps.map Pv.v).toArray) (.agg (qs.map Pv.v).toArray)).run P w=.ok (decide (ps=qs)) w:=by
 rw[run_equalIn_agg w _ _ _ _ h.und h.held];exact Pe d w _ ps qs [] [] 0 rfl rfl h.fits h'.fits
theorem ZG {t:TypeId}{ps qs:List Pv}(h:vN P t ps)(h':vN P t qs)(o1 o2:Operand)(w:World):
  (do eqGuard .eql t o1 o2 (.agg (ps.map Pv.v).toArray) (.agg (qs.map Pv.v).toArray);binOp .eql t (.agg (ps.map Pv.v).toArray) (.agg (qs.map Pv.v).toArray):Sem Value).run P w=.ok (.bool (decide (ps=qs))) w:=by
 rw[Sem.run_bind,run_eqGuard_agg w _ _ _ _ _ _ h.guard,Result.andThen_ok,run_eql_struct,Pf h h' 9998];rfl
structure ua (P:Program)(kt:TypeId){κ:Type}(enc:κ->List Pv):Prop where
 ty:∀ a,vN P kt (enc a)
 inj:∀ a b,enc a=enc b->a=b
def eV (ps:List Pv):Value:=.agg (ps.map Pv.v).toArray
def gm {κ ν:Type}(enc:κ->List Pv)(ev:ν->Value)(w:World)(g:Nat)(l:List (κ×ν)):Prop:=
 ∃ es clock,w.heap[g]? = some (.map es clock)/\es.toList.map (fun e=>(e.key,e.val))=l.map (fun x=>(eV (enc x.1),ev x.2))/\(∀ x∈es.toList,x.born<clock)/\(es.toList.map (·.born)).Nodup
theorem gm.ag {κ ν:Type}{enc:κ->List Pv}{ev:ν->Value}{w w':World}{g:Nat}{l:List (κ×ν)}(h:gm enc ev w g l){S:Nat->Prop}(f:Fr S w w')(hn:¬ S g):gm enc ev w' g l:=by
 obtain⟨es,c,hb,r⟩:=h;exact⟨es,c,f.ag hb hn,r⟩
theorem gm.af {κ ν:Type}{enc:κ->List Pv}{ev:ν->Value}{w w':World}{g:Nat}{l:List (κ×ν)}(h:gm enc ev w g l)(f:Fr none1 w w'):gm enc ev w' g l:=h.ag f fun t=>t
theorem gm.new {κ ν:Type}{enc:κ->List Pv}{ev:ν->Value}{w:World}{g c:Nat}(h:w.heap[g]? = some (.map #[] c)):gm enc ev w g ([]:List (κ×ν)):=⟨_,_,h,rfl,by simp,by simp⟩
theorem gm.len {κ ν:Type}{enc:κ->List Pv}{ev:ν->Value}{w:World}{g:Nat}{l:List (κ×ν)}(h:gm enc ev w g l):∃ es c,w.heap[g]? = some (.map es c)/\es.size=l.length:=by
 obtain⟨es,c,hb,he,_⟩:=h;refine⟨es,c,hb,?_⟩;have:=congrArg List.length he;simpa using this
theorem yw.ZH {κ ν:Type}{enc:κ->List Pv}{ev:ν->Value}{w:World}{g:Nat}{l:List (κ×ν)}(h:gm enc ev w g l){K:Int->Prop}(k:K (l.length:Nat)):yw (some g) w K:=by
 obtain⟨es,c,hb,hs⟩:=h.len;exact⟨.inr ⟨g,es,c,rfl,hb,by rw[hs];exact k⟩⟩
theorem Pg {α:Type}(w:World)(F:α->PUnit->Sem (ForInStep PUnit)):∀ (l:List α),(∀ a∈l,(F a PUnit.unit).run P w=.ok (ForInStep.yield PUnit.unit) w)->(forIn l PUnit.unit F).run P w=.ok PUnit.unit w
 | [],_=>by simp
 | a::l,h=>by
  rw[List.forIn_cons,Sem.run_bind,h a (by simp),Result.andThen_ok];exact Pg w F l fun b hb=>h b (by simp[hb])
theorem Ph : ∀ (fs : List Field) (ps pre : List Pv) (n : Nat), pre.length = n -> AH P n fs ps -> ∀ f ∈ fs, ∃ q, f.name ≠ "_" /\ oG P f.type q /\ (((pre ++ ps).map Pv.v).toArray)[f.offset]? = some q.v
 | [],_,_,_,_,_,f,hf=>by cases hf
 | _::_,[],_,_,_,h,_,_=>h.elim
 | g::fs,p::ps,pre,n,hn,⟨h1,h2,h3,h4⟩,f,hf=>by
  rcases List.mem_cons.1 hf with rfl | hf
  ·exact⟨p,h1,h3,by rw[h2];simp[<- hn]⟩
  ·have:=Ph fs ps (pre++[p]) (n+1) (by simp[hn]) h4 f hf
   rw[List.append_assoc,List.singleton_append] at this;exact this
theorem Iw {t:TypeId}{ps:List Pv}(h:vN P t ps)(e:Bool)(w:World):(Instr.checkKey e 10000 t (eV ps)).run P w=.ok () w:=by
 show(Instr.checkKey e (9998+2) t (eV ps)).run P w=.ok () w;unfold Instr.checkKey eV;simp only[Sem.run_bind,run_underlying h.und,Result.andThen_ok];rw[<- Array.forIn_toList,Pg]
 ·rfl
 ·intro f hf
  obtain⟨q,h1,h3,hc⟩:=Ph (P.fieldsOf t).toList ps [] 0 rfl h.fits f hf;rw[List.nil_append] at hc;have hk:(Instr.checkKey e (9998+1) f.type q.v).run P w=.ok () w:=by
   unfold Instr.checkKey;cases q<;>simp only[oG] at h3<;>simp only[Pv.v,Sem.run_bind,run_underlying h3,Result.andThen_ok]<;>rfl
  simp only[ne_eq,h1,not_false_eq_true,if_true,Sem.run_bind,Iv h3 hc,Result.andThen_ok,hk,Sem.run_pure]
theorem Pj {κ ν:Type}[DecidableEq κ]{kt:TypeId}{enc:κ->List Pv}{ev:ν->Value}(he:ua P kt enc)(k:κ)(w:World):∀ (es:List MapEntry) (l:List (κ×ν)) (i:Nat),es.map (fun e=>(e.key,e.val))=l.map (fun x=>(eV (enc x.1),ev x.2)) ->
  (∃ j v,(Instr.findAsking kt (eV (enc k)) es i).run P w=.ok (some (i+j,ev v)) w/\bq k l=some v/\l[j]? = some (k,v)/\∀ v',jT k v' l=l.set j (k,v')) \/
  ((Instr.findAsking kt (eV (enc k)) es i).run P w=.ok none w/\bq k l=none)
 | [],[],_,_=>.inr ⟨rfl,rfl⟩
 | [],_::_,_,h=>by simp at h
 | _::_,[],_,h=>by simp at h
 | e::es,(a,u)::l,i,h=>by
  simp only[List.map_cons,List.cons.injEq,Prod.mk.injEq] at h;obtain⟨⟨h1,h2⟩,h3⟩:=h;have hq:(Op.equal kt (eV (enc k)) e.key).run P w=.ok (decide (enc k=enc a)) w:=by rw[h1];exact Pf (he.ty k) (he.ty a) 9998 w
  unfold Instr.findAsking;simp only[Sem.run_bind,hq,Result.andThen_ok]
  by_cases hk:a=k
  ·subst hk
   refine .inl ⟨0,u,?_,by simp[bq],rfl,fun v'=>by simp[jT]⟩;simp[h2]
  ·have ay:¬ enc k=enc a:=fun t=>hk (he.inj _ _ t).symm
   simp only[ay,decide_false,Bool.false_eq_true,if_false]
   rcases Pj he k w es l (i+1) h3 with⟨j,v,g1,g2,g3,g4⟩ | ⟨g1,g2⟩
   ·refine .inl ⟨j+1,v,?_,by simp[bq,hk,g2],by simpa using g3,fun v'=>by simp[jT,hk,g4]⟩
    rw[g1];congr 3;omega
   ·exact .inr ⟨g1,by simp[bq,hk,g2]⟩
theorem Ix {κ ν:Type}[DecidableEq κ]{kt:TypeId}{enc:κ->List Pv}{ev:ν->Value}(he:ua P kt enc)(k:κ)(w:World)(es:List MapEntry)(l:List (κ×ν))(h:es.map (fun e=>(e.key,e.val))=l.map (fun x=>(eV (enc x.1),ev x.2))):
  (∃ j v,(Instr.findKey kt (eV (enc k)) es).run P w=.ok (some (j,ev v)) w/\bq k l=some v/\l[j]? = some (k,v)/\∀ v',jT k v' l=l.set j (k,v')) \/
  ((Instr.findKey kt (eV (enc k)) es).run P w=.ok none w/\bq k l=none):=by
 unfold Instr.findKey;simp only[Sem.run_bind,run_underlying (he.ty k).und,Result.andThen_ok];cases es with
 | nil=>
  cases l with
  | nil=>exact .inr ⟨rfl,rfl⟩
  | cons _ _=>simp at h
 | cons e es=>
  have:Instr.findNow (.struct (P.fieldsOf kt)) (eV (enc k)) (e::es) 0=none:=by unfold Instr.findNow;rfl
  simp only[this];have:=Pj he k w (e::es) l 0 h;simpa only[Nat.zero_add] using this
theorem Iy {κ ν:Type}[DecidableEq κ]{t kt el:TypeId}{enc:κ->List Pv}{ev:ν->Value}{z:Value}(he:ua P kt enc)(ht:P.underlying t=some (.map kt el))(AJ:(P.info? el).bind (·.zero)=some z){w:World}{g:Nat}{l:List (κ×ν)}(h:gm enc ev w g l)(k:κ)(ok:Bool):
  (Instr.lookup t (.map (some g)) (eV (enc k)) ok).run P w=.ok (if ok then .tuple #[((bq k l).map ev).getD z,.bool (bq k l).isSome] else((bq k l).map ev).getD z) w:=by
 obtain⟨es,c,hb,hl,_⟩:=h;obtain⟨i,hi,hz⟩:∃ i,P.info? el=some i/\i.zero=some z:=by
  cases hx:P.info? el with
  | none=>simp[hx] at AJ
  | some i=>exact⟨i,rfl,by simpa[hx] using AJ⟩
 unfold Instr.lookup;simp only[Sem.run_bind,run_underlying ht,Result.andThen_ok,wN hb,Sem.run_pure,Iw (he.ty k)]
 rcases Ix he k w es.toList l hl with⟨j,v,h1,h2,_⟩ | ⟨h1,h2⟩
 ·rw[h1,h2]
  simp only[Result.andThen_ok];cases ok<;>rfl
 ·rw[h1,h2]
  simp only[Result.andThen_ok,Sem.run_bind,qG hi hz,Sem.run_pure];cases ok<;>rfl
theorem Pk (ps:List Pv):Instr.sameBits 10000 (eV ps) (eV ps)=true:=by
 show Instr.sameBits (9999+1) (eV ps) (eV ps)=true;unfold eV Instr.sameBits;simp only[BEq.rfl,Bool.true_and]
 induction ps with
 | nil=>rfl
 | cons p ps ih=>
  simp only[List.map_cons,List.zip_cons_cons,List.all_cons,Bool.and_eq_true];refine⟨?_,by simpa using ih⟩;cases p<;>simp[Pv.v,Instr.sameBits,beq_toListBytes]
theorem Pl {κ ν:Type}[DecidableEq κ]{t kt el:TypeId}{enc:κ->List Pv}{ev:ν->Value}(he:ua P kt enc)(ht:P.underlying t=some (.map kt el)){w:World}{g:Nat}{l:List (κ×ν)}(h:gm enc ev w g l)(k:κ)(v:ν):
  ∃ w',(Instr.mapUpdate t (.map (some g)) (eV (enc k)) (ev v)).run P w=.ok () w'/\Fr (only g) w w'/\w'.heap.size=w.heap.size/\gm enc ev w' g (jT k v l):=by
 obtain⟨es,c,hb,hl,aU,hnd⟩:=h;have hg:=bL hb;unfold Instr.mapUpdate;simp only[Sem.run_bind,run_underlying ht,Result.andThen_ok,wN hb,Iw (he.ty k)]
 rcases Ix he k w es.toList l hl with⟨j,u,h1,h2,h3,h4⟩ | ⟨h1,h2⟩
 ·rw[h1]
  obtain⟨e,hj,AK⟩:∃ e,es[j]? = some e/\e.key=eV (enc k):=by
   have hx:=congrArg (fun l=>l[j]?) hl;simp only[List.getElem?_map,h3,Option.map_some] at hx;cases he:es.toList[j]? with
   | none=>rw[he] at hx;simp at hx
   | some e=>rw[he] at hx;simp at hx;exact⟨e,by simpa using he,hx.1⟩
  have fG:(Instr.keyThatStays e.key (eV (enc k))).run P w=.ok (eV (enc k)) w:=by
   rw[AK];unfold Instr.keyThatStays;rw[if_pos (Pk _)];rfl
  simp only[Result.andThen_ok,Sem.run_bind,hj,Option.map_some,Option.getD_some,fG,wO hb];have AL:(es.modify j fun x=>{ key:=eV (enc k),val:=ev v,born:=x.born }).toList=es.toList.set j { key:=eV (enc k),val:=ev v,born:=e.born }:=by
   rw[Array.toList_modify];apply List.ext_getElem?;intro q;rw[List.getElem?_modify,List.getElem?_set]
   by_cases hq:j=q
   ·subst hq
    have oD:j<es.toList.length:=by simpa using(Array.getElem?_eq_some_iff.1 hj).1
    have jX:es.toList[j]? = some e:=by simpa using hj
    simp only[if_true,jX,oD];rfl
   ·simp[hq]
  have jX:es.toList[j]? = some e:=by simpa using hj
  refine⟨_,rfl,wP _ _ _,by simp,_,_,heap_set hg _,?_,?_,?_⟩
  ·rw[AL,List.map_set,hl,h4,List.map_set]
  ·rw[AL]
   intro x hx
   rcases List.mem_or_eq_of_mem_set hx with hx | rfl
   ·exact aU x hx
   ·exact aU e (List.mem_of_getElem? jX)
  ·rw[AL,List.map_set]
   have:(es.toList.map (·.born)).set j e.born=es.toList.map (·.born):=by
    apply List.ext_getElem?;intro q;rw[List.getElem?_set]
    by_cases hq:j=q
    ·subst hq
     have oD:j<es.toList.length:=(List.getElem?_eq_some_iff.1 jX).1;simp only[if_true,List.length_map,oD,List.getElem?_map,jX,Option.map_some]
    ·simp[hq]
   rw[this];exact hnd
 ·rw[h1]
  simp only[Result.andThen_ok,wO hb];refine⟨_,rfl,wP _ _ _,by simp,_,_,heap_set hg _,?_,?_,?_⟩
  ·rw[Array.toList_push,List.map_append,hl,Cv k v l h2,List.map_append];rfl
  ·intro x hx
   rw[Array.toList_push,List.mem_append,List.mem_singleton] at hx
   rcases hx with hx | rfl
   ·exact Nat.lt_succ_of_lt (aU x hx)
   ·exact Nat.lt_succ_self _
  ·rw[Array.toList_push,List.map_append,List.nodup_append]
   refine⟨hnd,by simp,?_⟩;intro a ha b aI;simp at aI;subst aI;rw[List.mem_map] at ha;obtain⟨x,hx,rfl⟩:=ha;have:=aU x hx;omega
theorem Du {es:Array MapEntry}{j:Nat}{e:MapEntry}(hj:es[j]? = some e)(f:MapEntry->MapEntry):(es.modify j f).toList=es.toList.set j (f e):=by
 rw[Array.toList_modify];apply List.ext_getElem?;intro q;rw[List.getElem?_modify,List.getElem?_set]
 by_cases hq:j=q
 ·subst hq
  have oD:j<es.toList.length:=by simpa using(Array.getElem?_eq_some_iff.1 hj).1
  have jX:es.toList[j]? = some e:=by simpa using hj
  simp only[if_true,jX,oD];rfl
 ·simp[hq]
theorem ZI {es:Array MapEntry}(hnd:(es.toList.map (·.born)).Nodup){j:Nat}{e:MapEntry}(hj:es[j]? = some e):es.findIdx? (fun x=>(x.born:Int)==(e.born:Int))=some j:=by
 rw[Array.findIdx?_eq_some_iff_getElem];obtain⟨h1,h2⟩:=Array.getElem?_eq_some_iff.1 hj;refine⟨h1,by rw[h2];simp,fun i hi=>?_⟩;simp only[beq_iff_eq,Int.natCast_inj];intro hc;have Pm:=List.pairwise_iff_getElem.1 hnd i j (by simp;omega) (by simpa using h1) hi;simp only[List.getElem_map,Array.getElem_toList] at Pm;exact Pm (by rw[hc,h2])
theorem Pn {κ ν:Type}[DecidableEq κ]{t:TypeId}{enc:κ->List Pv}{ev:ν->Value}{w:World}{g:Nat}{l:List (κ×ν)}{es:Array MapEntry}{c j:Nat}{e:MapEntry}{k:κ}{u:ν}(hb:w.heap[g]? = some (.map es c))
  (hl:es.toList.map (fun e=>(e.key,e.val))=l.map (fun x=>(eV (enc x.1),ev x.2))) (aU:∀ x∈es.toList,x.born<c) (hnd:(es.toList.map (·.born)).Nodup) (hj:es[j]? = some e) (hk:l[j]? = some (k,u)) (v:ν) :
  ∃ w',(Instr.entryStore t (.map (some g)) (.int .i64 (e.born:Int)) (ev v)).run P w=.ok () w'/\Fr (only g) w w'/\w'.heap.size=w.heap.size/\gm enc ev w' g (l.set j (k,v)):=by
 have hg:=bL hb;have jX:es.toList[j]? = some e:=by simpa using hj
 have AK:e.key=eV (enc k):=by
  have hx:=congrArg (fun l=>l[j]?) hl;simp only[List.getElem?_map,hk,jX,Option.map_some,Option.some.injEq,Prod.mk.injEq] at hx;exact hx.1
 unfold Instr.entryStore;have ha:∀ w,(asInt (.int .i64 (e.born:Int))).run P w=.ok (e.born:Int) w:=fun w=>rfl;simp only[Sem.run_bind,Sem.run_pure,Result.andThen_ok,wN hb,ha,ZI hnd hj,wO hb];refine⟨_,rfl,wP _ _ _,by simp,_,_,heap_set hg _,?_,?_,?_⟩
 ·rw[Du hj,List.map_set,hl,List.map_set]
  congr 2
 ·rw[Du hj]
  intro x hx
  rcases List.mem_or_eq_of_mem_set hx with hx | rfl
  ·exact aU x hx
  ·exact aU e (List.mem_of_getElem? jX)
 ·rw[Du hj,List.map_set]
  have:(es.toList.map (·.born)).set j e.born=es.toList.map (·.born):=by
   apply List.ext_getElem?;intro q;rw[List.getElem?_set]
   by_cases hq:j=q
   ·subst hq
    have oD:j<es.toList.length:=(List.getElem?_eq_some_iff.1 jX).1;simp only[if_true,List.length_map,oD,List.getElem?_map,jX,Option.map_some]
   ·simp[hq]
  rw[this];exact hnd
theorem Po {κ ν:Type}[DecidableEq κ]{t kt el:TypeId}{enc:κ->List Pv}{ev:ν->Value}{z:ν}(he:ua P kt enc)(ht:P.underlying t=some (.map kt el))(AJ:(P.info? el).bind (·.zero)=some (ev z)){w:World}{g:Nat}{l:List (κ×ν)}(h:gm enc ev w g l)(k:κ):
  ∃ (w':World) (n:Int) (l2:List (κ×ν)),(Instr.mapEntry t (.map (some g)) (eV (enc k))).run P w=.ok (.tuple #[ev ((bq k l).getD z),.int .i64 n]) w'/\Fr (only g) w w'/\w'.heap.size=w.heap.size/\gm enc ev w' g l2/\(bq k l2).getD z=(bq k l).getD z /\
   ∀ v,∃ nW,(Instr.entryStore t (.map (some g)) (.int .i64 n) (ev v)).run P w'=.ok () nW/\Fr (only g) w' nW/\nW.heap.size=w'.heap.size/\gm enc ev nW g (jT k v l):=by
 obtain⟨i,hi,hz⟩:∃ i,P.info? el=some i/\i.zero=some (ev z):=by
  cases hx:P.info? el with
  | none=>simp[hx] at AJ
  | some i=>exact⟨i,rfl,by simpa[hx] using AJ⟩
 obtain⟨es,c,hb,hl,aU,hnd⟩:=h;have hg:=bL hb;unfold Instr.mapEntry;simp only[Sem.run_bind,run_underlying ht,Result.andThen_ok,wN hb,Iw (he.ty k)]
 rcases Ix he k w es.toList l hl with⟨j,u,h1,h2,h3,h4⟩ | ⟨h1,h2⟩
 ·rw[h1]
  obtain⟨e,hj,AK,xK⟩:∃ e,es[j]? = some e/\e.key=eV (enc k)/\e.val=ev u:=by
   have hx:=congrArg (fun l=>l[j]?) hl;simp only[List.getElem?_map,h3,Option.map_some] at hx;cases he:es.toList[j]? with
   | none=>rw[he] at hx;simp at hx
   | some e=>rw[he] at hx;simp at hx;exact⟨e,by simpa using he,hx.1,hx.2⟩
  have fG:(Instr.keyThatStays e.key (eV (enc k))).run P w=.ok (eV (enc k)) w:=by
   rw[AK];unfold Instr.keyThatStays;rw[if_pos (Pk _)];rfl
  simp only[Result.andThen_ok,Sem.run_bind,hj,Option.map_some,Option.getD_some,fG,wO hb,Sem.run_pure];have AL:=Du hj (fun x=>{ x with key:=eV (enc k) })
  have jX:es.toList[j]? = some e:=by simpa using hj
  have ZJ:es.toList.set j { e with key:=eV (enc k) }=es.toList:=by
   apply List.ext_getElem?;intro q;rw[List.getElem?_set]
   by_cases hq:j=q
   ·subst hq
    have oD:j<es.toList.length:=(List.getElem?_eq_some_iff.1 jX).1;rw[if_pos rfl,if_pos oD,jX,<- AK]
   ·simp[hq]
  have AM:es.modify j (fun x=>{ x with key:=eV (enc k) })=es:=Array.toList_inj.1 (by rw[AL];exact ZJ)
  have l0:bq k l=some u:=h2;have gv:∀ o:Obj,({ w with heap:=w.heap.setIfInBounds g o }:World).heap[g]? = some o:=fun o=>heap_set hg o
  refine⟨_,(e.born:Int),l,by rw[l0];rfl,wP _ _ _,by simp,⟨es,c,by rw[AM];exact gv _,hl,aU,hnd⟩,rfl,fun v=>?_⟩;rw[h4];exact Pn (by rw[AM];exact gv _) hl aU hnd hj h3 v
 ·rw[h1]
  simp only[Result.andThen_ok,Sem.run_bind,qG hi hz,wO hb,Sem.run_pure];have l0:bq k l=none:=h2;have gv:∀ o:Obj,({ w with heap:=w.heap.setIfInBounds g o }:World).heap[g]? = some o:=fun o=>heap_set hg o
  have vm:(es.push { key:=eV (enc k),val:=ev z,born:=c }).toList.map (fun e=>(e.key,e.val))=(l++[(k,z)]).map (fun x=>(eV (enc x.1),ev x.2)):=by
   rw[Array.toList_push,List.map_append,hl,List.map_append];rfl
  have vj:∀ x∈(es.push { key:=eV (enc k),val:=ev z,born:=c }).toList,x.born<c+1:=by
   intro x hx;rw[Array.toList_push,List.mem_append,List.mem_singleton] at hx
   rcases hx with hx | rfl
   ·exact Nat.lt_succ_of_lt (aU x hx)
   ·exact Nat.lt_succ_self _
  have Pp:((es.push { key:=eV (enc k),val:=ev z,born:=c }).toList.map (·.born)).Nodup:=by
   rw[Array.toList_push,List.map_append,List.nodup_append];refine⟨hnd,by simp,?_⟩;intro a ha b aI;simp at aI;subst aI;rw[List.mem_map] at ha;obtain⟨x,hx,rfl⟩:=ha;have:=aU x hx;omega
  have hlen:es.size=l.length:=by have:=congrArg List.length hl;simpa using this
  have ZK:(bq k (l++[(k,z)])).getD z=(bq k l).getD z:=by rw[MG,l0];simp[bq]
  have ZL:ev ((bq k l).getD z)=ev z:=by rw[l0];rfl
  refine⟨_,(c:Int),l++[(k,z)],by rw[ZL];rfl,wP _ _ _,by simp,⟨_,_,gv _,vm,vj,Pp⟩,ZK,fun v=>?_⟩;rw[Cv k v l l0,show l++[(k,v)]=(l++[(k,z)]).set l.length (k,v) by simp];exact Pn (u:=z) (e:={ key:=eV (enc k),val:=ev z,born:=c }) (gv _) vm vj Pp (by rw[<- hlen,Array.getElem?_push_size]) (by simp) v
end Vc
def C147  (w:World) (K:Value->World->Prop):Prop:=
 ak (.map #[] 0) w (fun g1 w2=>ak (.map #[] 0) w2 (fun g3 w4=>ak (.cells #[.map (some g1),.map (some g3)] 327) w4 (fun g5 w6=>K (.pointer (some (ad g5))) w6)))
def pl147:aB:=.auto
theorem c147  (w:World) (K:Value->World->Prop) (h:C147  w K):Ret Tryz.prog 147 #[] w K:=aC (by kernel_rfl) Tryz.func147 (p:=pl147) (Eq.mpr (by kernel_rfl) h)
def C259 (p0:Int)(w:World)(K:Value->World->Prop):Prop:=
 aa (decide (p0 >= 0))
 (K (.bool (decide (p0<=10000))) w)
 (K (.bool false) w)
def pl259:aB:=.auto
theorem c259 (p0:Int)(w:World)(K:Value->World->Prop)(h:C259 p0 w K):Ret Tryz.prog 259 #[.int .i64 p0] w K:=aC (by kernel_rfl) Tryz.func259 (p:=pl259) (Eq.mpr (by kernel_rfl) h)
def C234 (p0:Addr)(p1:ByteArray)(p2:Int)(p3:Int)(w:World)(K:Value->World->Prop):Prop:=
 ak (.cells #[.string (⟨#[]⟩:ByteArray),.int .i64 0] 324) w (fun g1 w2=>ar (ad g1) [.string p1,.int .i64 p2] w2 (fun w3=>aD w3 (fun w4=>aV (fun S5=>av S5 (p0.add 0) (ae .map (p0.add 0) w4 (fun(x6:Option Nat)=>av S5 (ad g1) (aq [.str,.int .i64] (ad g1) w4 (fun(x7:ByteArray×Int×Unit)=>aA Tryz.prog (Instr.lookup 321 (.map x6) (.agg #[.string x7.1,.int .i64 x7.2.1]) true) w4 (.aN [.one (.int .i64),.one .bool]) (fun(x8:Int×Bool×Unit) w9=>ai S5 w4 w9 (ab Tryz.prog 169 #[.string p1] w9 (.v (.one .bool)) (fun(aQ:Bool) aO=>aa (!aQ)
 (K (.int .i64 1) aO)
 (ab Tryz.prog 259 #[.int .i64 p2] aO (.v (.one .bool)) (fun(bx:Bool) aY=>aa (!bx)
 (K (.int .i64 1) aY)
 (ab Tryz.prog 131 #[.int .i64 p3] aY (.v (.one .bool)) (fun(bg:Bool) bM=>aa (!bg)
 (K (.int .i64 1) bM)
 (aa x8.2.1
 (K (.int .i64 4) bM)
 (ae .map (p0.add 0) bM (fun(aS:Option Nat)=>yw aS bM (fun ba=>aa (decide (ba >= 32))
 (K (.int .i64 5) bM)
 (aD bM (fun bt=>ae .map (p0.add 0) bt (fun(br:Option Nat)=>aq [.str,.int .i64] (ad g1) bt (fun(cG:ByteArray×Int×Unit)=>js Tryz.prog (Instr.mapUpdate 321 (.map br) (.agg #[.string cG.1,.int .i64 cG.2.1]) (.int .i64 p3)) bt (fun bw=>K (.int .i64 0) bw))))))))))))))))))))))))
def pl234:aB:=(.seq .auto (.seq .auto (.seq (.held (.soft 0 (.soft 1 (.soft 2 (.soft 3 (.soft 4 (.pick 5 (.soft 6 (.soft 7 (.soft 8 (.soft 9 (.soft 10 .done))))) .stop))))))) (.seq .auto (.seq (.tail 6) .auto)))))
theorem c234 (p0:Addr)(p1:ByteArray)(p2:Int)(p3:Int)(w:World)(K:Value->World->Prop)(h:C234 p0 p1 p2 p3 w K):Ret Tryz.prog 234 #[.pointer (some p0),.string p1,.int .i64 p2,.int .i64 p3] w K:=aC (by kernel_rfl) Tryz.func234 (p:=pl234) (Eq.mpr (by kernel_rfl) h)
def C342 (p0:Addr)(p1:ByteArray)(p2:Int)(w:World)(K:Value->World->Prop):Prop:=
 ae .map (p0.add 0) w (fun(x1:Option Nat)=>aA Tryz.prog (Instr.lookup 321 (.map x1) (.agg #[.string p1,.int .i64 p2]) true) w (.aN [.one (.int .i64),.one .bool]) (fun(x2:Int×Bool×Unit) w3=>K (.tuple #[.int .i64 x2.1,.bool x2.2.1]) w3))
def pl342:aB:=.auto
theorem c342 (p0:Addr)(p1:ByteArray)(p2:Int)(w:World)(K:Value->World->Prop)(h:C342 p0 p1 p2 w K):Ret Tryz.prog 342 #[.pointer (some p0),.string p1,.int .i64 p2] w K:=aC (by kernel_rfl) Tryz.func342 (p:=pl342) (Eq.mpr (by kernel_rfl) h)
def C240 (p0:Addr)(p1:ByteArray)(p2:ByteArray)(p3:Int)(p4:Int)(w:World)(K:Value->World->Prop):Prop:=
 ak (.cells #[.string (⟨#[]⟩:ByteArray),.string (⟨#[]⟩:ByteArray)] 330) w (fun g1 w2=>ar (ad g1) [.string p1,.string p2] w2 (fun w3=>aD w3 (fun w4=>aV (fun S5=>av S5 (p0.add 1) (ae .map (p0.add 1) w4 (fun(x6:Option Nat)=>av S5 (ad g1) (aq [.str,.str] (ad g1) w4 (fun(x7:ByteArray×ByteArray×Unit)=>kO (aA Tryz.prog (Instr.lookup 325 (.map x6) (.agg #[.string x7.1,.string x7.2.1]) true) w4 (.aN [.agg [.int .i64,.int .i64],.one .bool]) (fun(x8:(Int×Int×Unit)×Bool×Unit) w9=>ai S5 w4 w9 (ak (.cells #[.int .i64 0,.int .i64 0] 332) w9 (fun g10 aO=>ai S5 w9 aO (ar (ad g10) [.int .i64 x8.1.1,.int .i64 x8.1.2.1] aO (fun aL=>ai S5 aO aL (cy (Bool×Unit) (fun AN=>ab Tryz.prog 169 #[.string p1] aL (.v (.one .bool)) (fun(aS:Bool) cj=>aa (!aS)
 (AN (true,()) cj)
 (ab Tryz.prog 169 #[.string p2] cj (.v (.one .bool)) (fun(bB:Bool) bu=>aa (!bB)
 (AN (true,()) bu)
 (aa (p3 != 0)
 (aa (p3 != 1)
 (AN (true,()) bu)
 (ab Tryz.prog 259 #[.int .i64 p4] bu (.v (.one .bool)) (fun(cG:Bool) bw=>AN ((!cG),()) bw)))
 (ab Tryz.prog 259 #[.int .i64 p4] bu (.v (.one .bool)) (fun(bU:Bool) cL=>AN ((!bU),()) cL)))))))
 (fun _ ZM bM=>aa ZM.1
 (K (.int .i64 1) bM)
 (aa x8.2.1
 (K (.int .i64 4) bM)
 (aD bM (fun cg=>ae .map (p0.add 1) cg (fun(bD:Option Nat)=>aq [.str,.str] (ad g1) cg (fun(dc:ByteArray×ByteArray×Unit)=>js Tryz.prog (Instr.mapUpdate 325 (.map bD) (.agg #[.string dc.1,.string dc.2.1]) (.agg #[.int .i64 p3,.int .i64 p4])) cg (fun eN=>K (.int .i64 0) eN))))))))))))))
 (ak (.cells #[.int .i64 0,.int .i64 0] 332) w4 (fun HB eD=>ai S5 w4 eD (aA Tryz.prog (Instr.lookup 325 (.map x6) (.agg #[.string x7.1,.string x7.2.1]) true) eD (.aN [.agg [.int .i64,.int .i64],.one .bool]) (fun(eB:(Int×Int×Unit)×Bool×Unit) fo=>ai S5 eD fo (ar (ad HB) [.int .i64 eB.1.1,.int .i64 eB.1.2.1] fo (fun cU=>ai S5 fo cU (cy (Bool×Unit) (fun ub=>ab Tryz.prog 169 #[.string p1] cU (.v (.one .bool)) (fun(eg:Bool) dz=>aa (!eg)
 (ub (true,()) dz)
 (ab Tryz.prog 169 #[.string p2] dz (.v (.one .bool)) (fun(dF:Bool) dO=>aa (!dF)
 (ub (true,()) dO)
 (aa (p3 != 0)
 (aa (p3 != 1)
 (ub (true,()) dO)
 (ab Tryz.prog 259 #[.int .i64 p4] dO (.v (.one .bool)) (fun(iK:Bool) kA=>ub ((!iK),()) kA)))
 (ab Tryz.prog 259 #[.int .i64 p4] dO (.v (.one .bool)) (fun(iA:Bool) jQ=>ub ((!iA),()) jQ)))))))
 (fun _ Dc dL=>aa Dc.1
 (K (.int .i64 1) dL)
 (aa eB.2.1
 (K (.int .i64 4) dL)
 (aD dL (fun gd=>ae .map (p0.add 1) gd (fun(gX:Option Nat)=>aq [.str,.str] (ad g1) gd (fun(kx:ByteArray×ByteArray×Unit)=>js Tryz.prog (Instr.mapUpdate 325 (.map gX) (.agg #[.string kx.1,.string kx.2.1]) (.agg #[.int .i64 p3,.int .i64 p4])) gd (fun gI=>K (.int .i64 0) gI))))))))))))))))))))))
def pl240:aB:=(.seq .auto (.seq .auto (.seq (.held (.soft 0 (.soft 1 (.soft 2 (.soft 3 (.soft 4 (.pick 5 (.soft 6 (.soft 7 (.soft 8 (.pick 9 (.pick 10 (.soft 11 .done) .stop) .stop)))) (.pick 9 (.pick 5 (.soft 6 (.soft 7 (.soft 8 (.pick 10 (.soft 11 .done) .stop)))) .stop) .stop)))))))) (.seq (.block (.join [(26,.one .bool)] .auto .auto)) (.seq (.tail 8) .auto)))))
theorem c240 (p0:Addr)(p1:ByteArray)(p2:ByteArray)(p3:Int)(p4:Int)(w:World)(K:Value->World->Prop)(h:C240 p0 p1 p2 p3 p4 w K):Ret Tryz.prog 240 #[.pointer (some p0),.string p1,.string p2,.int .i64 p3,.int .i64 p4] w K:=aC (by kernel_rfl) Tryz.func240 (p:=pl240) (Eq.mpr (by kernel_rfl) h)
def C308 (p0:Addr)(p1:ByteArray)(p2:ByteArray)(w:World)(K:Value->World->Prop):Prop:=
 ae .map (p0.add 1) w (fun(x1:Option Nat)=>aA Tryz.prog (Instr.lookup 325 (.map x1) (.agg #[.string p1,.string p2]) true) w (.aN [.agg [.int .i64,.int .i64],.one .bool]) (fun(x2:(Int×Int×Unit)×Bool×Unit) w3=>ak (.cells #[.int .i64 0,.int .i64 0] 332) w3 (fun g4 w5=>ar (ad g4) [.int .i64 x2.1.1,.int .i64 x2.1.2.1] w5 (fun w6=>aD w6 (fun w7=>ae (.int .i64) ((ad g4).add 0) w7 (fun(x8:Int)=>ae (.int .i64) ((ad g4).add 1) w7 (fun(x9:Int)=>K (.tuple #[.int .i64 x8,.int .i64 x9,.bool x2.2.1]) w7)))))))
def pl308:aB:=(.seq .auto (.seq .auto (.seq .still .auto)))
theorem c308 (p0:Addr)(p1:ByteArray)(p2:ByteArray)(w:World)(K:Value->World->Prop)(h:C308 p0 p1 p2 w K):Ret Tryz.prog 308 #[.pointer (some p0),.string p1,.string p2] w K:=aC (by kernel_rfl) Tryz.func308 (p:=pl308) (Eq.mpr (by kernel_rfl) h)
def C141 (p0:Addr)(w:World)(K:Value->World->Prop):Prop:=
 aD w (fun w1=>aV (fun S2=>av S2 (p0.add 0) (ae .map (p0.add 0) w1 (fun(x3:Option Nat)=>av S2 (p0.add 1) (ae .map (p0.add 1) w1 (fun(x4:Option Nat)=>ab Tryz.prog 184 #[.map x3] w1 (.v (.one .map)) (fun(x5:Option Nat) w6=>ai S2 w1 w6 (ab Tryz.prog 185 #[.map x4] w6 (.v (.one .map)) (fun(x7:Option Nat) w8=>ai S2 w6 w8 (ak (.cells #[.map x5,.map x7] 327) w8 (fun g9 aG=>ai S2 w8 aG (K (.pointer (some (ad g9))) aG))))))))))))
def pl141:aB:=(.seq .auto (.seq (.held (.soft 0 (.soft 1 (.soft 2 (.soft 3 (.soft 5 (.soft 6 (.soft 7 (.soft 8 (.pick 4 (.pick 9 (.soft 10 (.pick 11 (.soft 12 .done) .stop)) .stop) .stop)))))))))) .auto))
theorem c141 (p0:Addr)(w:World)(K:Value->World->Prop)(h:C141 p0 w K):Ret Tryz.prog 141 #[.pointer (some p0)] w K:=aC (by kernel_rfl) Tryz.func141 (p:=pl141) (Eq.mpr (by kernel_rfl) h)
def AO (k:List UInt8×Int):List Pv:=[.s k.1,.i k.2]
def AP (k:List UInt8×List UInt8):List Pv:=[.s k.1,.s k.2]
def sL (n:Int):Value:=.int .i64 n
def AQ (p:Int×Int):Value:=.agg #[.int .i64 p.1,.int .i64 p.2]
theorem Pq:ua Tryz.prog 324 AO where
 ty a:=by
  have hf:∃ fs,Tryz.prog.underlying 324=some (.struct fs)/\Tryz.prog.fieldsOf 324=fs:=by
   unfold Program.fieldsOf;rw[Tryz.underlying324];exact⟨_,rfl,rfl⟩
  refine⟨by obtain⟨fs,h1,h2⟩:=hf;rw[h1,h2],by kernel_rfl,by kernel_rfl,?_⟩;unfold Program.fieldsOf;rw[Tryz.underlying324];exact⟨by decide,rfl,Tryz.underlying9,by decide,rfl,Tryz.underlying3,trivial⟩
 inj a b h:=by
  injection h with h1 h2;injection h2 with h2 _;injection h1 with h1;injection h2 with h2
  exact Prod.ext h1 h2
theorem Pr:ua Tryz.prog 330 AP where
 ty a:=by
  have hf:∃ fs,Tryz.prog.underlying 330=some (.struct fs)/\Tryz.prog.fieldsOf 330=fs:=by
   unfold Program.fieldsOf;rw[Tryz.underlying330];exact⟨_,rfl,rfl⟩
  refine⟨by obtain⟨fs,h1,h2⟩:=hf;rw[h1,h2],by kernel_rfl,by kernel_rfl,?_⟩;unfold Program.fieldsOf;rw[Tryz.underlying330];exact⟨by decide,rfl,Tryz.underlying9,by decide,rfl,Tryz.underlying9,trivial⟩
 inj a b h:=by
  injection h with h1 h2;injection h2 with h2 _;injection h1 with h1;injection h2 with h2
  exact Prod.ext h1 h2
structure ir (w:World)(F:Nat->Prop)(b:Nat)(m:de):Prop where
 out:∃ g1 g2:Nat,w.heap[b]? = some (.cells #[.map (some g1),.map (some g2)] 327 (0,0))/\gm AO sL w g1 m.fx/\gm AP AQ w g2 m.ch/\F g1/\F g2/\g1≠g2/\b≠g1/\b≠g2
 mem:F b
theorem ir.ag {w w':World}{F T:Nat->Prop}{b:Nat}{m:de}(h:ir w F b m)(f:Fr T w w')(hT:∀ k,F k->¬ T k):ir w' F b m:=by
 obtain⟨⟨g1,g2,h1,h2,h3,h4,h5,h6⟩,hm⟩:=h;exact⟨⟨g1,g2,f.ag h1 (hT b hm),h2.ag f (hT g1 h4),h3.ag f (hT g2 h5),h4,h5,h6⟩,hm⟩
theorem ir.af {w w':World}{F:Nat->Prop}{b:Nat}{m:de}(h:ir w F b m)(f:Fr none1 w w'):ir w' F b m:=h.ag f fun _ _ t=>t
theorem Ps {w:World}{g:Nat}{l:List ((List UInt8×Int)×Int)}(h:gm AO sL w g l)(s:List UInt8)(d:Int){K:Int×Bool×Unit->World->Prop}(k:K ((bq (s,d) l).getD 0,(bq (s,d) l).isSome,()) w):
  aA Tryz.prog (Instr.lookup 321 (.map (some g)) (.agg #[.string (str s),.int .i64 d]) true) w (.aN [.one (.int .i64),.one .bool]) K:=by
 have:=Iy (z:=.int .i64 0) Pq Tryz.underlying321 (by kernel_rfl) h (s,d) true;refine⟨((bq (s,d) l).getD 0,(bq (s,d) l).isSome,()),w,this.trans ?_,k⟩;cases bq (s,d) l<;>rfl
theorem Iz {w:World}{g:Nat}{l:List ((List UInt8×List UInt8)×Int×Int)}(h:gm AP AQ w g l)(s t:List UInt8){K:(Int×Int×Unit)×Bool×Unit->World->Prop}(k:K ((((bq (s,t) l).getD (0,0)).1,((bq (s,t) l).getD (0,0)).2,()),(bq (s,t) l).isSome,()) w):
  aA Tryz.prog (Instr.lookup 325 (.map (some g)) (.agg #[.string (str s),.string (str t)]) true) w (.aN [.agg [.int .i64,.int .i64],.one .bool]) K:=by
 have:=Iy (z:=AQ (0,0)) Pr Tryz.underlying325 (by kernel_rfl) h (s,t) true;refine⟨((((bq (s,t) l).getD (0,0)).1,((bq (s,t) l).getD (0,0)).2,()),(bq (s,t) l).isSome,()),w,this.trans ?_,k⟩;cases bq (s,t) l<;>rfl
theorem ZN {w:World}{g:Nat}{l:List ((List UInt8×Int)×Int)}(h:gm AO sL w g l)(s:List UInt8)(d v:Int){K:World->Prop}(k:∀ w',gm AO sL w' g (jT (s,d) v l)->Fr (only g) w w'->K w'):
  js Tryz.prog (Instr.mapUpdate 321 (.map (some g)) (.agg #[.string (str s),.int .i64 d]) (.int .i64 v)) w K:=by
 obtain⟨w',hr,f,_,hm⟩:=Pl Pq Tryz.underlying321 h (s,d) v;exact⟨w',hr,k w' hm f⟩
theorem ZO {w:World}{g:Nat}{l:List ((List UInt8×List UInt8)×Int×Int)}(h:gm AP AQ w g l)(s t:List UInt8)(v d:Int){K:World->Prop}(k:∀ w',gm AP AQ w' g (jT (s,t) (v,d) l)->Fr (only g) w w'->K w'):
  js Tryz.prog (Instr.mapUpdate 325 (.map (some g)) (.agg #[.string (str s),.string (str t)]) (.agg #[.int .i64 v,.int .i64 d])) w K:=by
 obtain⟨w',hr,f,_,hm⟩:=Pl Pr Tryz.underlying325 h (s,t) (v,d);exact⟨w',hr,k w' hm f⟩
theorem ZP (w:World):Ret Tryz.prog 147 #[] w fun r w'=>∃ b,r=.pointer (some ⟨b,0,none⟩)/\ir w' (fun k=>w.heap.size<=k/\k<w'.heap.size) b ⟨[],[]⟩/\Fr none1 w w':=by
 refine c147 w _ ?_;unfold C147;refine ak.of fun g1 w1 dp au f1 kq=>ak.of fun g2 w2 mF aI f2 gw=>ak.of fun g3 w3 qk aR f3 pj=>?_;exact⟨g3,rfl,⟨⟨g1,g2,aR,(gm.new au).af (f2.trans f3),(gm.new aI).af f3,by omega,by omega,by omega,by omega,by omega⟩,by omega⟩,(f1.trans f2).trans f3⟩
theorem Pt (d:Int)(w:World):Ret Tryz.prog 259 #[.int .i64 d] w fun r w'=>r=.bool (tH d)/\w=w':=by
 refine c259 d w _ ?_;unfold tH;refine aa.dec (fun h=>?_) (fun h=>?_)
 ·rw[decide_eq_true (p:=0<=d) (by omega)];exact⟨rfl,rfl⟩
 ·rw[decide_eq_false (p:=0<=d) (by omega)];exact⟨rfl,rfl⟩
theorem Pu {w:World}{F:Nat->Prop}{b:Nat}{m:de}(h:ir w F b m)(s:List UInt8)(d:Int):Ret Tryz.prog 342 #[.pointer (some ⟨b,0,none⟩),.string (str s),.int .i64 d] w fun r w'=>
  r=.tuple #[.int .i64 ((bq (s,d) m.fx).getD 0),.bool (bq (s,d) m.fx).isSome]/\w=w':=by
 obtain⟨⟨g1,g2,h1,h2,h3,_⟩,_⟩:=h;refine c342 _ (str s) d w _ ?_;exact ae.ah h1 (x:=some g1) rfl (Ps h2 s d ⟨rfl,rfl⟩)
theorem ZQ {w:World}{F:Nat->Prop}{b:Nat}{m:de}(h:ir w F b m)(s t:List UInt8):Ret Tryz.prog 308 #[.pointer (some ⟨b,0,none⟩),.string (str s),.string (str t)] w fun r w'=>
  r=.tuple #[.int .i64 ((bq (s,t) m.ch).getD (0,0)).1,.int .i64 ((bq (s,t) m.ch).getD (0,0)).2,.bool (bq (s,t) m.ch).isSome]/\Fr none1 w w':=by
 obtain⟨⟨g1,g2,h1,h2,h3,_⟩,_⟩:=h;refine c308 _ (str s) (str t) w _ ?_;refine ae.ah h1 (x:=some g2) rfl (Iz h3 s t ?_);refine cM (zs:=[.int .i64 0,.int .i64 0]) (vs:=[.int .i64 ((bq (s,t) m.ch).getD (0,0)).1,.int .i64 ((bq (s,t) m.ch).getD (0,0)).2]) rfl rfl fun g w2 hg hb f2=>?_;refine aD.of fun w3 _ f3=>ae.ah (f3.af hb) (x:=((bq (s,t) m.ch).getD (0,0)).1) rfl (ae.ah (f3.af hb) (x:=((bq (s,t) m.ch).getD (0,0)).2) rfl ⟨rfl,f2.trans f3⟩)
theorem IA (w:World)(o:Obj):(w.alloc o).heap[w.heap.size]? = some o:=by
 show(w.heap.push o)[w.heap.size]? = some o;simp
theorem IB (w:World)(o:Obj):(w.alloc o).heap.size=w.heap.size+1:=by
 show(w.heap.push o).size=_;simp
theorem ZR {w:World}{F:Nat->Prop}{b:Nat}{m:de}(h:ir w F b m):Ret Tryz.prog 141 #[.pointer (some ⟨b,0,none⟩)] w fun r w'=>∃ c,r=.pointer (some ⟨c,0,none⟩)/\ir w' (fun k=>w.heap.size<=k/\k<w'.heap.size) c m/\Fr none1 w w':=by
 obtain⟨⟨g1,g2,h1,h2,h3,_⟩,_⟩:=h;refine c141 _ w _ ?_;unfold C141;refine aD.of fun w1 _ f1=>aV.all ?_;refine av.all (ae.ah (f1.af h1) (x:=some g1) rfl (av.all (ae.ah (f1.af h1) (x:=some g2) rfl ?_)));obtain⟨vO,c1,au,nX⟩:=h2.af f1;have mc:Ret Tryz.prog 184 #[.map (some g1)] w1 fun r w'=>r=.map (some w1.heap.size)/\w'=w1.alloc (.map vO c1):=Calls.mono (Tryz.SN g1 vO c1 w1 au) fun e w' ⟨a,b⟩=>⟨_,a,rfl,b⟩;refine ab.of mc ?_;clear mc;rintro _ w2 ⟨rfl,rfl⟩;have f2:Fr none1 w1 (w1.alloc (.map vO c1)):=mu w1 _;have n2:=IA w1 (.map vO c1);have s2:=IB w1 (.map vO c1);generalize w1.alloc (.map vO c1)=w2 at *;refine⟨some w1.heap.size,rfl,ai.of f2 ?_⟩;obtain⟨vP,c2,aI,kn⟩:=(h3.af f1).af f2;have mc:Ret Tryz.prog 185 #[.map (some g2)] w2 fun r w'=>r=.map (some w2.heap.size)/\w'=w2.alloc (.map vP c2):=Calls.mono (Tryz.SQ g2 vP c2 w2 aI) fun e w' ⟨a,b⟩=>⟨_,a,rfl,b⟩;refine ab.of mc ?_;clear mc;rintro _ w3 ⟨rfl,rfl⟩;have f3:Fr none1 w2 (w2.alloc (.map vP c2)):=mu w2 _;have n3:=IA w2 (.map vP c2);have s3:=IB w2 (.map vP c2);generalize w2.alloc (.map vP c2)=w3 at *;refine⟨some w2.heap.size,rfl,ai.of f3 ?_⟩;refine ak.of fun g w4 hg hb f4 sC=>ai.of f4 ?_;have s1:=f1.size;refine⟨g,rfl,⟨⟨w1.heap.size,w2.heap.size,hb,⟨vO,c1,f4.af (f3.af n2),nX⟩,⟨vP,c2,f4.af n3,kn⟩,by omega,by omega,by omega,by omega,by omega⟩,by omega⟩,((f1.trans f2).trans f3).trans f4⟩
theorem ZS {w:World}{F:Nat->Prop}{b:Nat}{m:de}(h:ir w F b m)(hF:∀ k,F k->k<w.heap.size)(s:List UInt8)(d v:Int):Ret Tryz.prog 234 #[.pointer (some ⟨b,0,none⟩),.string (str s),.int .i64 d,.int .i64 v] w fun r w'=>
  r=.int .i64 (ra m s d v).2/\ir w' F b (ra m s d v).1/\Fr F w w':=by
 have h0:=h;obtain⟨⟨g1,g2,h1,h2,h3,h4,h5,h6,h7,h8⟩,hm⟩:=h;refine c234 _ (str s) d v w _ ?_;unfold C234;refine cM (zs:=[.string (⟨#[]⟩:ByteArray),.int .i64 0]) (vs:=[.string (str s),.int .i64 d]) rfl rfl fun g w1 hg hb f1=>aD.of fun w2 _ f2=>aV.all ?_;have f12:=f1.trans f2;refine av.all (ae.ah (f12.af h1) (x:=some g1) rfl (av.all (aq.aE (cks:=[.str,.int .i64]) (x:=(str s,d,())) (f2.af hb) (Ps (h2.af f12) s d (ai.of (Fr.refl _ _) ?_)))));have no:∀ {w':World},Fr none1 w w'->ir w' F b m/\Fr F w w':=fun f=>⟨h0.af f,f.mono fun _ _ t=>t.elim⟩;unfold ra;refine ab.of (uQ s w2) ?_;rintro _ w3 ⟨rfl,f3⟩;have f13:=f12.trans f3;refine⟨_,rfl,aa.not (aa.by (fun hn=>?_) (fun hn=>?_))⟩
 rotate_left
 ·rw[if_pos (.inl hn)];exact⟨rfl,no f13⟩
 refine ab.of (Pt d w3) ?_;rintro _ _ ⟨rfl,rfl⟩;refine⟨_,rfl,aa.not (aa.by (fun hd=>?_) (fun hd=>?_))⟩
 rotate_left
 ·rw[if_pos (.inr (.inl hd))];exact⟨rfl,no f13⟩
 refine ab.of (rR v w3) ?_;rintro _ _ ⟨rfl,rfl⟩;refine⟨_,rfl,aa.not (aa.by (fun hv=>?_) (fun hv=>?_))⟩
 rotate_left
 ·rw[if_pos (.inr (.inr hv))];exact⟨rfl,no f13⟩
 have hn:fm s=true:=hn;rw[if_neg (by rw[hn,hd,hv];simp)];refine aa.by (fun hi=>?_) (fun hi=>?_)
 ·rw[if_pos hi];exact⟨rfl,no f13⟩
 rw[if_neg (fun t=>by have hi:(bq (s,d) m.fx).isSome=false:=hi;rw[hi] at t;cases t)];refine ae.ah (f13.af h1) (x:=some g1) rfl (yw.ZH (h2.af f13) (aa.dec (fun hl=>?_) (fun hl=>?_)))
 ·rw[if_pos (by omega)];exact⟨rfl,no f13⟩
 rw[if_neg (by omega)];refine aD.of fun w4 _ f4=>?_;have f14:=f13.trans f4;refine ae.ah (f14.af h1) (x:=some g1) rfl (aq.aE (cks:=[.str,.int .i64]) (x:=(str s,d,())) ((f3.trans f4).af (f2.af hb)) (ZN (h2.af f14) s d v fun w5 E8 f5=>?_));have f15:Fr F w w5:=(f14.mono fun _ _ t=>t.elim).comp f5 fun k hk t=>by have:k=g1:=t;rw[this];exact h4
 refine⟨rfl,⟨⟨g1,g2,f5.ag (f14.af h1) (fun t=>h7 t),E8,(h3.af f14).ag f5 (fun t=>h6 (Eq.symm t)),h4,h5,h6,h7,h8⟩,hm⟩,f15⟩
theorem ZT {w:World}{F:Nat->Prop}{b:Nat}{m:de}(h:ir w F b m)(s t:List UInt8)(v d:Int):Ret Tryz.prog 240 #[.pointer (some ⟨b,0,none⟩),.string (str s),.string (str t),.int .i64 v,.int .i64 d] w fun r w'=>
  r=.int .i64 (lE m s t v d).2/\ir w' F b (lE m s t v d).1/\Fr F w w':=by
 have h0:=h;obtain⟨⟨g1,g2,h1,h2,h3,h4,h5,h6,h7,h8⟩,hm⟩:=h;refine c240 _ (str s) (str t) v d w _ ?_;unfold C240;have lA:=bL h1;refine cM (zs:=[.string (⟨#[]⟩:ByteArray),.string (⟨#[]⟩:ByteArray)]) (vs:=[.string (str s),.string (str t)]) rfl rfl fun g w1 hg hb f1=>aD.of fun w2 _ f2=>aV.of (fun k=>k<w2.heap.size) ?_;have f12:=f1.trans f2;have aI:=f2.af hb;have l0:=bL aI;refine⟨by rw[dT];show b<_;have:=f12.size;omega,ae.ah (f12.af h1) (x:=some g2) rfl ⟨l0,aq.aE (cks:=[.str,.str]) (x:=(str s,str t,())) aI ⟨?a,?b⟩⟩⟩
 case' a=>
  refine Iz (h3.af f12) s t (ai.of (Fr.refl _ _) (ak.of fun g9 w3 Pw lG f3 pj=>ai.of f3 (ar.aE (cs:=[.int .i64 0,.int .i64 0]) lG rfl rfl fun w4 dy f4 sC=>ai.on f4 (fun k hk q=>by have:k=g9:=q;omega) ?_)))
 case' b=>
  refine ak.of fun g9 w3 Pw lG f3 pj=>ai.of f3 (Iz ((h3.af f12).af f3) s t (ai.of (Fr.refl _ _) (ar.aE (cs:=[.int .i64 0,.int .i64 0]) lG rfl rfl fun w4 dy f4 sC=>ai.on f4 (fun k hk q=>by have:k=g9:=q;omega) ?_)))
 all_goals
  have f24:Fr none1 w2 w4:=f3.fresh f4 (by omega);have f14:=f12.trans f24;have no:∀ {w':World},Fr none1 w w'->ir w' F b m/\Fr F w w':=fun f=>⟨h0.af f,f.mono fun _ _ t=>t.elim⟩;refine cy.of (fun st w'=>st.1=decide (fm s=false\/fm t=false\/(v≠0/\v≠1)\/tH d=false)/\Fr none1 w4 w') ?_ ?_
  ·refine ab.of (uQ s w4) ?_
   rintro _ w5 ⟨rfl,f5⟩;refine⟨_,rfl,aa.not (aa.by (fun hn=>?_) (fun hn=>⟨(decide_eq_true (.inl hn)).symm,f5⟩))⟩;refine ab.of (uQ t w5) ?_;rintro _ w6 ⟨rfl,f6⟩;refine⟨_,rfl,aa.not (aa.by (fun ht=>?_) (fun ht=>⟨(decide_eq_true (.inr (.inl ht))).symm,f5.trans f6⟩))⟩;have hn:fm s=true:=hn;have ht:fm t=true:=ht;have fin:(v≠0/\v≠1)\/¬ (v≠0/\v≠1):=Classical.em _;refine aa.ne (fun q=>aa.ne (fun q2=>⟨(decide_eq_true (.inr (.inr (.inl ⟨q,q2⟩)))).symm,f5.trans f6⟩) (fun q2=>?_)) (fun q=>?_)
   all_goals
    refine ab.of (Pt d w6) ?_;rintro _ _ ⟨rfl,rfl⟩;refine⟨_,rfl,?_,f5.trans f6⟩;dsimp only;cases hr:tH d with
    | false=>rw[decide_eq_true (.inr (.inr (.inr rfl)))];rfl
    | true=>rw[decide_eq_false (by rw[hn,ht];simp;omega)];rfl
  rintro _ ⟨st,_⟩ w5 ⟨dD,f5⟩;dsimp only at dD ⊢;subst dD;have f15:=f14.trans f5;unfold lE;refine aa.dec (fun hc=>?_) (fun hc=>?_)
  ·rw[if_pos hc];exact⟨rfl,no f15⟩
  rw[if_neg hc];refine aa.by (fun hi=>?_) (fun hi=>?_)
  ·rw[if_pos hi];exact⟨rfl,no f15⟩
  rw[if_neg (fun q=>by rw[hi] at q;cases q)];refine aD.of fun w6 _ f6=>?_;have f16:=f15.trans f6;refine ae.ah (f16.af h1) (x:=some g2) rfl (aq.aE (cks:=[.str,.str]) (x:=(str s,str t,())) ((f24.trans (f5.trans f6)).af aI) (ZO (h3.af f16) s t v d fun w7 AR f7=>?_));have f17:Fr F w w7:=(f16.mono fun _ _ t=>t.elim).comp f7 fun k hk q=>by have:k=g2:=q;rw[this];exact h5
  exact⟨rfl,⟨⟨g1,g2,f7.ag (f16.af h1) (fun q=>h8 q),(h2.af f16).ag f7 (fun q=>h6 q),AR,h4,h5,h6,h7,h8⟩,hm⟩,f17⟩
def C326 (p0:Int)(p1:Bool)(w:World)(K:Value->World->Prop):Prop:=
 aa (!p1)
 (K (.tuple #[.int .i64 0,.bool false]) w)
 (ab Tryz.prog 131 #[.int .i64 p0] w (.v (.one .bool)) (fun(x1:Bool) w2=>aa (!x1)
 (K (.tuple #[.int .i64 0,.bool false]) w2)
 (K (.tuple #[.int .i64 p0,.bool true]) w2)))
def pl326:aB:=.auto
theorem c326 (p0:Int)(p1:Bool)(w:World)(K:Value->World->Prop)(h:C326 p0 p1 w K):Ret Tryz.prog 326 #[.int .i64 p0,.bool p1] w K:=aC (by kernel_rfl) Tryz.func326 (p:=pl326) (Eq.mpr (by kernel_rfl) h)
def C354 (p0:Int)(p1:Int)(w:World)(K:Value->World->Prop):Prop:=
 cy (Bool×Unit) (fun J1=>ab Tryz.prog 131 #[.int .i64 p0] w (.v (.one .bool)) (fun(x4:Bool) w5=>aa x4
 (ab Tryz.prog 131 #[.int .i64 p1] w5 (.v (.one .bool)) (fun(x6:Bool) w7=>J1 (x6,()) w7))
 (J1 (false,()) w5)))
 (fun _ s2 w3=>aa (!s2.1)
 (K (.tuple #[.int .i64 0,.bool false]) w3)
 (ab Tryz.prog 326 #[.int .i64 (IntKind.i64.wrap (p0+p1)),.bool s2.1] w3 (.aN [.one (.int .i64),.one .bool]) (fun(x8:Int×Bool×Unit) w9=>K (.tuple #[.int .i64 x8.1,.bool x8.2.1]) w9)))
def pl354:aB:=(.seq .auto (.join [(6,.one .bool)] .auto .auto))
theorem c354 (p0:Int)(p1:Int)(w:World)(K:Value->World->Prop)(h:C354 p0 p1 w K):Ret Tryz.prog 354 #[.int .i64 p0,.int .i64 p1] w K:=aC (by kernel_rfl) Tryz.func354 (p:=pl354) (Eq.mpr (by kernel_rfl) h)
def C325 (p0:Int)(w:World)(K:Value->World->Prop):Prop:=
 K (.int .i64 (if IntKind.i64.wrap (0 - p0) > p0 then IntKind.i64.wrap (0 - p0) else p0)) w
def pl325:aB:=.auto
theorem c325 (p0:Int)(w:World)(K:Value->World->Prop)(h:C325 p0 w K):Ret Tryz.prog 325 #[.int .i64 p0] w K:=aC (by kernel_rfl) Tryz.func325 (p:=pl325) (Eq.mpr (by kernel_rfl) h)
def C307 (p0:Int)(p1:Int)(w:World)(K:Value->World->Prop):Prop:=
 cy (Bool×Unit) (fun J1=>ab Tryz.prog 131 #[.int .i64 p0] w (.v (.one .bool)) (fun(x4:Bool) w5=>aa (!x4)
 (J1 (true,()) w5)
 (ab Tryz.prog 131 #[.int .i64 p1] w5 (.v (.one .bool)) (fun(x6:Bool) w7=>aa (!x6)
 (J1 (true,()) w7)
 (aa (p1 != 0)
 (ab Tryz.prog 325 #[.int .i64 p0] w7 (.v (.one (.int .i64))) (fun(x8:Int) w9=>ab Tryz.prog 325 #[.int .i64 p1] w9 (.v (.one (.int .i64))) (fun(aQ:Int) aO=>ur aQ (J1 (decide (x8 > (IntKind.i64.wrap (Int.tdiv 1000000000000 aQ))),()) aO))))
 (J1 (false,()) w7))))))
 (fun _ s2 w3=>aa s2.1
 (K (.tuple #[.int .i64 0,.bool false]) w3)
 (ab Tryz.prog 326 #[.int .i64 (IntKind.i64.wrap (p0 * p1)),.bool true] w3 (.aN [.one (.int .i64),.one .bool]) (fun(bx:Int×Bool×Unit) aY=>K (.tuple #[.int .i64 bx.1,.bool bx.2.1]) aY)))
def pl307:aB:=(.seq .auto (.seq (.join [(25,.one .bool)] .auto .auto) .auto))
theorem c307 (p0:Int)(p1:Int)(w:World)(K:Value->World->Prop)(h:C307 p0 p1 w K):Ret Tryz.prog 307 #[.int .i64 p0,.int .i64 p1] w K:=aC (by kernel_rfl) Tryz.func307 (p:=pl307) (Eq.mpr (by kernel_rfl) h)
def C357 (p0:Int)(w:World)(K:Value->World->Prop):Prop:=
 ab Tryz.prog 131 #[.int .i64 p0] w (.v (.one .bool)) (fun(x1:Bool) w2=>aa (!x1)
 (K (.tuple #[.int .i64 0,.bool false]) w2)
 (K (.tuple #[.int .i64 (IntKind.i64.wrap (0 - p0)),.bool true]) w2))
def pl357:aB:=.auto
theorem c357 (p0:Int)(w:World)(K:Value->World->Prop)(h:C357 p0 w K):Ret Tryz.prog 357 #[.int .i64 p0] w K:=aC (by kernel_rfl) Tryz.func357 (p:=pl357) (Eq.mpr (by kernel_rfl) h)
def C356 (p0:Int)(p1:Bool)(w:World)(K:Value->World->Prop):Prop:=
 ak (.cells #[.int .i64 0,.bool false] 479) w (fun g1 w2=>aa (!p1)
 (ar (ad g1) [.int .i64 0,.bool false] w2 (fun w3=>aq [.int .i64,.bool] (ad g1) w3 (fun(x4:Int×Bool×Unit)=>K (.tuple #[.agg #[.int .i64 x4.1,.bool x4.2.1],.int .i64 6]) w3)))
 (ar (ad g1) [.int .i64 p0,.bool true] w2 (fun w5=>aq [.int .i64,.bool] (ad g1) w5 (fun(x6:Int×Bool×Unit)=>K (.tuple #[.agg #[.int .i64 x6.1,.bool x6.2.1],.int .i64 0]) w5))))
def pl356:aB:=.auto
theorem c356 (p0:Int)(p1:Bool)(w:World)(K:Value->World->Prop)(h:C356 p0 p1 w K):Ret Tryz.prog 356 #[.int .i64 p0,.bool p1] w K:=aC (by kernel_rfl) Tryz.func356 (p:=pl356) (Eq.mpr (by kernel_rfl) h)
def C353 (p0:Value)(p1:Value)(p2:Int)(p3:Addr)(p4:Value)(w:World)(K:Value->World->Prop):Prop:=
 ak (.cells #[.int .i64 0,.bool false] 479) w (fun g1 w2=>ab Tryz.prog 339 #[p0,.int .i64 p2,.pointer (some p3)] w2 (.aN [.agg [.int .i64,.bool],.one (.int .i64)]) (fun(x3:(Int×Bool×Unit)×Int×Unit) w4=>ak (.cells #[.int .i64 0,.bool false] 479) w4 (fun g5 w6=>ar (ad g5) [.int .i64 x3.1.1,.bool x3.1.2.1] w6 (fun w7=>aa (x3.2.1 != 0)
 (ar (ad g1) [.int .i64 0,.bool false] w7 (fun w8=>aq [.int .i64,.bool] (ad g1) w8 (fun(x9:Int×Bool×Unit)=>K (.tuple #[.agg #[.int .i64 x9.1,.bool x9.2.1],.int .i64 x3.2.1]) w8)))
 (ab Tryz.prog 339 #[p1,.int .i64 p2,.pointer (some p3)] w7 (.aN [.agg [.int .i64,.bool],.one (.int .i64)]) (fun(aQ:(Int×Bool×Unit)×Int×Unit) aO=>ak (.cells #[.int .i64 0,.bool false] 479) aO (fun g12 aY=>ar (ad g12) [.int .i64 aQ.1.1,.bool aQ.1.2.1] aY (fun bo=>aa (aQ.2.1 != 0)
 (ar (ad g1) [.int .i64 0,.bool false] bo (fun bM=>aq [.int .i64,.bool] (ad g1) bM (fun(aS:Int×Bool×Unit)=>K (.tuple #[.agg #[.int .i64 aS.1,.bool aS.2.1],.int .i64 aQ.2.1]) bM)))
 (ae .bool ((ad g5).add 1) bo (fun(ba:Bool)=>aa (!ba)
 (ar (ad g1) [.int .i64 0,.bool false] bo (fun bt=>aq [.int .i64,.bool] (ad g1) bt (fun(br:Int×Bool×Unit)=>K (.tuple #[.agg #[.int .i64 br.1,.bool br.2.1],.int .i64 aQ.2.1]) bt)))
 (ae .bool ((ad g12).add 1) bo (fun(cG:Bool)=>aa (!cG)
 (ar (ad g1) [.int .i64 0,.bool false] bo (fun bw=>aq [.int .i64,.bool] (ad g1) bw (fun(bU:Int×Bool×Unit)=>K (.tuple #[.agg #[.int .i64 bU.1,.bool bU.2.1],.int .i64 aQ.2.1]) bw)))
 (ae (.int .i64) ((ad g5).add 0) bo (fun(cv:Int)=>ae (.int .i64) ((ad g12).add 0) bo (fun(cm:Int)=>kQ Tryz.prog p4 [.int .i64 cv,.int .i64 cm] (.aN [.one (.int .i64),.one .bool]) bo (fun(bD:Int×Bool×Unit) cn=>ab Tryz.prog 356 #[.int .i64 bD.1,.bool bD.2.1] cn (.aN [.agg [.int .i64,.bool],.one (.int .i64)]) (fun(cA:(Int×Bool×Unit)×Int×Unit) bV=>ar (ad g1) [.int .i64 cA.1.1,.bool cA.1.2.1] bV (fun eD=>aq [.int .i64,.bool] (ad g1) eD (fun(eB:Int×Bool×Unit)=>K (.tuple #[.agg #[.int .i64 eB.1,.bool eB.2.1],.int .i64 cA.2.1]) eD)))))))))))))))))))
def pl353:aB:=.auto
theorem c353 (p0:Value)(p1:Value)(p2:Int)(p3:Addr)(p4:Value)(w:World)(K:Value->World->Prop)(h:C353 p0 p1 p2 p3 p4 w K):Ret Tryz.prog 353 #[p0,p1,.int .i64 p2,.pointer (some p3),p4] w K:=aC (by kernel_rfl) Tryz.func353 (p:=pl353) (Eq.mpr (by kernel_rfl) h)
def C355 (p0:Int)(p1:Int)(w:World)(K:Value->World->Prop):Prop:=
 K (.tuple #[.int .i64 (if p1 > p0 then p1 else p0),.bool true]) w
def pl355:aB:=.auto
theorem c355 (p0:Int)(p1:Int)(w:World)(K:Value->World->Prop)(h:C355 p0 p1 w K):Ret Tryz.prog 355 #[.int .i64 p0,.int .i64 p1] w K:=aC (by kernel_rfl) Tryz.func355 (p:=pl355) (Eq.mpr (by kernel_rfl) h)
def C339 (p0:Value)(p1:Int)(p2:Addr)(w:World)(K:Value->World->Prop):Prop:=
 ak (.cells #[.int .i64 0,.bool false] 479) w (fun g1 w2=>ao p0 222 (.agg [.int .i64]) (fun(x3:Int×Unit)=>ak (.cells #[.int .i64 0] 222) w2 (fun g4 w5=>ar (ad g4) [.int .i64 x3.1] w5 (fun w6=>ae (.int .i64) ((ad g4).add 0) w6 (fun(x7:Int)=>ar (ad g1) [.int .i64 x7,.bool true] w6 (fun w8=>aq [.int .i64,.bool] (ad g1) w8 (fun(x9:Int×Bool×Unit)=>K (.tuple #[.agg #[.int .i64 x9.1,.bool x9.2.1],.int .i64 0]) w8))))))
 (ao p0 300 (.agg [.str]) (fun(aQ:ByteArray×Unit)=>ak (.cells #[.string (⟨#[]⟩:ByteArray)] 300) w2 (fun g11 aL=>ar (ad g11) [.string aQ.1] aL (fun aY=>ae .str ((ad g11).add 0) aY (fun(bg:ByteArray)=>ab Tryz.prog 342 #[.pointer (some p2),.string bg,.int .i64 p1] aY (.aN [.one (.int .i64),.one .bool]) (fun(bn:Int×Bool×Unit) bj=>ar (ad g1) [.int .i64 bn.1,.bool bn.2.1] bj (fun cj=>aq [.int .i64,.bool] (ad g1) cj (fun(bB:Int×Bool×Unit)=>K (.tuple #[.agg #[.int .i64 bB.1,.bool bB.2.1],.int .i64 0]) cj)))))))
 (ao p0 302 (.agg [.raw,.raw]) (fun(br:Value×Value×Unit)=>ak (.cells #[.nilIface,.nilIface] 302) w2 (fun g20 bw=>ar (ad g20) [br.1,br.2.1] bw (fun bJ=>ae .raw ((ad g20).add 0) bJ (fun(cv:Value)=>ae .raw ((ad g20).add 1) bJ (fun(cm:Value)=>ab Tryz.prog 353 #[cv,cm,.int .i64 p1,.pointer (some p2),.func (.func 354) #[] #[]] bJ (.aN [.agg [.int .i64,.bool],.one (.int .i64)]) (fun(bD:(Int×Bool×Unit)×Int×Unit) cn=>ar (ad g1) [.int .i64 bD.1.1,.bool bD.1.2.1] cn (fun eN=>aq [.int .i64,.bool] (ad g1) eN (fun(eR:Int×Bool×Unit)=>K (.tuple #[.agg #[.int .i64 eR.1,.bool eR.2.1],.int .i64 bD.2.1]) eN))))))))
 (ao p0 305 (.agg [.raw,.raw]) (fun(cB:Value×Value×Unit)=>ak (.cells #[.nilIface,.nilIface] 305) w2 (fun rU fo=>ar (ad rU) [cB.1,cB.2.1] fo (fun cU=>ae .raw ((ad rU).add 0) cU (fun(dA:Value)=>ae .raw ((ad rU).add 1) cU (fun(dh:Value)=>ab Tryz.prog 353 #[dA,dh,.int .i64 p1,.pointer (some p2),.func (.func 307) #[] #[]] cU (.aN [.agg [.int .i64,.bool],.one (.int .i64)]) (fun(dv:(Int×Bool×Unit)×Int×Unit) dd=>ar (ad g1) [.int .i64 dv.1.1,.bool dv.1.2.1] dd (fun dz=>aq [.int .i64,.bool] (ad g1) dz (fun(dF:Int×Bool×Unit)=>K (.tuple #[.agg #[.int .i64 dF.1,.bool dF.2.1],.int .i64 dv.2.1]) dz))))))))
 (ao p0 306 (.agg [.raw,.raw]) (fun(fk:Value×Value×Unit)=>ak (.cells #[.nilIface,.nilIface] 306) w2 (fun zo kA=>ar (ad zo) [fk.1,fk.2.1] kA (fun gx=>ae .raw ((ad zo).add 0) gx (fun(jw:Value)=>ae .raw ((ad zo).add 1) gx (fun(iY:Value)=>ab Tryz.prog 353 #[jw,iY,.int .i64 p1,.pointer (some p2),.func (.func 355) #[] #[]] gx (.aN [.agg [.int .i64,.bool],.one (.int .i64)]) (fun(gX:(Int×Bool×Unit)×Int×Unit) iy=>ar (ad g1) [.int .i64 gX.1.1,.bool gX.1.2.1] iy (fun gI=>aq [.int .i64,.bool] (ad g1) gI (fun(fS:Int×Bool×Unit)=>K (.tuple #[.agg #[.int .i64 fS.1,.bool fS.2.1],.int .i64 gX.2.1]) gI))))))))
 (ao p0 304 (.agg [.raw]) (fun(fD:Value×Unit)=>ab Tryz.prog 339 #[fD.1,.int .i64 p1,.pointer (some p2)] w2 (.aN [.agg [.int .i64,.bool],.one (.int .i64)]) (fun(iL:(Int×Bool×Unit)×Int×Unit) kB=>ak (.cells #[.int .i64 0,.bool false] 479) kB (fun xY p8=>ar (ad xY) [.int .i64 iL.1.1,.bool iL.1.2.1] p8 (fun gW=>aa (iL.2.1 != 0)
 (ar (ad g1) [.int .i64 0,.bool false] gW (fun gQ=>aq [.int .i64,.bool] (ad g1) gQ (fun(j8:Int×Bool×Unit)=>K (.tuple #[.agg #[.int .i64 j8.1,.bool j8.2.1],.int .i64 iL.2.1]) gQ)))
 (ae .bool ((ad xY).add 1) gW (fun(nj:Bool)=>aa (!nj)
 (ar (ad g1) [.int .i64 0,.bool false] gW (fun qQ=>aq [.int .i64,.bool] (ad g1) qQ (fun(rQ:Int×Bool×Unit)=>K (.tuple #[.agg #[.int .i64 rQ.1,.bool rQ.2.1],.int .i64 iL.2.1]) qQ)))
 (ae (.int .i64) ((ad xY).add 0) gW (fun(oc:Int)=>ab Tryz.prog 357 #[.int .i64 oc] gW (.aN [.one (.int .i64),.one .bool]) (fun(l8:Int×Bool×Unit) jA=>ab Tryz.prog 356 #[.int .i64 l8.1,.bool l8.2.1] jA (.aN [.agg [.int .i64,.bool],.one (.int .i64)]) (fun(nk:(Int×Bool×Unit)×Int×Unit) jy=>ar (ad g1) [.int .i64 nk.1.1,.bool nk.1.2.1] jy (fun AS=>aq [.int .i64,.bool] (ad g1) AS (fun(tA:Int×Bool×Unit)=>K (.tuple #[.agg #[.int .i64 tA.1,.bool tA.2.1],.int .i64 nk.2.1]) AS)))))))))))) False))))))
def pl339:aB:=.auto
theorem c339 (p0:Value)(p1:Int)(p2:Addr)(w:World)(K:Value->World->Prop)(h:C339 p0 p1 p2 w K):Ret Tryz.prog 339 #[p0,.int .i64 p1,.pointer (some p2)] w K:=aC (by kernel_rfl) Tryz.func339 (p:=pl339) (Eq.mpr (by kernel_rfl) h)
def C322 (p0:Value)(p1:Int)(p2:Addr)(w:World)(K:Value->World->Prop):Prop:=
 ab Tryz.prog 244 #[p0] w (.v (.one (.int .i64))) (fun(x1:Int) w2=>aa (x1 != 0)
 (K (.tuple #[.int .i64 0,.bool false,.int .i64 2]) w2)
 (ab Tryz.prog 339 #[p0,.int .i64 p1,.pointer (some p2)] w2 (.aN [.agg [.int .i64,.bool],.one (.int .i64)]) (fun(x3:(Int×Bool×Unit)×Int×Unit) w4=>ak (.cells #[.int .i64 0,.bool false] 479) w4 (fun g5 w6=>ar (ad g5) [.int .i64 x3.1.1,.bool x3.1.2.1] w6 (fun w7=>aD w7 (fun w8=>ae (.int .i64) ((ad g5).add 0) w8 (fun(x9:Int)=>ae .bool ((ad g5).add 1) w8 (fun(aQ:Bool)=>K (.tuple #[.int .i64 x9,.bool aQ,.int .i64 x3.2.1]) w8))))))))
def pl322:aB:=(.seq .auto (.seq .auto (.seq .auto (.seq .still .auto))))
theorem c322 (p0:Value)(p1:Int)(p2:Addr)(w:World)(K:Value->World->Prop)(h:C322 p0 p1 p2 w K):Ret Tryz.prog 322 #[p0,.int .i64 p1,.pointer (some p2)] w K:=aC (by kernel_rfl) Tryz.func322 (p:=pl322) (Eq.mpr (by kernel_rfl) h)
def C324 (p0:Value)(p1:Int)(p2:Addr)(w:World)(K:Value->World->Prop):Prop:=
 ab Tryz.prog 244 #[p0] w (.v (.one (.int .i64))) (fun(x1:Int) w2=>aa (x1 != 0)
 (K (.slice none 0 0) w2)
 (ab Tryz.prog 341 #[p0] w2 (.v (.one .aj)) (fun(x3:an) w4=>bC (an×Int×Unit) (fun _ s5 w6 tt=>aa (decide (s5.2.1<(x3.2.1:Int)))
 (bQ x3.1 x3.2.1 s5.2.1 1 (fun a8=>ae .str a8 w6 (fun(x9:ByteArray)=>ab Tryz.prog 342 #[.pointer (some p2),.string x9,.int .i64 p1] w6 (.aN [.one (.int .i64),.one .bool]) (fun(aQ:Int×Bool×Unit) aO=>aa (!aQ.2.1)
 (aA Tryz.prog (Instr.buildSlice 51 1 #[(0,.string x9)]) aO (.v (.one .aj)) (fun(bx:an) aY=>aA Tryz.prog (Builtin.append_ #[51,51] 51 #[.slice s5.1.1 s5.1.2.1 s5.1.2.2,.slice bx.1 bx.2.1 bx.2.2]) aY (.v (.one .aj)) (fun(bg:an) bM=>tt ((bg.1,bg.2.1,bg.2.2),IntKind.i64.wrap (s5.2.1+1),()) bM)))
 (tt ((s5.1.1,s5.1.2.1,s5.1.2.2),IntKind.i64.wrap (s5.2.1+1),()) aO)))))
 (K (.slice s5.1.1 s5.1.2.1 s5.1.2.2) w6))
 ((none,0,0),0,()) w4)))
def pl324:aB:=(.seq .auto (.seq .auto (.seq .auto (.seq (.seq .auto (.block (.loop [(7,.one .aj),(18,.one (.int .i64))] .auto))) .auto))))
theorem c324 (p0:Value)(p1:Int)(p2:Addr)(w:World)(K:Value->World->Prop)(h:C324 p0 p1 p2 w K):Ret Tryz.prog 324 #[p0,.int .i64 p1,.pointer (some p2)] w K:=aC (by kernel_rfl) Tryz.func324 (p:=pl324) (Eq.mpr (by kernel_rfl) h)
def C341 (p0:Value)(w:World)(K:Value->World->Prop):Prop:=
 ao p0 300 (.agg [.str]) (fun(x1:ByteArray×Unit)=>ak (.cells #[.string (⟨#[]⟩:ByteArray)] 300) w (fun g2 w3=>ar (ad g2) [.string x1.1] w3 (fun w4=>ae .str ((ad g2).add 0) w4 (fun(x5:ByteArray)=>aA Tryz.prog (Instr.buildSlice 51 1 #[(0,.string x5)]) w4 (.v (.one .aj)) (fun(x6:an) w7=>K (.slice x6.1 x6.2.1 x6.2.2) w7)))))
 (ak (.cells #[.string (⟨#[]⟩:ByteArray)] 300) w (fun g8 w9=>ar (ad g8) [.string (⟨#[]⟩:ByteArray)] w9 (fun aG=>ab Tryz.prog 254 #[p0] aG (.v (.one .aj)) (fun(aX:an) aL=>bC (an×Int×Unit) (fun _ ka bo BY=>aa (decide (ka.2.1<(aX.2.1:Int)))
 (bQ aX.1 aX.2.1 ka.2.1 1 (fun yW=>ae .raw yW bo (fun(ba:Value)=>ab Tryz.prog 341 #[ba] bo (.v (.one .aj)) (fun(bB:an) bu=>bC (an×Int×Unit) (fun _ mf bw Px=>aa (decide (mf.2.1<(bB.2.1:Int)))
 (bQ bB.1 bB.2.1 mf.2.1 1 (fun a23=>ae .str a23 bw (fun(cm:ByteArray)=>ab Tryz.prog 217 #[.slice mf.1.1 mf.1.2.1 mf.1.2.2,.string cm] bw (.v (.one .bool)) (fun(bD:Bool) cn=>aa (!bD)
 (aA Tryz.prog (Instr.buildSlice 51 1 #[(0,.string cm)]) cn (.v (.one .aj)) (fun(cA:an) bV=>aA Tryz.prog (Builtin.append_ #[51,51] 51 #[.slice mf.1.1 mf.1.2.1 mf.1.2.2,.slice cA.1 cA.2.1 cA.2.2]) bV (.v (.one .aj)) (fun(cB:an) bS=>Px ((cB.1,cB.2.1,cB.2.2),IntKind.i64.wrap (mf.2.1+1),()) bS)))
 (Px ((mf.1.1,mf.1.2.1,mf.1.2.2),IntKind.i64.wrap (mf.2.1+1),()) cn)))))
 (BY ((mf.1.1,mf.1.2.1,mf.1.2.2),IntKind.i64.wrap (ka.2.1+1),()) bw))
 ((ka.1.1,ka.1.2.1,ka.1.2.2),0,()) bu))))
 (K (.slice ka.1.1 ka.1.2.1 ka.1.2.2) bo))
 ((none,0,0),0,()) aL))))
def pl341:aB:=(.seq .auto (.seq .auto (.seq .auto (.seq (.seq .auto (.block (.loop [(3,.one .aj),(22,.one (.int .i64))] (.seq .auto (.seq .auto (.seq (.block (.seq .auto (.seq .auto (.block (.loop [(3,.one .aj),(29,.one (.int .i64))] .auto))))) .auto)))))) .auto))))
theorem c341 (p0:Value)(w:World)(K:Value->World->Prop)(h:C341 p0 w K):Ret Tryz.prog 341 #[p0] w K:=aC (by kernel_rfl) Tryz.func341 (p:=pl341) (Eq.mpr (by kernel_rfl) h)
theorem Py (n:Int)(ok:Bool)(w:World):Ret Tryz.prog 326 #[.int .i64 n,.bool ok] w fun r w'=>r=.tuple #[.int .i64 (if ok&&cI n then n else 0),.bool (ok&&cI n)]/\w=w':=by
 refine c326 n ok w _ ?_;refine aa.not (aa.by (fun h=>?_) (fun h=>?_))
 ·subst h
  refine ab.of (rR n w) ?_;rintro _ _ ⟨rfl,rfl⟩;refine⟨_,rfl,aa.not (aa.by (fun h=>?_) (fun h=>?_))⟩
  ·rw[h];exact⟨rfl,rfl⟩
  ·rw[h];exact⟨rfl,rfl⟩
 ·subst h;exact⟨rfl,rfl⟩
theorem ZU (a b:Int)(w:World):Ret Tryz.prog 354 #[.int .i64 a,.int .i64 b] w fun r w'=>r=.tuple #[.int .i64 (vk a b).1,.bool (vk a b).2]/\w=w':=by
 refine c354 a b w _ ?_;refine cy.of (fun s w'=>s.1=(cI a&&cI b)/\w=w') ?_ ?_
 ·refine ab.of (rR a w) ?_
  rintro _ _ ⟨rfl,rfl⟩;refine⟨_,rfl,aa.by (fun h=>?_) (fun h=>⟨by rw[h];rfl,rfl⟩)⟩;refine ab.of (rR b w) ?_;rintro _ _ ⟨rfl,rfl⟩;exact⟨_,rfl,by rw[h];rfl,rfl⟩
 rintro _ ⟨s,_⟩ _ ⟨hs,rfl⟩;dsimp only at hs ⊢;subst hs;unfold vk;refine aa.not (aa.by (fun h=>?_) (fun h=>?_))
 ·have h2:=h
  rw[Bool.and_eq_true,rn,rn] at h2;rw[h,wI (x:=a+b) (by omega) (by omega)];refine ab.of (Py (a+b) true w) ?_;rintro _ _ ⟨rfl,rfl⟩;refine⟨(if true&&cI (a+b) then a+b else 0,true&&cI (a+b),()),rfl,?_,rfl⟩;cases cI (a+b)<;>rfl
 ·rw[h];exact⟨rfl,rfl⟩
theorem ZV {a b A B:Int}(hA:A=a/\0<=a\/A=-a/\a<=0)(hB:B=b/\0<=b\/B=-b/\b<=0):(A * B=a * b\/A * B=-(a * b))/\0<=A * B:=by
 have h0:0<=A:=by omega
 have h1:0<=B:=by omega
 refine⟨?_,Int.mul_nonneg h0 h1⟩
 rcases hA with⟨rfl,_⟩ | ⟨rfl,_⟩<;>rcases hB with⟨rfl,_⟩ | ⟨rfl,_⟩
 ·exact .inl rfl
 ·exact .inr (Int.mul_neg _ _)
 ·exact .inr (Int.neg_mul _ _)
 ·exact .inl (Int.neg_mul_neg _ _)
theorem Pz (a:Int)(h:cI a=true)(w:World):Ret Tryz.prog 325 #[.int .i64 a] w fun r w'=>∃ A,r=.int .i64 A/\(A=a/\0<=a\/A=-a/\a<=0)/\w=w':=by
 rw[rn] at h;refine c325 a w _ ?_;unfold C325;rw[wI (x:=0 - a) (by omega) (by omega)];refine⟨_,rfl,?_,rfl⟩;split<;>omega
theorem PA (a b:Int)(w:World):Ret Tryz.prog 307 #[.int .i64 a,.int .i64 b] w fun r w'=>r=.tuple #[.int .i64 (la a b).1,.bool (la a b).2]/\w=w':=by
 refine c307 a b w _ ?_;refine cy.of (fun s w'=>s.1=!((cI a&&cI b)&&cI (a * b))/\w=w') ?_ ?_
 ·refine ab.of (rR a w) ?_
  rintro _ _ ⟨rfl,rfl⟩;refine⟨_,rfl,aa.not (aa.by (fun ha=>?_) (fun ha=>⟨by rw[ha];rfl,rfl⟩))⟩;refine ab.of (rR b w) ?_;rintro _ _ ⟨rfl,rfl⟩;refine⟨_,rfl,aa.not (aa.by (fun hb=>?_) (fun hb=>⟨by rw[ha,hb];rfl,rfl⟩))⟩;refine aa.ne (fun ay=>?_) (fun he=>⟨by rw[ha,hb,he,Int.mul_zero];rfl,rfl⟩);refine ab.of (Pz a ha w) ?_;rintro _ _ ⟨A,rfl,hA,rfl⟩;refine⟨A,rfl,?_⟩;refine ab.of (Pz b hb w) ?_;rintro _ _ ⟨B,rfl,hB,rfl⟩;refine⟨B,rfl,⟨by omega,?_,rfl⟩⟩;have ZW:0<B:=by omega
  have hd:Int.tdiv 1000000000000 B=1000000000000 / B:=Int.tdiv_eq_ediv_of_nonneg (by decide);have zN:0<=1000000000000 / B:=Int.ediv_nonneg (by decide) (by omega);have Dv:1000000000000 / B<=1000000000000:=Int.ediv_le_self _ (by decide);rw[ha,hb,hd,wI (x:=1000000000000 / B) (by omega) (by omega)];have hk:A<=1000000000000 / B↔A * B<=1000000000000:=Int.le_ediv_iff_mul_le ZW;obtain⟨m1,m2⟩:=ZV hA hB;dsimp only;cases hv:cI (a * b) with
  | true=>
   rw[rn] at hv;have:A * B<=1000000000000:=by omega
   rw[decide_eq_false (by have:=hk.2 this;omega)];rfl
  | false=>
   have:¬ A * B<=1000000000000:=fun t=>by
    have:cI (a * b)=true:=by rw[rn];omega
    rw[this] at hv;cases hv
   rw[decide_eq_true (by have:=mt hk.1 this;omega)];rfl
 rintro _ ⟨s,_⟩ _ ⟨hs,rfl⟩;dsimp only at hs ⊢;subst hs;unfold la;refine aa.not (aa.by (fun h=>?_) (fun h=>?_))
 ·have h2:=h
  rw[Bool.and_eq_true,rn] at h2;rw[h,wI (x:=a * b) (by omega) (by omega)];refine ab.of (Py (a * b) true w) ?_;rintro _ _ ⟨rfl,rfl⟩;refine⟨(if true&&cI (a * b) then a * b else 0,true&&cI (a * b),()),rfl,?_,rfl⟩;rw[Bool.and_eq_true] at h;rw[h.2];rfl
 ·rw[h];exact⟨rfl,rfl⟩
theorem ZX (a:Int)(w:World):Ret Tryz.prog 357 #[.int .i64 a] w fun r w'=>r=.tuple #[.int .i64 (if cI a then(-a,true) else((0:Int),false)).1,.bool (if cI a then(-a,true) else((0:Int),false)).2]/\w=w':=by
 refine c357 a w _ ?_;refine ab.of (rR a w) ?_;rintro _ _ ⟨rfl,rfl⟩;refine⟨_,rfl,aa.not (aa.by (fun h=>?_) (fun h=>?_))⟩
 ·rw[if_pos h]
  rw[rn] at h;rw[wI (x:=0 - a) (by omega) (by omega),Int.zero_sub];exact⟨rfl,rfl⟩
 ·rw[h];exact⟨rfl,rfl⟩
abbrev PB:List Ck:=[.int .i64,.bool]
def xZ (n:Int×Bool×Int):Value:=.tuple #[.agg #[.int .i64 n.1,.bool n.2.1],.int .i64 n.2.2]
theorem mP {w wc:World}{g:Nat}{T:TypeId}{a:Int}{b:Bool}(f:Fr none1 w wc)(hg:w.heap.size<=g)(hb:wc.heap[g]? = some (.cells #[.int .i64 a,.bool b] T (0,0)))(n:Int×Bool×Int):
  ar ⟨g,0,none⟩ [.int .i64 n.1,.bool n.2.1] wc (fun w2=>aq PB ⟨g,0,none⟩ w2 (fun(x:Int×Bool×Unit)=>(Value.tuple #[.agg #[.int .i64 x.1,.bool x.2.1],.int .i64 n.2.2])=xZ n/\Fr none1 w w2)):=
 ar.aE (cs:=[.int .i64 a,.bool b]) hb rfl rfl fun w2 aI f2 _=>aq.aE (cks:=PB) (x:=(n.1,n.2.1,())) aI ⟨rfl,f.fresh f2 hg⟩
theorem PC (n:Int)(ok:Bool)(w:World):Ret Tryz.prog 356 #[.int .i64 n,.bool ok] w fun r w'=>r=xZ (pg (n,ok))/\Fr none1 w w':=by
 refine c356 n ok w _ ?_;unfold C356 pg;refine ak.of fun g w1 hg hb f1 _=>aa.not (aa.by (fun h=>?_) (fun h=>?_))
 ·rw[if_pos h];exact mP f1 (by omega) hb (n,true,0)
 ·rw[if_neg (by simp[h])];exact mP f1 (by omega) hb (0,false,6)
theorem ZY (a b:Int)(w:World):Ret Tryz.prog 355 #[.int .i64 a,.int .i64 b] w fun r w'=>r=.tuple #[.int .i64 (vl a b).1,.bool (vl a b).2]/\w=w':=by
 refine c355 a b w _ ?_;refine⟨?_,rfl⟩;unfold vl;dsimp only
 congr 4
 rw[Int.max_def];split<;>split<;>omega
theorem ZZ (d:Int)(o:Ob):cZ o=true->∀ {w:World} {F:Nat->Prop} {b:Nat} {m:de},ir w F b m->Ret Tryz.prog 339 #[o.v,.int .i64 d,.pointer (some ⟨b,0,none⟩)] w fun r w'=>r=xZ (eI m d o)/\Fr none1 w w':=by
 have pair:∀ (l r:Ob) (fn:FuncId) (put:Int->Int->Int×Bool),(∀ (a b:Int) (w:World) {K:Int×Bool×Unit->World->Prop},K ((put a b).1,(put a b).2,()) w->kQ Tryz.prog (.func (.func fn) #[] #[]) [.int .i64 a,.int .i64 b] (.aN [.one (.int .i64),.one .bool]) w K) ->
   (∀ {w:World} {F:Nat->Prop} {b:Nat} {m:de},ir w F b m->Ret Tryz.prog 339 #[l.v,.int .i64 d,.pointer (some ⟨b,0,none⟩)] w fun r w'=>r=xZ (eI m d l)/\Fr none1 w w') ->
   (∀ {w:World} {F:Nat->Prop} {b:Nat} {m:de},ir w F b m->Ret Tryz.prog 339 #[r.v,.int .i64 d,.pointer (some ⟨b,0,none⟩)] w fun q w'=>q=xZ (eI m d r)/\Fr none1 w w') ->
   ∀ {w:World} {F:Nat->Prop} {b:Nat} {m:de},ir w F b m->Ret Tryz.prog 353 #[l.v,r.v,.int .i64 d,.pointer (some ⟨b,0,none⟩),.func (.func fn) #[] #[]] w fun q w'=>q=xZ (zS (eI m d l) (eI m d r) put)/\Fr none1 w w':=by
  intro l r fn put Z0 hl hr w F b m h;refine c353 l.v r.v d _ _ w _ ?_;unfold C353 zS;refine ak.of fun g w1 hg hb f1 _=>?_;refine ab.of (hl (h.af f1)) ?_;rintro _ w2 ⟨rfl,f2⟩;generalize eI m d l=X;refine⟨((X.1,X.2.1,()),X.2.2,()),rfl,?_⟩;refine cM (zs:=[.int .i64 0,.bool false]) (vs:=[.int .i64 X.1,.bool X.2.1]) rfl rfl fun g5 w3 xD cY f3=>?_;have f13:=f2.trans f3;have F3:=f1.trans f13;refine aa.ne (fun ay=>?_) (fun he=>?_)
  ·rw[if_pos ay];exact mP F3 (by omega) (f13.af hb) (0,false,X.2.2)
  rw[if_neg (fun t=>t he)];refine ab.of (hr (h.af F3)) ?_;rintro _ w4 ⟨rfl,f4⟩;generalize eI m d r=Y;refine⟨((Y.1,Y.2.1,()),Y.2.2,()),rfl,?_⟩;refine cM (zs:=[.int .i64 0,.bool false]) (vs:=[.int .i64 Y.1,.bool Y.2.1]) rfl rfl fun g12 w5 Z1 PD f5=>?_;have f35:=f4.trans f5;have F5:=F3.trans f35;have au:=f35.af (f13.af hb);refine aa.ne (fun ay=>?_) (fun kn=>?_)
  ·rw[if_pos (.inl ay)];exact mP F5 (by omega) au (0,false,Y.2.2)
  refine ae.ah (f35.af cY) (x:=X.2.1) rfl (aa.not (aa.by (fun hx=>?_) (fun hx=>?_)))
  rotate_left
  ·rw[if_pos (.inr (.inl hx))];exact mP F5 (by omega) au (0,false,Y.2.2)
  refine ae.ah PD (x:=Y.2.1) rfl (aa.not (aa.by (fun hy=>?_) (fun hy=>?_)))
  rotate_left
  ·rw[if_pos (.inr (.inr hy))];exact mP F5 (by omega) au (0,false,Y.2.2)
  have kn:Y.2.2=0:=kn;have hx:X.2.1=true:=hx;have hy:Y.2.1=true:=hy;rw[if_neg (by rintro(t | t | t)<;>simp_all)]
  refine ae.ah (f35.af cY) (x:=X.1) rfl (ae.ah PD (x:=Y.1) rfl (Z0 X.1 Y.1 w5 ?_));refine ab.of (PC _ _ w5) ?_;rintro _ w6 ⟨rfl,f6⟩;refine⟨(((pg (put X.1 Y.1)).1,(pg (put X.1 Y.1)).2.1,()),(pg (put X.1 Y.1)).2.2,()),rfl,?_⟩;exact mP (F5.trans f6) (by omega) (f6.af au) (pg (put X.1 Y.1))
 induction o with
 | none=>intro h;cases h
 | const n=>
  intro _ w F b m h;refine c339 _ d _ w _ ?_;unfold C339;refine ak.of fun g w1 hg hb f1 _=>ao.hit (n,()) rfl (cM (zs:=[.int .i64 0]) (vs:=[.int .i64 n]) rfl rfl fun g4 w2 _ aI f2=>ae.ah aI (x:=n) rfl ?_);exact mP (f1.trans f2) (by omega) (f2.af hb) (n,true,0)
 | fix s=>
  intro _ w F b m h;refine c339 _ d _ w _ ?_;unfold C339;refine ak.of fun g w1 hg hb f1 _=>ao.aM rfl (by decide) (ao.hit (str s,()) rfl (cM (zs:=[.string (⟨#[]⟩:ByteArray)]) (vs:=[.string (str s)]) rfl rfl fun g4 w2 _ aI f2=>ae.ah aI (x:=str s) rfl ?_));refine ab.of (Pu (h.af (f1.trans f2)) s d) ?_;rintro _ _ ⟨rfl,rfl⟩;refine⟨((bq (s,d) m.fx).getD 0,(bq (s,d) m.fx).isSome,()),rfl,?_⟩;have e:eI m d (.fix s)=((bq (s,d) m.fx).getD 0,(bq (s,d) m.fx).isSome,0):=by
   unfold eI;cases bq (s,d) m.fx<;>rfl
  rw[e];exact mP (f1.trans f2) (by omega) (f2.af hb) ((bq (s,d) m.fx).getD 0,(bq (s,d) m.fx).isSome,0)
 | add l r a b=>
  intro hf w F b' m h;unfold cZ at hf;rw[Bool.and_eq_true] at hf;refine c339 _ d _ w _ ?_;unfold C339;refine ak.of fun g w1 hg hb f1 _=>ao.aM rfl (by decide) (ao.aM rfl (by decide) (ao.hit (l.v,r.v,()) rfl (cM (zs:=[.nilIface,.nilIface]) (vs:=[l.v,r.v]) rfl (by simp[Ob.bW]) fun g4 w2 _ aI f2=>ae.ah (c:=.raw) aI (x:=l.v) rfl (ae.ah (c:=.raw) aI (x:=r.v) rfl ?_))));refine ab.of (pair l r _ vk (fun x y w K k=>mm (by kernel_rfl) Tryz.func354 (by kernel_rfl) ((ZU x y w).mono fun v w' ⟨e,e2⟩=>⟨((vk x y).1,(vk x y).2,()),e,e2 ▸ k⟩)) (a hf.1) (b hf.2) (h.af (f1.trans f2))) ?_;rintro _ w3 ⟨rfl,f3⟩;refine⟨(((eI m d (.add l r)).1,(eI m d (.add l r)).2.1,()),(eI m d (.add l r)).2.2,()),rfl,?_⟩;exact mP ((f1.trans f2).trans f3) (by omega) ((f2.trans f3).af hb) (eI m d (.add l r))
 | mul l r a b=>
  intro hf w F b' m h;unfold cZ at hf;rw[Bool.and_eq_true] at hf;refine c339 _ d _ w _ ?_;unfold C339;refine ak.of fun g w1 hg hb f1 _=>ao.aM rfl (by decide) (ao.aM rfl (by decide) (ao.aM rfl (by decide) (ao.hit (l.v,r.v,()) rfl (cM (zs:=[.nilIface,.nilIface]) (vs:=[l.v,r.v]) rfl (by simp[Ob.bW]) fun g4 w2 _ aI f2=>ae.ah (c:=.raw) aI (x:=l.v) rfl (ae.ah (c:=.raw) aI (x:=r.v) rfl ?_)))));refine ab.of (pair l r _ la (fun x y w K k=>mm (by kernel_rfl) Tryz.func307 (by kernel_rfl) ((PA x y w).mono fun v w' ⟨e,e2⟩=>⟨((la x y).1,(la x y).2,()),e,e2 ▸ k⟩)) (a hf.1) (b hf.2) (h.af (f1.trans f2))) ?_;rintro _ w3 ⟨rfl,f3⟩;refine⟨(((eI m d (.mul l r)).1,(eI m d (.mul l r)).2.1,()),(eI m d (.mul l r)).2.2,()),rfl,?_⟩;exact mP ((f1.trans f2).trans f3) (by omega) ((f2.trans f3).af hb) (eI m d (.mul l r))
 | max l r a b=>
  intro hf w F b' m h;unfold cZ at hf;rw[Bool.and_eq_true] at hf;refine c339 _ d _ w _ ?_;unfold C339;refine ak.of fun g w1 hg hb f1 _=>ao.aM rfl (by decide) (ao.aM rfl (by decide) (ao.aM rfl (by decide) (ao.aM rfl (by decide) (ao.hit (l.v,r.v,()) rfl (cM (zs:=[.nilIface,.nilIface]) (vs:=[l.v,r.v]) rfl (by simp[Ob.bW]) fun g4 w2 _ aI f2=>ae.ah (c:=.raw) aI (x:=l.v) rfl (ae.ah (c:=.raw) aI (x:=r.v) rfl ?_))))));refine ab.of (pair l r _ vl (fun x y w K k=>mm (by kernel_rfl) Tryz.func355 (by kernel_rfl) ((ZY x y w).mono fun v w' ⟨e,e2⟩=>⟨((vl x y).1,(vl x y).2,()),e,e2 ▸ k⟩)) (a hf.1) (b hf.2) (h.af (f1.trans f2))) ?_;rintro _ w3 ⟨rfl,f3⟩;refine⟨(((eI m d (.max l r)).1,(eI m d (.max l r)).2.1,()),(eI m d (.max l r)).2.2,()),rfl,?_⟩;exact mP ((f1.trans f2).trans f3) (by omega) ((f2.trans f3).af hb) (eI m d (.max l r))
 | neg o ih=>
  intro hf w F b' m h;refine c339 _ d _ w _ ?_;unfold C339;refine ak.of fun g w1 hg hb f1 _=>ao.aM rfl (by decide) (ao.aM rfl (by decide) (ao.aM rfl (by decide) (ao.aM rfl (by decide) (ao.aM rfl (by decide) (ao.hit (o.v,()) rfl ?_)))));refine ab.of (ih hf (h.af f1)) ?_;rintro _ w2 ⟨rfl,f2⟩;have e:eI m d (.neg o)=Gy (eI m d o):=rfl;rw[e];generalize eI m d o=X;refine⟨((X.1,X.2.1,()),X.2.2,()),rfl,?_⟩;unfold Gy;refine cM (zs:=[.int .i64 0,.bool false]) (vs:=[.int .i64 X.1,.bool X.2.1]) rfl rfl fun g5 w3 xD cY f3=>?_;have F3:=(f1.trans f2).trans f3;have au:=(f2.trans f3).af hb;refine aa.ne (fun ay=>?_) (fun he=>?_)
  ·rw[if_pos (.inl ay)];exact mP F3 (by omega) au (0,false,X.2.2)
  refine ae.ah cY (x:=X.2.1) rfl (aa.not (aa.by (fun hx=>?_) (fun hx=>?_)))
  rotate_left
  ·rw[if_pos (.inr hx)];exact mP F3 (by omega) au (0,false,X.2.2)
  have he:X.2.2=0:=he;have hx:X.2.1=true:=hx;rw[if_neg (by rintro(t | t)<;>simp_all)]
  refine ae.ah cY (x:=X.1) rfl ?_;refine ab.of (ZX X.1 w3) ?_;rintro _ _ ⟨rfl,rfl⟩;generalize(if cI X.1 then(-X.1,true) else((0:Int),false))=Z;refine⟨(Z.1,Z.2,()),rfl,?_⟩;refine ab.of (PC Z.1 Z.2 w3) ?_;rintro _ w4 ⟨rfl,f4⟩;refine⟨(((pg Z).1,(pg Z).2.1,()),(pg Z).2.2,()),rfl,?_⟩;exact mP (F3.trans f4) (by omega) (f4.af au) (pg Z)
theorem Z2 (d:Int)(o:Ob)(hn:bA o<=1000000){w:World}{F:Nat->Prop}{b:Nat}{m:de}(h:ir w F b m):Ret Tryz.prog 322 #[o.v,.int .i64 d,.pointer (some ⟨b,0,none⟩)] w fun r w'=>r=.tuple #[.int .i64 (fp m d o).1,.bool (fp m d o).2.1,.int .i64 (fp m d o).2.2]/\Fr none1 w w':=by
 refine c322 _ d _ w _ ?_;unfold C322 fp;refine ab.of (FA o hn w) ?_;rintro _ w1 ⟨rfl,f1⟩;refine⟨_,rfl,aa.ne (fun ay=>?_) (fun he=>?_)⟩
 ·rw[if_pos ay];exact⟨rfl,f1⟩
 rw[if_neg (fun t=>t he)];have hf:cZ o=true:=by
  unfold uZ at he
  by_cases hf:cZ o=false
  ·rw[if_pos hf] at he;cases he
  ·simpa using hf
 refine ab.of (ZZ d o hf (h.af f1)) ?_;rintro _ w2 ⟨rfl,f2⟩;generalize eI m d o=X;refine⟨((X.1,X.2.1,()),X.2.2,()),rfl,?_⟩;refine cM (zs:=[.int .i64 0,.bool false]) (vs:=[.int .i64 X.1,.bool X.2.1]) rfl rfl fun g5 w3 xD cY f3=>aD.of fun w4 _ f4=>?_;exact ae.ah (f4.af cY) (x:=X.1) rfl (ae.ah (f4.af cY) (x:=X.2.1) rfl ⟨rfl,((f1.trans f2).trans f3).trans f4⟩)
theorem AT {α β:Type}(g:β->α->β)(l:List α)(i:Nat){x:α}(h:l[i]? = some x)(a:β):(l.take (i+1)).foldl g a=g ((l.take i).foldl g a) x:=by
 rw[List.take_add_one,h,List.foldl_append];rfl
theorem Z3 (o:List (List UInt8))(s:List UInt8):(gA o s).length<=o.length+1:=by unfold gA;split<;>simp
theorem rq:∀ (l o:List (List UInt8)),(l.foldl gA o).length<=o.length+l.length
 | [],o=>by simp
 | s::l,o=>by
  have:=rq l (gA o s);have:=Z3 o s;rw[List.foldl_cons,List.length_cons];omega
theorem Z4 (o:Ob)(h:∀ s,o≠.fix s):cx o=(cT o).foldl (fun a k=>(cx k).foldl gA a) []:=by cases o<;>first | rfl | exact absurd rfl (h _)
theorem IC (o:Ob):(cx o).length<=bA o:=by
 induction o with
 | none=>exact Nat.le_refl _
 | const=>exact Nat.zero_le _
 | fix=>exact Nat.le_refl _
 | neg o ih=>have:=rq (cx o) [];simp only[cx,bA];simp only[List.length_nil] at this;omega
 | add l r a b=>have:=rq (cx r) ((cx l).foldl gA []);have:=rq (cx l) [];simp only[cx,bA];simp only[List.length_nil] at this;omega
 | mul l r a b=>have:=rq (cx r) ((cx l).foldl gA []);have:=rq (cx l) [];simp only[cx,bA];simp only[List.length_nil] at this;omega
 | max l r a b=>have:=rq (cx r) ((cx l).foldl gA []);have:=rq (cx l) [];simp only[cx,bA];simp only[List.length_nil] at this;omega
theorem Z5 (o:Ob)(i:Nat):(((cT o).take i).foldl (fun a k=>(cx k).foldl gA a) []).length<=jz (((cT o).take i).map bA):=by
 have h:∀ (l:List Ob) (a:List (List UInt8)) (n:Nat),a.length<=n->(l.foldl (fun a k=>(cx k).foldl gA a) a).length<=(l.map bA).foldl (·+·) n:=by
  intro l
  induction l with
  | nil=>intro a n h;exact h
  | cons k l ih=>
   intro a n h;have:=rq (cx k) a;have:=IC k;refine ih _ _ ?_;show((cx k).foldl gA a).length<=n+bA k;omega
 exact h _ _ _ (Nat.le_refl _)
theorem Ob.Z6 {o:Ob}(h:∀ s,o≠.fix s){K:ByteArray×Unit->Prop}{M:Prop}(m:M):ao o.v 300 (.agg [.str]) K M:=by
 cases o<;>first | exact ao.nil rfl m | exact absurd rfl (h _) | exact ao.aM rfl (by decide) m
theorem PE (o:Ob)(hn:bA o<=1000000)(w:World):Ret Tryz.prog 341 #[o.v] w fun r w'=>∃ u:Sl,r=.slice u.1 u.2.1 u.2.2/\gH w' u (cx o)/\Fr none1 w w'/\∀ k,aw u k->w.heap.size<=k:=by
 refine c341 o.v w _ ?_;have ih:∀ k∈cT o,bA k<=1000000->∀ w,Ret Tryz.prog 341 #[k.v] w fun r w'=>∃ u:Sl,r=.slice u.1 u.2.1 u.2.2/\gH w' u (cx k)/\Fr none1 w w'/\∀ k,aw u k->w.heap.size<=k:=fun k hk hn w=>PE k hn w
 by_cases h2:∃ s,o=.fix s
 ·obtain⟨s,rfl⟩:=h2
  refine ao.hit (str s,()) rfl (cM (zs:=[.string (⟨#[]⟩:ByteArray)]) (vs:=[.string (str s)]) rfl rfl fun g w2 _ hb f2=>ae.ah hb (x:=str s) rfl ?_);obtain⟨u,w3,hr,hu,dk,f3,uf⟩:=lR (P:=Tryz.prog) (w:=w2) wY (sv s) rfl;exact⟨u,w3,hr,u,rfl,hu,f2.trans f3,fun k hk=>by have:=uf k hk;have:=f2.size;omega⟩
 have h2:∀ s,o≠.fix s:=fun s e=>h2 ⟨s,e⟩;refine Ob.Z6 h2 (mC (zs:=[.string (⟨#[]⟩:ByteArray)]) rfl rfl fun w1 f1=>?_);refine ab.of (xa o w1) ?_;rintro _ w2 ⟨u,rfl,hu,f2⟩;refine⟨u,rfl,?_⟩;have dk:=hu.len;have zm:=B3 o;rw[Z4 o h2];refine bC.of (fun s w'=>∃ i:Nat,s.2.1=i/\i<=(cT o).length/\gH w' s.1 (((cT o).take i).foldl (fun a k=>(cx k).foldl gA a) [])/\Fr none1 w w'/\lU w' u (cT o)/\(∀ k,aw s.1 k->w.heap.size<=k/\¬ aw u k)) (fun s _=>(2 - s.2.1).toNat)
  ⟨0,rfl,Nat.zero_le _,zr _,f1.trans f2,hu,fun k t=>(kz k t).elim⟩ ?_
 rintro _ ⟨v,i',_⟩ w3 ⟨i,hi,jf,hv,f3,kT,vf⟩;dsimp only at hi hv vf ⊢;subst hi;refine aa.dec (fun aU=>?_) (fun eu=>?_)
 rotate_left
 ·have:i=(cT o).length:=by omega
  subst this;rw[List.take_length] at hv;exact⟨v,rfl,hv,f3,fun k hk=>(vf k hk).1⟩
 have fI:i<(cT o).length:=by omega
 obtain⟨k,hk⟩:∃ k,(cT o)[i]? = some k:=⟨_,List.getElem?_eq_getElem fI⟩;have oe:=List.mem_of_getElem? hk;have og:jz (((cT o).take (i+1)).map bA)<=bA o:=by
  have hZ:od o=false:=by cases o<;>first | rfl | (simp[cT] at fI)
  have:=Lp o hZ;rw[List.map_take];have:=wZ ((cT o).map bA) (i+1);omega
 rw[rT _ _ _ hk,u6] at og;have hA:=Z5 o i;have acO:=IC k;refine kT.ld hk ?_;refine ab.of (ih k oe (by omega) w3) ?_;rintro _ w4 ⟨x,rfl,hx,f4,xf⟩;refine⟨x,rfl,?_⟩;have kW:=hx.len;generalize Z7:((cT o).take i).foldl (fun a k=>(cx k).foldl gA a) []=A at hv hA;have ult:∀ b,aw u b->b<w3.heap.size:=fun b hb=>aF.lt kT hb;refine bC.of (fun s w'=>∃ j:Nat,s.2.1=j/\j<=(cx k).length/\gH w' s.1 (((cx k).take j).foldl gA A)/\Fr none1 w w'/\lU w' u (cT o)/\gH w' x (cx k)/\(∀ b,aw s.1 b->w.heap.size<=b/\¬ aw u b/\¬ aw x b)) (fun s _=>(x.2.1 - s.2.1).toNat)
  ⟨0,rfl,Nat.zero_le _,hv.af f4,f3.trans f4,kT.af f4,hx,fun b hb=>⟨(vf b hb).1,(vf b hb).2,fun t=>by have:=xf b t;have:=aF.lt hv hb;omega⟩⟩ ?_
 rintro _ ⟨v5,j',_⟩ w5 ⟨j,hj,C0,jO,f5,nr,rr,mQ⟩;dsimp only at hj jO mQ ⊢;subst hj;have hB:=rq ((cx k).take j) A;rw[List.length_take] at hB;refine aa.dec (fun oD=>?_) (fun Z8=>?_)
 rotate_left
 ·have:j=(cx k).length:=by omega
  subst this;rw[List.take_length] at jO;exact⟨⟨i+1,by rw[wI (by omega) (by omega)];omega,by omega,by rw[AT _ _ _ hk,Z7];exact jO,f5,nr,fun b hb=>⟨(mQ b hb).1,(mQ b hb).2.1⟩⟩,by rw[wI (by omega) (by omega)];omega⟩
 have jX:j<(cx k).length:=by omega
 obtain⟨s,hs⟩:∃ s,(cx k)[j]? = some s:=⟨_,List.getElem?_eq_getElem jX⟩;refine rr.ld hs ?_;refine ab.of (LG (aF.rd jO) (by omega) s) ?_;rintro _ _ ⟨rfl,rfl⟩;have ID:=jO.len;refine⟨_,rfl,aa.not (aa.dec (fun hm=>?_) (fun hm=>?_))⟩
 ·refine⟨⟨j+1,by rw[wI (by omega) (by omega)];omega,by omega,?_,f5,nr,rr,mQ⟩,by rw[wI (by omega) (by omega)];omega⟩
  rw[AT _ _ _ hs,gA,if_pos hm];exact jO
 ·refine EP wY 51 jO (sv s) rfl rfl (by rw[ID];omega) fun y w6 hy iH f6 yf=>?_
  have Z9:∀ b,w5.heap.size<=b->w.heap.size<=b/\¬ aw u b/\¬ aw x b:=fun b hb=>⟨by have:=f5.size;omega,fun t=>by have:=aF.lt nr t;omega,fun t=>by have:=aF.lt rr t;omega⟩;refine⟨⟨j+1,by rw[wI (by omega) (by omega)];omega,by omega,?_,f5.comp f6 (fun b _ t=>by have:=(mQ b t).1;omega),aF.ag nr f6 (fun b hb t=>(mQ b t).2.1 hb),aF.ag rr f6 (fun b hb t=>(mQ b t).2.2 hb),fun b hb=>?_⟩,by rw[wI (by omega) (by omega)];omega⟩
  ·rw[AT _ _ _ hs,gA,if_neg hm]
   unfold gH;rw[List.map_append];exact hy
  ·rcases yf b hb with t | t
   ·exact mQ b t
   ·exact Z9 b t
termination_by SizeOf.sizeOf o
decreasing_by exact B1 hk
theorem aaa (d:Int)(o:Ob)(hn:bA o<=1000000){w:World}{F:Nat->Prop}{b:Nat}{m:de}(h:ir w F b m):Ret Tryz.prog 324 #[o.v,.int .i64 d,.pointer (some ⟨b,0,none⟩)] w fun r w'=>∃ u:Sl,r=.slice u.1 u.2.1 u.2.2/\gH w' u (nB m d o)/\Fr none1 w w'/\∀ k,aw u k->w.heap.size<=k:=by
 refine c324 o.v d _ w _ ?_;unfold C324 nB;refine ab.of (FA o hn w) ?_;rintro _ w1 ⟨rfl,f1⟩;refine⟨_,rfl,aa.ne (fun ay=>?_) (fun he=>?_)⟩
 ·rw[if_pos ay];exact⟨(none,0,0),rfl,zr _,f1,fun k t=>(kz k t).elim⟩
 rw[if_neg (fun t=>t he)];refine ab.of (PE o hn w1) ?_;rintro _ w2 ⟨x,rfl,hx,f2,xf⟩;refine⟨x,rfl,?_⟩;have kW:=hx.len;have hol:=IC o;refine bC.of (fun s w'=>∃ j:Nat,s.2.1=j/\j<=(cx o).length/\gH w' s.1 (((cx o).take j).filter fun s=>(bq (s,d) m.fx).isNone)/\Fr none1 w w'/\gH w' x (cx o)/\(∀ b,aw s.1 b->w.heap.size<=b/\¬ aw x b)) (fun s _=>(x.2.1 - s.2.1).toNat)
  ⟨0,rfl,Nat.zero_le _,zr _,f1.trans f2,hx,fun k t=>(kz k t).elim⟩ ?_
 rintro _ ⟨v5,j',_⟩ w5 ⟨j,hj,C0,jO,f5,rr,mQ⟩;dsimp only at hj jO mQ ⊢;subst hj;have hB:=List.length_filter_le (fun s=>(bq (s,d) m.fx).isNone) ((cx o).take j);rw[List.length_take] at hB;have ID:=jO.len;refine aa.dec (fun oD=>?_) (fun Z8=>?_)
 rotate_left
 ·have:j=(cx o).length:=by omega
  subst this;rw[List.take_length] at jO;exact⟨v5,rfl,jO,f5,fun b hb=>(mQ b hb).1⟩
 have jX:j<(cx o).length:=by omega
 obtain⟨s,hs⟩:∃ s,(cx o)[j]? = some s:=⟨_,List.getElem?_eq_getElem jX⟩;refine rr.ld hs ?_;refine ab.of (Pu (h.af f5) s d) ?_;rintro _ _ ⟨rfl,rfl⟩;refine⟨((bq (s,d) m.fx).getD 0,(bq (s,d) m.fx).isSome,()),rfl,aa.not (aa.by (fun hm=>?_) (fun hm=>?_))⟩
 ·refine⟨⟨j+1,by rw[wI (by omega) (by omega)];omega,by omega,?_,f5,rr,mQ⟩,by rw[wI (by omega) (by omega)];omega⟩
  have hm:(bq (s,d) m.fx).isSome=true:=hm;rw[List.take_add_one,hs,List.filter_append];have:([s].filter fun s=>(bq (s,d) m.fx).isNone)=[]:=by
   cases hg:bq (s,d) m.fx with
   | none=>rw[hg] at hm;cases hm
   | some x=>simp[hg]
  simp only[Option.toList_some,this,List.append_nil];exact jO
 ·have hm:(bq (s,d) m.fx).isSome=false:=hm
  refine EP wY 51 jO (sv s) rfl rfl (by rw[ID];omega) fun y w6 hy iH f6 yf=>?_;refine⟨⟨j+1,by rw[wI (by omega) (by omega)];omega,by omega,?_,f5.comp f6 (fun b _ t=>by have:=(mQ b t).1;omega),aF.ag rr f6 (fun b hb t=>(mQ b t).2 hb),fun b hb=>?_⟩,by rw[wI (by omega) (by omega)];omega⟩
  ·have:([s].filter fun s=>(bq (s,d) m.fx).isNone)=[s]:=by
    cases hg:bq (s,d) m.fx with
    | none=>simp[hg]
    | some x=>rw[hg] at hm;cases hm
   rw[List.take_add_one,hs,List.filter_append];simp only[Option.toList_some,this];unfold gH;rw[List.map_append];exact hy
  ·rcases yf b hb with t | t
   ·exact mQ b t
   ·exact⟨by have:=f5.size;omega,fun q=>by have:=aF.lt rr q;omega⟩
end Go.Proofs.YtmkehncgjnhhcaaGreatDoor
