/-
  Texts of this claim, put together: JPut, JForms, JOpen, JPlain, JOpen2, NodeF, LedLaw, AgreeLaw, FrameSpec2, FrameSpec3, NodeLaw0, NodeLaw, NodeLaw2, VcPv, CWorldG, WorldSpec, CCentsG, CValueG, ValueSpec, CCashG.
  Conditions: those of each theorem.
-/
import Derived.Test.YtmkehncgjnhhcaaGreatDoorQNF22x0
import Derived.Test.YtmkehncgjnhhcaaGreatDoorQNF22x1
import Derived.Test.YtmkehncgjnhhcaaGreatDoorQNF22x2
import Derived.Test.YtmkehncgjnhhcaaGreatDoorQNF22x3
import Derived.KernelRfl
import Derived.Laws.StructEq
import Derived.Test.YtmkehncgjnhhcaaGreatDoorProg
set_option linter.unusedVariables false
namespace Go.Proofs.YtmkehncgjnhhcaaGreatDoor
open Vc
def iw (s:cp)(d:Bool)(x:List UInt8):cp×Bool×Int×Bool:=
 if d||s.dead then(s,true,11,false) else if(x.length:Int) > 4000 then(s,false,5,false) else
 if(fo s (dE x)).2≠0 then((fo s (dE x)).1,(fo s (dE x)).2==11,(fo s (dE x)).2,false) else
 if(iJ (fo s (dE x)).1).2≠0 then((iJ (fo s (dE x)).1).1,(iJ (fo s (dE x)).1).2==11,(iJ (fo s (dE x)).1).2,false) else
 ((iJ (fo s (dE x)).1).1,false,0,true)
def XA (i j l:Nat)(W0 W1:World)(Q:World->Prop):(Nat->Bool)->World->Prop:=fun D w=>
 (D i=false->w=W0)/\(D i=true->D j=false->w=W1)/\(D j=true->D i=true/\D l=true/\Q w)
def XB (W0 W1 W2 W3:World)(Q:World->Prop):(Nat->Bool)->World->Prop:=fun D w=>
 (D 6=false->w=W0)/\(D 6=true->D 7=false->w=W1)/\(D 7=true->D 6=true)/\(D 7=true->D 8=false->w=W2)/\(D 8=true->D 7=true/\D 4=true)/\(D 8=true->D 11=false->w=W3)/\(D 11=true->D 8=true/\Q w)
theorem iK.flag {w:World}{S:Nat->Prop}{p b g:Nat}{s:cp}{d:Bool}{rs:List (List UInt8)}(h:iK w S p b g s d rs)(e:Bool){K:World->Prop}(k:∀ w1,Fr (only p) w w1->iK w1 S p b g s e rs->K w1):aA ((⟨p,0,none⟩:Addr).add 2) (.bool e) w K:=by
 obtain⟨a,⟨jl,b1,b2⟩,c,o⟩:=h;refine aA.ah b1 (by simp) rfl fun w1 au f1 _=>k w1 f1 ?_;exact⟨a.ag f1 (fun t=>c.1 (Eq.symm t)) (fun t=>c.2 (Eq.symm t)),⟨jl,au,b2.ag f1 (fun k U t=>(o k U).1 t)⟩,c,o⟩
theorem NI {w:World}{S:Nat->Prop}{p b g:Nat}{s:cp}{d:Bool}{rs:List (List UInt8)}{v:Sl}{x:List UInt8}(h:iK w S p b g s d rs)(hv:aZ w v x)(Hi:∀ k,aw v k->k<w.heap.size/\k≠p/\k≠b/\¬ S k)(hl:rs.length<=1000000):
  Ret Tryz.prog 44 #[.pointer (some ⟨p,0,none⟩),.slice v.1 v.2.1 v.2.2] w fun r w'=>r=.int .i64 (iw s d x).2.2.1/\NH w S p b g (iw s d x).1 (iw s d x).2.1 (if(iw s d x).2.2.2 then rs++[x] else rs) w':=by
 have cM:=hv.len;have xJ:∀ w w',Fr (only p) w w'->Fr (tR S p b) w w':=fun w w' f=>f.mono fun k _ t=>.inl t;have bin:∀ w w',Fr (only b) w w'->Fr (tR S p b) w w':=fun w w' f=>f.mono fun k _ t=>.inr (.inl t);refine c44 _ v.1 v.2.1 v.2.2 w _ ?_;unfold C44;refine cq.of (fun _ w1=>Fr (only p) w w1/\iK w1 S p b g s (d||s.dead) rs) ?_ ?_
 ·have h0:=h
  obtain⟨hf,⟨jl,hp,_⟩,_⟩:=h0;refine ae.ah hp rfl ?_;refine aa.by (fun hd=>?_) (fun hd=>?_)
  ·refine h.flag true fun w1 f1 h1=>⟨f1,?_⟩
   rw[hd];exact h1
  ·refine ae.ah hp (x:=some ⟨b,0,none⟩) rfl ?_
   refine ab.of (Ns hf) ?_;rintro _ _ ⟨rfl,rfl⟩;refine⟨_,rfl,?_⟩;refine h.flag s.dead fun w1 f1 h1=>⟨f1,?_⟩;rw[hd,Bool.false_or];exact h1
 rintro _ _ w1 ⟨f1,h1⟩;have ou:=h1;obtain⟨wX,⟨jl,CJ,hj1⟩,ay,Hk⟩:=h1;have acd:=ou.Ai;have ace:=ou.slt;have tv:aZ w1 v x:=hv.ag f1 (fun k U t=>(Hi k U).2.1 t);have acf:=f1.size;refine ae.ah CJ rfl ?_;unfold iw;refine aa.by (fun hd=>?_) (fun hd=>?_)
 ·rw[if_pos hd]
  rw[hd] at ou;exact⟨rfl,xJ _ _ f1,S,g,fun k U=>.inl U,.inr (.inl rfl),ou⟩
 rw[if_neg (by rw[hd];simp)];rw[hd] at ou;refine aa.dec (fun hq=>?_) (fun hq=>?_)
 ·rw[if_pos (by rw[<- cM];exact hq)]
  exact⟨rfl,xJ _ _ f1,S,g,fun k U=>.inl U,.inr (.inl rfl),ou⟩
 rw[if_neg (by rw[<- cM];exact hq)];have kN:x.length<=4000:=by omega
 -- pack, and append
 have r0:=wo w1;generalize Hl:({ w1 with drawn:=w1.drawn+1 }:World)=W0 at r0
 obtain⟨u,W1,dO,hu,q1,pg⟩:=Xu (tv.af r0) kN;have NJ:=(ou.af r0).af q1;have NK:=r0.af CJ;have XC:=q1.af NK;have e1:w1.heap.size<=W0.heap.size:=r0.size;have e2:W0.heap.size<=W1.heap.size:=q1.size;refine⟨⟨XA 5 6 3 W0 W1 (lA W1 b g (fo s (dE x)).1),⟨fun _=>Hl,(fun t=>by cases t),(fun t=>by cases t)⟩,?_⟩⟩;refine⟨some ⟨b,0,none⟩,fun D w5 hD _ hC=>?_,?_⟩
 ·obtain⟨k1,k2,k3⟩:=hC
  have h6:D 6=false:=by
   cases XD:D 6 with
   | false=>rfl
   | true=>have:=(k3 XD).2.1;rw[hD] at this;cases this
  have Aj:∃ jl:Sl,w5.heap[p]? = some (.cells #[.pointer (some ⟨b,0,none⟩),.slice jl.1 jl.2.1 jl.2.2,.bool (d||s.dead)] 181 (0,0)):=by
   cases h5:D 5 with
   | false=>rw[k1 h5];exact⟨jl,NK⟩
   | true=>rw[k2 h5 h6];exact⟨jl,XC⟩
  obtain⟨_,Aj⟩:=Aj;refine ae.ah Aj (x:=some ⟨b,0,none⟩) rfl ⟨rfl,fun t=>?_,fun t t'=>?_,fun t=>?_⟩
  ·rw[fp _ (by decide)] at t;exact k1 t
  ·rw[fp _ (by decide)] at t t';exact k2 t t'
  ·rw[fp _ (by decide)] at t;rw[h6] at t;cases t
 refine⟨u,fun D w5 hD _ hC=>?_,?_⟩
 ·obtain⟨k1,k2,k3⟩:=hC
  obtain rfl:=k1 hD;refine ab.of dO ?_;rintro _ _ ⟨rfl,rfl⟩;refine⟨u,rfl,rfl,fun t=>?_,fun _ _=>rfl,fun t=>?_⟩
  ·rw[tO] at t;cases t
  ·rw[fp _ (by decide)] at t;have:=(k3 t).1;rw[hD] at this;cases this
 refine⟨(fo s (dE x)).2,fun D w5 hD hp hC=>?_,?_⟩
 ·obtain⟨k1,k2,k3⟩:=hC
  have h5:=hp 5 (by simp);have h3:=hp 3 (by simp);obtain rfl:=k2 h5 hD;refine ab.of (WB NJ.file hu.rd (fun t=>by have:=pg b t;have:=ou.file.lt;omega)) ?_;rintro _ w6 ⟨rfl,f6⟩;refine⟨_,rfl,rfl,fun t=>?_,fun _ t=>?_,fun _=>⟨?_,?_,f6⟩⟩
  ·rw[fp _ (by decide),h5] at t;cases t
  ·rw[tO] at t;cases t
  ·rw[fp _ (by decide),h5]
  ·rw[fp _ (by decide),h3]
 intro w2 hC;obtain⟨_,_,t2⟩:=hC.2.2 rfl;have NL:Fr (tR S p b) w W1:=((xJ _ _ f1).dh r0).dh q1;have f12:=t2.1;have uA:aZ w2 v x:=((tv.af r0).af q1).ag f12 (fun k U t=>(Hi k U).2.2.1 t);obtain⟨g2,mz,h2⟩:=NJ.Hh t2;have Hm:Fr (tR S p b) w w2:=NL.trans (bin _ _ f12);have NM:g2=b\/g2=g\/w.heap.size<=g2:=mz.imp id (Or.imp id (Nat.le_trans NL.size));clear hC t2;generalize(fo s (dE x))=A at *;obtain⟨s1,ea⟩:=A;dsimp only at *;refine aa.eq (fun he=>?_) (fun he=>?_)
 ·subst he
  rw[if_neg (by simp)];have XE:=h2;obtain⟨pG,⟨jl2,sy,jN⟩,Hn,acg⟩:=h2;refine ae.ah sy (x:=some ⟨b,0,none⟩) rfl ?_;refine ab.of (WE pG) ?_;rintro _ w3 ⟨rfl,t3⟩;refine⟨_,rfl,?_⟩;have f23:=t3.1;have qN:aZ w3 v x:=uA.ag f23 (fun k U t=>(Hi k U).2.2.1 t);obtain⟨g3,qe,h3⟩:=XE.Hh t3;have Ho:Fr (tR S p b) w w3:=Hm.trans (bin _ _ f23);have NN:g3=b\/g3=g\/w.heap.size<=g3:=by
   rcases qe with t | t | t
   ·exact .inl t
   ·rw[t];exact NM
   ·exact .inr (.inr (Nat.le_trans Hm.size t))
  clear t3;generalize(iJ s1)=B at *;obtain⟨s2,eb⟩:=B;dsimp only at *;refine aa.ne (fun hb=>?_) (fun hb=>?_)
  ·rw[if_pos hb]
   refine h3.flag (eb==11) fun w4 f4 h4=>⟨rfl,Ho.trans (xJ _ _ f4),S,g3,fun k U=>.inl U,NN,h4⟩
  ·subst hb
   rw[if_neg (by simp)];have XF:=h3;obtain⟨ql,⟨xK,Hr,ph⟩,Hs,CK⟩:=h3;have s0:=wo w3;generalize XG:({ w3 with drawn:=w3.drawn+1 }:World)=V0 at s0
   obtain⟨c,V1,oa,Ah,m1,NO⟩:=ND (qN.af s0) (by omega);have XH:=(ph.af s0).af m1;have hsz0:w3.heap.size<=V0.heap.size:=s0.size;have XI:=ph.lt;obtain⟨y,V2,z,V3,hy,m2,hz,m3,S',nA,XJ⟩:=XH.snoc Ah.rd Ah.cap (fun k U=>⟨aF.lt Ah U,fun t=>by have:=XI k t;have:=NO k U;omega⟩) hl;have NP:=s0.af Hr;have Ht:=m1.af NP;have XK:=m2.af Ht;have Hw:¬ aw xK p:=fun t=>(CK p (ph.own p t)).1 rfl;have XL:=m3.ag Ht Hw;have XM:Fr (tR S p b) w3 V3:=((s0.trans m1).mono fun _ _ t=>t.elim).trans (m3.mono fun k _ t=>.inr (.inr (ph.own k t)));have XN:ie V3 b g3 s2:=((ql.af s0).af m1).ag m3 (fun t=>(CK b (ph.own b t)).2.1 rfl) (fun t=>(CK g3 (ph.own g3 t)).2.2 rfl);have ach:=XF.Ai;have aci:=ql.lt;have acj:=ql.pc;have KL:=m1.size;have Ak:∀ k,S' k->S k\/w3.heap.size<=k:=fun k U=>by
    rcases nA k U with t | t | t
    ·exact .inl t
    ·have:=NO k t;exact .inr (by omega)
    ·exact .inr (by omega)
   have NQ:∀ k,S' k->k≠p/\k≠b/\k≠g3:=fun k U=>by
    rcases Ak k U with t | t
    ·exact CK k t
    ·omega
   refine⟨⟨XB V0 V1 V2 V3 (fun w9=>Fr (only p) V3 w9/\w9.heap[p]? = some (.cells #[.pointer (some ⟨b,0,none⟩),.slice z.1 z.2.1 z.2.2,.bool false] 181 (0,0))),⟨fun _=>XG,(fun t=>by cases t),(fun t=>by cases t),(fun t=>by cases t),(fun t=>by cases t),(fun t=>by cases t),(fun t=>by cases t)⟩,?_⟩⟩;refine⟨xK,fun D w5 hD _ hC=>?_,?_⟩
   ·obtain⟨k1,k2,k3,k4,k5,k6,k7⟩:=hC
    have h8:D 8=false:=by
     cases hd:D 8 with
     | false=>rfl
     | true=>have:=(k5 hd).2;rw[hD] at this;cases this
    have ov:D 11=false:=by
     cases hd:D 11 with
     | false=>rfl
     | true=>have:=(k7 hd).1;rw[h8] at this;cases this
    have Aj:w5.heap[p]? = some (.cells #[.pointer (some ⟨b,0,none⟩),.slice xK.1 xK.2.1 xK.2.2,.bool (d||s.dead)] 181 (0,0)):=by
     rw[hd];cases h6:D 6 with
     | false=>rw[k1 h6];exact NP
     | true=>
      cases h7:D 7 with
      | false=>rw[k2 h6 h7];exact Ht
      | true=>rw[k4 h7 h8];exact XK
    refine ae.ah Aj (x:=xK) rfl ⟨rfl,fun t=>?_,fun t t'=>?_,fun t=>?_,fun t t'=>?_,fun t=>?_,fun t=>?_,fun t=>?_⟩
    ·rw[fp _ (by decide)] at t;exact k1 t
    ·rw[fp _ (by decide)] at t t';exact k2 t t'
    ·rw[fp _ (by decide)] at t ⊢;exact k3 t
    ·rw[fp _ (by decide)] at t t';exact k4 t t'
    ·rw[fp _ (by decide)] at t;rw[h8] at t;cases t
    ·rw[fp _ (by decide)] at t;rw[h8] at t;cases t
    ·rw[fp _ (by decide)] at t;rw[ov] at t;cases t
   refine⟨c,fun D w5 hD _ hC=>?_,?_⟩
   ·obtain⟨k1,k2,k3,k4,k5,k6,k7⟩:=hC
    have h7:D 7=false:=by
     cases hd:D 7 with
     | false=>rfl
     | true=>have:=k3 hd;rw[hD] at this;cases this
    have h8:D 8=false:=by
     cases hd:D 8 with
     | false=>rfl
     | true=>have:=(k5 hd).1;rw[h7] at this;cases this
    have ov:D 11=false:=by
     cases hd:D 11 with
     | false=>rfl
     | true=>have:=(k7 hd).1;rw[h8] at this;cases this
    obtain rfl:=k1 hD;refine ab.of oa ?_;rintro _ _ ⟨rfl,rfl⟩;refine⟨c,rfl,rfl,fun t=>?_,fun _ _=>rfl,fun _=>tO _ _,fun t=>?_,fun t=>?_,fun t=>?_,fun t=>?_⟩
    ·rw[tO] at t;cases t
    ·rw[fp _ (by decide)] at t;rw[h7] at t;cases t
    ·rw[fp _ (by decide)] at t;rw[h8] at t;cases t
    ·rw[fp _ (by decide)] at t;rw[h8] at t;cases t
    ·rw[fp _ (by decide)] at t;rw[ov] at t;cases t
   refine⟨y,fun D w5 hD hp hC=>?_,?_⟩
   ·obtain⟨k1,k2,k3,k4,k5,k6,k7⟩:=hC
    have h6:=hp 6 (by simp);have h8:D 8=false:=by
     cases hd:D 8 with
     | false=>rfl
     | true=>have:=(k5 hd).1;rw[hD] at this;cases this
    have ov:D 11=false:=by
     cases hd:D 11 with
     | false=>rfl
     | true=>have:=(k7 hd).1;rw[h8] at this;cases this
    obtain rfl:=k2 h6 hD;refine⟨y,V2,hy,rfl,fun t=>?_,fun _ t=>?_,fun _=>?_,fun _ _=>rfl,fun t=>?_,fun t=>?_,fun t=>?_⟩
    ·rw[fp _ (by decide),h6] at t;cases t
    ·rw[tO] at t;cases t
    ·rw[fp _ (by decide),h6]
    ·rw[fp _ (by decide)] at t;rw[h8] at t;cases t
    ·rw[fp _ (by decide)] at t;rw[h8] at t;cases t
    ·rw[fp _ (by decide)] at t;rw[ov] at t;cases t
   refine⟨z,fun D w5 hD hp hC=>?_,?_⟩
   ·obtain⟨k1,k2,k3,k4,k5,k6,k7⟩:=hC
    have h4:=hp 4 (by simp);have h6:=hp 6 (by simp);have h7:=hp 7 (by simp);have ov:D 11=false:=by
     cases hd:D 11 with
     | false=>rfl
     | true=>have:=(k7 hd).1;rw[hD] at this;cases this
    obtain rfl:=k4 h7 hD;refine⟨z,V3,hz,rfl,fun t=>?_,fun _ t=>?_,fun _=>?_,fun _ t=>?_,fun _=>⟨?_,?_⟩,fun _ _=>rfl,fun t=>?_⟩
    ·rw[fp _ (by decide),h6] at t;cases t
    ·rw[fp _ (by decide),h7] at t;cases t
    ·rw[fp _ (by decide),h6]
    ·rw[tO] at t;cases t
    ·rw[fp _ (by decide),h7]
    ·rw[fp _ (by decide),h4]
    ·rw[fp _ (by decide)] at t;rw[ov] at t;cases t
   refine⟨(),fun D w5 hD hp hC=>?_,?_⟩
   ·obtain⟨k1,k2,k3,k4,k5,k6,k7⟩:=hC
    have h4:=hp 4 (by simp);have h6:=hp 6 (by simp);have h7:=hp 7 (by simp);have h8:=hp 8 (by simp);obtain rfl:=k6 h8 hD;refine aA.ah XL (by simp) rfl fun w9 Hx f9 _=>⟨rfl,fun t=>?_,fun _ t=>?_,fun _=>?_,fun _ t=>?_,fun _=>⟨?_,?_⟩,fun _ t=>?_,fun _=>⟨?_,f9,?_⟩⟩
    ·rw[fp _ (by decide),h6] at t;cases t
    ·rw[fp _ (by decide),h7] at t;cases t
    ·rw[fp _ (by decide),h6]
    ·rw[fp _ (by decide),h8] at t;cases t
    ·rw[fp _ (by decide),h7]
    ·rw[fp _ (by decide),h4]
    ·rw[tO] at t;cases t
    ·rw[fp _ (by decide),h8]
    ·exact Hx
   intro w9 hC;obtain⟨_,f9,Hx⟩:=hC.2.2.2.2.2.2 rfl;refine⟨rfl,(Ho.trans XM).trans (xJ _ _ f9),S',g3,fun k U=>(Ak k U).imp id (Nat.le_trans Ho.size),NN,XN.ag f9 (fun t=>Hs.1 (Eq.symm t)) (fun t=>Hs.2 (Eq.symm t)),⟨z,Hx,XJ.ag f9 (fun k U t=>(NQ k U).1 t)⟩,Hs,NQ⟩
 ·refine aa.ne (fun hb=>?_) (fun hb=>absurd hb he)
  rw[if_pos hb];exact h2.flag (ea==11) fun w4 f4 h4=>⟨rfl,Hm.trans (xJ _ _ f4),S,g2,fun k U=>.inl U,NM,h4⟩
theorem XO {s:cp}{x:List UInt8}(hl:s.lit=false)(hd:s.dead=false)(hx:x.length<=4000)(h:(x.length:Int)+3<=s.cF - s.b.length):
  (iw s false x).2.2.1=0/\(iw s false x).2.2.2=true/\(iw s false x).2.1=false/\(iw s false x).1.b=s.b++dE x/\(iw s false x).1.cF=s.cF/\(iw s false x).1.synced=(s.b++dE x).length/\(iw s false x).1.lit=false/\(iw s false x).1.dead=false:=by
 obtain⟨a1,a2,a3,a4,a5,a6⟩:=WZ (s:=s) (x:=dE x) hl hd (by rw[xI];omega);obtain⟨b1,b2,b3,b4,b5,b6⟩:=W5 a5 a6;unfold iw;rw[hd,if_neg (by simp),if_neg (by omega),if_neg (by rw[a1];simp),if_neg (by rw[b1];simp)];exact⟨rfl,rfl,rfl,b2.trans a2,b3.trans a3,by rw[b4,a2],b5,b6⟩
theorem XP {s:cp}{x:List UInt8}(hd:s.dead=false)(hx:x.length<=4000)(h:(x.length:Int)+3 > s.cF - s.b.length):iw s false x=(s,false,10,false):=by
 unfold iw;rw[W4 (s:=s) (x:=dE x) hd (by rw[xI];omega),hd,if_neg (by simp),if_neg (by omega),if_pos (by simp)];rfl
theorem aZ.cellAt {w:World}{v:Sl}{bs:List UInt8}(h:aZ w v bs){i:Int}(h0:0<=i)(h1:i<v.2.1):∃ a,v.1=some a/\∀ w',Fr none1 w w'->w'.cell? (a.add (i.toNat * 1))=some (.int .u8 ((bs.getD i.toNat 0).toNat:Int)):=by
 have hl:=h.len;obtain⟨q1,q2,q3⟩:=h;cases hv:v.1 with
 | none=>have:=(q2 hv).1;omega
 | some a=>
  refine⟨a,rfl,fun w' f=>f.cell0 ?_⟩;have:=wm (bs.map bc) 0 i.toNat (bc (bs.getD i.toNat 0)) (q3 a hv) (by
   rw[List.getElem?_map,List.getElem?_eq_getElem (by omega),List.getD_eq_getElem?_getD,List.getElem?_eq_getElem (by omega)];rfl)
  rw[Nat.zero_add] at this;rw[Nat.mul_one];exact this
def qn (bs:List UInt8):Nat:=256 * (bs.getD 0 0).toNat+(bs.getD 1 0).toNat
def qo (bs:List UInt8):Option (List UInt8×List UInt8):=
 if bs.length<2 then none else if 4000<qn bs then none else if bs.length<qn bs+3 then none else
 if bs.getD (2+qn bs) 0≠tQ 150 (bs.take (2+qn bs)) then none else some ((bs.drop 2).take (qn bs),bs.drop (qn bs+3))
theorem XQ (a b:UInt8):((BitVec.ofInt 64 ((a.toNat:Int) * 256) ||| BitVec.ofInt 64 (b.toNat:Int)).toNat:Int)=256 * (a.toNat:Int)+(b.toNat:Int):=by
 have ha:=UInt8.toNat_lt a;have hb:=UInt8.toNat_lt b;have e1:(BitVec.ofInt 64 ((a.toNat:Int) * 256)).toNat=2 ^ 8 * a.toNat:=by
  rw[show(a.toNat:Int) * 256=((2 ^ 8 * a.toNat:Nat):Int) by omega,BitVec.ofInt_natCast,BitVec.toNat_ofNat,Nat.mod_eq_of_lt (by omega)]
 have e2:(BitVec.ofInt 64 (b.toNat:Int)).toNat=b.toNat:=by
  rw[BitVec.ofInt_natCast,BitVec.toNat_ofNat,Nat.mod_eq_of_lt (by omega)]
 rw[BitVec.toNat_or,e1,e2,<- Nat.two_pow_add_eq_or_of_lt (by omega)];omega
def NR (w:World)(v:Sl)(bs:List UInt8)(r:Value)(w':World):Prop:=
 Fr none1 w w'/\match qo bs with
 | none=>r=.tuple #[.slice none 0 0,.slice v.1 v.2.1 v.2.2,.bool false]
 | some (x,t)=>∃ u q:Sl,r=.tuple #[.slice u.1 u.2.1 u.2.2,.slice q.1 q.2.1 q.2.2,.bool true]/\cg w' u x/\(∀ k,aw u k->w.heap.size<=k)/\aZ w' q t/\q.2.1<=q.2.2/\∀ k,aw q k->aw v k
theorem XR {w:World}{v:Sl}{bs:List UInt8}(h:aZ w v bs)(hc:v.2.1<=v.2.2)(hl:bs.length<=1000000):Ret Tryz.prog 87 #[.slice v.1 v.2.1 v.2.2] w (NR w v bs):=by
 have cM:=h.len;refine c87 v.1 v.2.1 v.2.2 w _ ?_;unfold C87 NR qo;refine aa.dec (fun h2=>?_) (fun h2=>?_)
 ·rw[if_pos (by omega)];exact⟨Fr.refl _ _,rfl⟩
 rw[if_neg (by omega)];obtain⟨a0,XS,XT⟩:=h.cellAt (i:=0) (by omega) (by omega);obtain⟨a1,XU,XV⟩:=h.cellAt (i:=1) (by omega) (by omega);have b0:=UInt8.toNat_lt (bs.getD 0 0);have b1:=UInt8.toNat_lt (bs.getD 1 0);refine oE.nr ?_;refine⟨a0,XS,by omega,by omega,?_⟩;refine fZ.nr ((bs.getD 0 0).toNat:Int) (fun w7 f7=>ae.cell (XT w7 f7) ⟨rfl,f7⟩) ?_;refine fZ.nr (IntKind.i64.wrap ((bs.getD 0 0).toNat:Int)) (fun w7 f7=>⟨rfl,f7⟩) ?_;refine⟨by omega,a1,XU,by omega,by omega,?_⟩;refine fZ.nr ((bs.getD 1 0).toNat:Int) (fun w7 f7=>ae.cell (XV w7 f7) ⟨rfl,f7⟩) ?_;refine fZ.nr (IntKind.i64.wrap ((bs.getD 1 0).toNat:Int)) (fun w7 f7=>⟨rfl,f7⟩) ?_;intro w1 f1;have f1:Fr none1 w w1:=f1;have XW:IntKind.i64.wrap ((BitVec.ofInt 64 (IntKind.i64.wrap (IntKind.i64.wrap ((bs.getD 0 0).toNat:Int) * 2 ^ (min (Int.toNat 8) 64))) ||| BitVec.ofInt 64 (IntKind.i64.wrap ((bs.getD 1 0).toNat:Int))).toNat:Int)=(qn bs:Int):=by
  rw[wI (x:=((bs.getD 0 0).toNat:Int)) (by omega) (by omega),wI (x:=((bs.getD 1 0).toNat:Int)) (by omega) (by omega),show(2:Int) ^ (min (Int.toNat 8) 64)=256 from rfl,wI (x:=((bs.getD 0 0).toNat:Int) * 256) (by omega) (by omega),XQ];unfold qn;rw[wI (by omega) (by omega)];omega
 have ack:qn bs<=65535:=by unfold qn;omega
 rw[XW];generalize qn bs=n at *;rw[wI (x:=2+(n:Int)) (by omega) (by omega),wI (x:=2+(n:Int)+1) (by omega) (by omega)];refine oE.nr ?_;refine aa.dec (fun h3=>?_) (fun h3=>?_)
 ·rw[if_pos (by omega)]
  refine⟨fun D w2 f2=>f2,⟨fun D w2 f2=>f2,fun w2 f2=>?_⟩⟩;have f2:Fr none1 w1 w2:=f2;exact⟨f1.trans f2,rfl⟩
 rw[if_neg (by omega)];refine aa.dec (fun h4=>?_) (fun h4=>?_)
 ·rw[if_pos (by omega)]
  refine⟨fun D w2 f2=>f2,⟨fun D w2 f2=>f2,fun w2 f2=>?_⟩⟩;have f2:Fr none1 w1 w2:=f2;exact⟨f1.trans f2,rfl⟩
 rw[if_neg (by omega)];have r1:=h.af f1;obtain⟨a2,XX,NS⟩:=r1.cellAt (i:=2+(n:Int)) (by omega) (by omega);rw[show(2+(n:Int)).toNat=2+n by omega] at NS;refine⟨a2,XX,by omega,by omega,?_⟩;rw[show(2+(n:Int)).toNat=2+n by omega];refine fZ.nr ((bs.getD (2+n) 0).toNat:Int) (fun w7 f7=>ae.cell (NS w7 f7) ⟨rfl,f7⟩) ?_;refine aZ.sub r1 (n:=2+(n:Int)) (by omega) (by omega) hc fun hs=>?_;rw[show(2+(n:Int)).toNat=2+n by omega] at hs;refine fZ.nr ((tQ 150 (bs.take (2+n))).toNat:Int) (fun w7 f7=>?_) ?_
 ·refine ab.of (NF (v:=(v.1,(2+(n:Int)).toNat,v.2.2)) (bs:=bs.take (2+n)) ?_ (by simp only[List.length_take];omega)) ?_
  ·rw[show(2+(n:Int)).toNat=2+n by omega];exact hs.af f7
  rintro _ _ ⟨rfl,rfl⟩;exact⟨_,rfl,rfl,f7⟩
 intro w2 f2;have f2:Fr none1 w1 w2:=f2;refine aa.ne (fun ay=>?_) (fun heq=>?_)
 ·rw[if_pos (fun t=>ay (by rw[t]))]
  exact⟨f1.trans f2,rfl⟩
 rw[if_neg (by rw[Decidable.not_not];exact UInt8.toNat_inj.1 (by omega))];have nB:=f1.trans f2;have r0:=wo w2;generalize Hl:({ w2 with drawn:=w2.drawn+1 }:World)=W0 at r0
 have NT:=(h.af nB).af r0;have XY:((bs.drop (2:Int).toNat).take (2+(n:Int) - 2).toNat)=(bs.drop 2).take n:=by rw[show(2+(n:Int) - 2).toNat=n by omega];rfl
 -- the record in new memory
 obtain⟨jM,XZ,X0⟩:∃ jM:Sl,aZ W0 jM ((bs.drop 2).take n)/\∀ K:Option Addr->Nat->Nat->Prop,K jM.1 jM.2.1 jM.2.2->eX v.1 v.2.2 2 (2+(n:Int)) v.2.2 1 K:=by
  have:=aZ.jM NT (lo:=2) (hi:=2+(n:Int)) (K:=fun a l c=>∃ u:Sl,u=(a,l,c)/\aZ W0 u ((bs.drop 2).take n)) (by omega) (by omega) (by omega) hc (fun u hu _ _ _=>⟨u,rfl,by rw[XY] at hu;exact hu⟩);obtain⟨q1,q2,q3,q4,u,hu,hr⟩:=this.out;exact⟨u,hr,fun K hK=>⟨q1,q2,q3,q4,by rw[hu] at hK;exact hK⟩⟩
 obtain⟨u,W1,dO,hu,q1,pg⟩:=ND XZ (by simp only[List.length_take,List.length_drop];omega);refine⟨⟨fun D w9=>(D 4=false->w9=W0)/\(D 4=true->w9=W1),⟨fun _=>Hl,(fun t=>by cases t)⟩,?_⟩⟩;refine X0 _ ?_;refine⟨u,fun D w9 hD _ hC=>?_,?_⟩
 ·obtain rfl:=hC.1 hD
  refine ab.of dO ?_;rintro _ _ ⟨rfl,rfl⟩;exact⟨u,rfl,rfl,(fun t=>by rw[tO] at t;cases t),fun _=>rfl⟩
 refine aZ.jM ((NT.af q1)) (lo:=2+(n:Int)+1) (hi:=v.2.1) (by omega) (by omega) (Int.le_refl _) hc fun q hq CM _ qp=>?_;intro w9 hC;obtain rfl:=hC.2 rfl;have e4:((bs.drop (2+(n:Int)+1).toNat).take ((v.2.1:Int) - (2+(n:Int)+1)).toNat)=bs.drop (n+3):=by
  rw[show(2+(n:Int)+1).toNat=n+3 by omega,List.take_of_length_le (by simp only[List.length_drop];omega)]
 rw[e4] at hq;refine⟨(nB.trans r0).trans q1,u,q,rfl,hu,fun k U=>?_,hq,CM,qp⟩;exact Nat.le_trans (nB.trans r0).size (pg k U)
theorem HA {bs x t:List UInt8}(h:qo bs=some (x,t)):t.length+3<=bs.length/\x.length+t.length+3=bs.length/\x.length<=4000:=by
 unfold qo at h;split at h
 ·cases h
 split at h
 ·cases h
 split at h
 ·cases h
 split at h
 ·cases h
 injection h with h
 injection h with h1 h2
 subst h1;subst h2;simp only[List.length_take,List.length_drop];omega
inductive pj:List UInt8->List (List UInt8)->List UInt8->Prop where
 | stop {bs:List UInt8}:qo bs=none->pj bs [] bs
 | next {bs x t q:List UInt8} {l:List (List UInt8)}:qo bs=some (x,t)->pj t l q->pj bs (x::l) q
theorem pj.len {bs q:List UInt8}{l:List (List UInt8)}(h:pj bs l q):q.length+3 * l.length<=bs.length/\∀ r∈l,r.length<=4000:=by
 induction h with
 | stop _=>simp
 | next h _ ih=>
  have:=HA h;simp only[List.length_cons,List.mem_cons];refine⟨by omega,fun r hr=>?_⟩
  rcases hr with rfl | hr
  ·exact this.2.2
  ·exact ih.2 r hr
theorem iU.row {w:World}{S:Nat->Prop}{v:Sl}{rs:List (List UInt8)}(h:iU w S v rs){i:Int}(h0:0<=i)(h1:i<v.2.1){K:Sl->Prop}(k:∀ u:Sl,aZ w u (rs.getD i.toNat [])->K u):bK v.1 v.2.1 i 1 fun p=>ae .aj p w K:=by
 have hl:=h.len;obtain⟨⟨us,a1,a2,a3,a4⟩,o,l⟩:=h;have hi:i.toNat<us.length:=by omega
 exact aF.ld a1 h0 h1 (x:=us.getD i.toNat Af) (by rw[List.getElem?_map,List.getD_eq_getElem?_getD,List.getElem?_eq_getElem hi];rfl) (k _ (a3 i.toNat hi))
theorem iU.X1 {w:World}{S:Nat->Prop}{v:Sl}{rs:List (List UInt8)}(h:iU w S v rs){i:Int}(h0:0<=i)(h1:i<v.2.1){K:Sl->Prop}(k:∀ u:Sl,aZ w u (rs.getD i.toNat [])->u.2.1<=u.2.2->(∀ k,aw u k->S k)->K u):bK v.1 v.2.1 i 1 fun p=>ae .aj p w K:=by
 have hl:=h.len;obtain⟨⟨us,a1,a2,a3,a4⟩,o,l⟩:=h;have hi:i.toNat<us.length:=by omega
 have hm:us.getD i.toNat Af∈us:=by rw[List.getD_eq_getElem?_getD,List.getElem?_eq_getElem hi];exact List.getElem_mem hi
 exact aF.ld a1 h0 h1 (x:=us.getD i.toNat Af) (by rw[List.getElem?_map,List.getD_eq_getElem?_getD,List.getElem?_eq_getElem hi];rfl) (k _ (a3 i.toNat hi) (a4 _ hm).2 fun k U=>((a4 _ hm).1 k U).1)
def hd (n:Nat):List UInt8:=[toByte ((n:Int) / 256),toByte ((n:Int) % 256)]
def jh:List (List UInt8)->List UInt8
 | []=>[]
 | x::l=>dE x++jh l
theorem X2 (a b:List (List UInt8)):jh (a++b)=jh a++jh b:=by
 induction a with
 | nil=>rfl
 | cons x l ih=>show dE x++jh (l++b)=(dE x++jh l)++jh b;rw[ih,List.append_assoc]
theorem HB (a:List (List UInt8))(x:List UInt8):jh (a++[x])=jh a++dE x:=by
 rw[X2];show jh a++(dE x++[])=_;rw[List.append_nil]
def X3 (w:World)(b g:Nat)(s:cp)(rows:List (List UInt8))(rest:List UInt8)(r:Value)(w':World):Prop:=
 (∃ (p:Nat) (S:Nat->Prop) (g':Nat) (s':cp),r=.tuple #[.pointer (some ⟨p,0,none⟩),.int .i64 0]/\w.heap.size<=p/\Fr (only b) w w'/\(∀ k,S k->w.heap.size<=k)/\(g'=b\/g'=g\/w.heap.size<=g')/\iK w' S p b g' s' false rows /\
  (rest=[]/\s'=s\/rest≠[]/\(lB s ((s.b.length - rest.length:Nat):Int)).2=0/\s'=(lB s ((s.b.length - rest.length:Nat):Int)).1)) \/
 (rest≠[]/\(lB s ((s.b.length - rest.length:Nat):Int)).2≠0/\r=.tuple #[.pointer none,.int .i64 (lB s ((s.b.length - rest.length:Nat):Int)).2]/\lA w b g (lB s ((s.b.length - rest.length:Nat):Int)).1 w')
theorem X4 {w:World}{b g:Nat}{s:cp}{rows:List (List UInt8)}{rest:List UInt8}(h:ie w b g s)(hd:s.dead=false)(hP:pj s.b rows rest):
  Ret Tryz.prog 39 #[.pointer (some ⟨b,0,none⟩)] w (X3 w b g s rows rest):=by
 have lj:=h.lt;have nz:=h.pc;have jK:=h.ok.len;refine c39 _ w _ ?_;refine ab.of (Ns h) ?_;rintro _ _ ⟨rfl,rfl⟩;rw[hd];refine⟨_,rfl,aa.f rfl ?_⟩;refine ak.of fun p w1 hp CJ f1 ka=>?_;have h1:=h.af f1;refine ab.of (CB h1) ?_;rintro _ w2 ⟨u,rfl,hu,f2,pg⟩;refine⟨u,rfl,?_⟩;have dm:=hu.len;have nB:=f1.trans f2;have WD:=f2.size;have NU:∀ k,aw u k->k<w2.heap.size:=fun k U=>aF.lt hu U;have F0:Fr (only p) w2 w2:=Fr.refl _ _;refine bw.of (fun q w'=>∃ (jl:Sl) (S:Nat->Prop) (rs:List (List UInt8)) (bs:List UInt8),aZ w' q.1 bs/\q.1.2.1<=q.1.2.2/\(∀ k,aw q.1 k->aw u k)/\(∃ l,rows=rs++l/\pj bs l rest)/\bs.length+3 * rs.length<=s.b.length /\
   w'.heap[p]? = some (.cells #[.pointer (some ⟨b,0,none⟩),.slice jl.1 jl.2.1 jl.2.2,.bool false] 181 (0,0))/\iU w' S jl rs/\(∀ k,S k->w2.heap.size<=k)/\Fr (only p) w2 w') (fun q _=>q.1.2.1)
  ⟨(none,0,0),fun _=>False,[],s.b,hu.rd,hu.cap,fun k U=>U,⟨rows,rfl,hP⟩,by simp,f2.af CJ,Ag _ _ (fun k t=>t.elim),fun k t=>t.elim,F0⟩ ?_
 rintro _ ⟨q,_⟩ w3 ⟨jl,S,rs,bs,hq,CM,qp,⟨l,rj,CN⟩,hlen,Hr,ph,hS,f3⟩;dsimp only at hq CM qp ⊢;have X5:=hq.len;refine ab.of (XR hq CM (by omega)) ?_;rintro r w4 ⟨f4,hr⟩;have xL:=f4.af Hr;have NV:=ph.af f4;have f24:Fr (only p) w2 w4:=f3.dh f4;have Wg:=f24.size;cases CN with
 | stop hn=>
  rw[hn] at hr;dsimp only at hr;subst hr;refine⟨((none,0,0),(q.1,q.2.1,q.2.2),false,()),rfl,aa.t rfl ?_⟩;rw[List.append_nil] at rj;subst rj;have h4:ie w4 b g s:=(h.af nB).ag f24 (fun t=>by have:b=p:=t;omega) (fun t=>by have:g=p:=t;omega);have j4:iK w4 S p b g s false rows:=⟨h4,⟨jl,xL,NV⟩,by omega,fun k U=>by have:=hS k U;omega⟩;refine aa.dec (fun oJ=>?_) (fun hz=>?_)
  ·have Cv:((u.2.1:Int) - (q.2.1:Int))=((s.b.length - rest.length:Nat):Int):=by omega
   rw[wI (x:=(u.2.1:Int) - (q.2.1:Int)) (by omega) (by omega),Cv];have zB:rest≠[]:=fun e=>by rw[e,List.length_nil] at X5;omega
   refine ab.of (WG h4 _) ?_;rintro _ w5 ⟨rfl,t5⟩;have f5:=t5.1;have yW:=nB.fresh f24 (by omega);obtain⟨g',sA,j5⟩:=j4.Hh t5;have Al:g'=b\/g'=g\/w.heap.size<=g':=by
    have:=yW.size
    rcases sA with t | t | t
    ·exact .inl t
    ·exact .inr (.inl t)
    ·exact .inr (.inr (by omega))
   refine⟨_,rfl,aa.ne (fun he=>?_) (fun he=>?_)⟩
   ·refine .inr ⟨zB,he,rfl,(yW.mono fun _ _ t=>t.elim).trans f5,g',Al,j5.file⟩
   ·exact .inl ⟨p,S,g',_,rfl,by omega,(yW.mono fun _ _ t=>t.elim).trans f5,fun k U=>Nat.le_trans nB.size (hS k U),Al,j5,.inr ⟨zB,he,rfl⟩⟩
  ·have NW:rest=[]:=List.eq_nil_of_length_eq_zero (by omega)
   exact .inl ⟨p,S,g,s,rfl,by omega,(nB.fresh f24 (by omega)).mono fun _ _ t=>t.elim,fun k U=>Nat.le_trans nB.size (hS k U),.inr (.inl rfl),j4,.inl ⟨NW,rfl⟩⟩
 | next hf X6=>
  rename_i x t l';rw[hf] at hr;obtain⟨y,q2,hr,hy,NX,mQ,X7,CO⟩:=hr;subst hr;have aS:=HA hf;refine⟨((y.1,y.2.1,y.2.2),(q2.1,q2.2.1,q2.2.2),true,()),rfl,aa.f rfl ?_⟩;refine ae.ah xL (x:=jl) rfl ?_;have CP:=f4.size;have s23:=f3.size;have CI:=ph.lt;obtain⟨m,w5,z,w6,r1,f5,r2,f6,S',nA,hz⟩:=NV.snoc hy.rd hy.cap (fun k U=>⟨aF.lt hy U,fun t=>by have:=CI k t;have:=NX k U;omega⟩) (by omega);refine⟨m,w5,r1,z,w6,r2,?_⟩;have Hw:¬ aw jl p:=fun t=>by have:=hS p (ph.own p t);omega
  have X8:=f6.ag xL Hw;refine aA.ah X8 (by simp) rfl fun w7 X9 f7 _=>?_;have Ak:∀ k,S' k->w2.heap.size<=k:=fun k U=>by
   rcases nA k U with t | t | t
   ·exact hS k t
   ·have:=NX k t;omega
   ·omega
  have f46:∀ k,aw q2 k->¬ aw jl k:=fun k U t=>by have:=NU k (qp k (CO k U));have:=hS k (ph.own k t);omega
  have Ya:aZ w7 q2 t:=(mQ.ag f6 f46).ag f7 (fun k U t=>by have:=NU k (qp k (CO k U));have:=pg k (qp k (CO k U));have:k=p:=t;omega);refine⟨⟨z,S',rs++[x],t,Ya,X7,fun k U=>qp k (CO k U),⟨l',by rw[rj];simp,X6⟩,by simp only[List.length_append,List.length_singleton];omega,X9,hz.ag f7 (fun k U t=>by have:=Ak k U;have:k=p:=t;omega),Ak,?_⟩,?_⟩
  ·exact(f24.comp f6 (fun x hx t=>by have:=hS x (ph.own x t);omega)).trans f7
  ·have:=mQ.len
   dsimp only;omega
theorem Yb:∀ (n:Nat) (bs:List UInt8),bs.length<=n->∃ rows rest,pj bs rows rest:=by
 intro n
 induction n with
 | zero=>
  intro bs h;refine⟨[],bs,.stop ?_⟩;unfold qo;rw[if_pos (by omega)]
 | succ n ih=>
  intro bs h;cases hf:qo bs with
  | none=>exact⟨[],bs,.stop hf⟩
  | some xt=>
   obtain⟨x,t⟩:=xt;have:=HA hf;obtain⟨rows,rest,hp⟩:=ih t (by omega);exact⟨x::rows,rest,.next hf hp⟩
set_option maxRecDepth 100000
def xM:Nat->List UInt8->List (List UInt8)×List UInt8
 | 0,bs=>([],bs)
 | n+1,bs=>match qo bs with
  | none=>([],bs)
  | some (x,t)=>(x::(xM n t).1,(xM n t).2)
def vz (bs:List UInt8):List (List UInt8)×List UInt8:=xM bs.length bs
def lT (s:cp):cp×List (List UInt8)×Int:=
 if s.dead=true then(s,[],11) else if(vz s.b).2=[] then(s,(vz s.b).1,0) else
 ((lB s ((s.b.length - (vz s.b).2.length:Nat):Int)).1,if(lB s ((s.b.length - (vz s.b).2.length:Nat):Int)).2≠0 then[] else(vz s.b).1,(lB s ((s.b.length - (vz s.b).2.length:Nat):Int)).2)
structure jO where
 fs:cp
 d:Bool
 rs:List (List UInt8)
def jO.put (j:jO)(x:List UInt8):jO×Int:=
 (⟨(iw j.fs j.d x).1,(iw j.fs j.d x).2.1,if(iw j.fs j.d x).2.2.2=true then j.rs++[x] else j.rs⟩,(iw j.fs j.d x).2.2.1)
structure rk where
 e:Int
 h:Int
 s:Int->Bool
def vA:rk:=⟨-1,-1,fun _=>false⟩
def rk.acc (w:rk)(ep n:Int):Bool:=jg w.e w.h w.s ep n
def rk.accept (w:rk)(ep n:Int):rk:=⟨tL w.e ep (w.acc ep n),rh w.e w.h ep n (w.acc ep n),tM w.e ep n w.s (w.acc ep n)⟩
structure NodeM where
 kb:List UInt8
 side:Int
 j:jO
 p:PeerM
 w:rk
 bg:Int
 number:Int
namespace NodeM
def record (n:NodeM)(b:List UInt8):NodeM×Bool:=
 match b with
 | []=>(n,false)
 | c::r=>
  if c=1 then({ n with bg:=n.bg+1 },r.isEmpty)
  else if c=2 then
   (if(iH false r).2≠0 then(n,false) else({ n with p:=(n.p.bW { bH with dc:=true,bh:=(iH false r).1 }).1 },(n.p.bW { bH with dc:=true,bh:=(iH false r).1 }).2==0))
  else if c=3 then
   (if(fQ false r).2≠0 then(n,false) else if n.p.len % 2≠n.side then(n,false) else({ n with p:=(n.p.bW { bH with cY:=true,bM:=(fQ false r).1 }).1 },true))
  else(n,false)
def records (n:NodeM):List (List UInt8)->NodeM×Bool
 | []=>(n,true)
 | b::l=>if(n.record b).2=true then records (n.record b).1 l else((n.record b).1,false)
def fresh (kb:List UInt8)(side:Int)(fs:cp)(rs:List (List UInt8)):NodeM:=⟨kb,side,⟨fs,false,rs⟩,mE kb side,vA,0,0⟩
def open_ (kb:List UInt8)(side:Int)(s:cp):cp×Option NodeM×Int:=
 if side≠0/\side≠1 then(s,none,1) else if(lT s).2.2≠0 then((lT s).1,none,(lT s).2.2) else
 if((fresh kb side (lT s).1 (lT s).2.1).records (lT s).2.1).2=false then((lT s).1,none,12) else
 let n:=((fresh kb side (lT s).1 (lT s).2.1).records (lT s).2.1).1
 if(n.j.put [1]).2≠0 then((n.j.put [1]).1.fs,none,(n.j.put [1]).2) else((n.j.put [1]).1.fs,some { n with j:=(n.j.put [1]).1,bg:=n.bg+1 },0)
def dead (n:NodeM):Bool:=n.j.d
def offer (n:NodeM)(m:aT):NodeM×Int:=if n.dead=true then(n,11) else({ n with p:=(n.p.offer m).1 },(n.p.offer m).2)
def dI (a:bV):List UInt8×Int:=if a.dc=true then(2::(gj a.bh).1,(gj a.bh).2) else(3::(du a.bM).1,(du a.bM).2)
def ag (n:NodeM)(a:bV):NodeM×Int:=
 if a.dc=false/\a.cY=false then(n,0) else if(dI a).2≠0 then(n,(dI a).2) else({ n with j:=(n.j.put (dI a).1).1 },(n.j.put (dI a).1).2)
def jP (kb:List UInt8)(side bg:Int):List cc->Int->List (List UInt8)×Int×Int
 | [],n=>([],n,0)
 | f::l,n=>
  if(ib kb (side,bg,n,f.2.2.2)).2≠0 then([],n,(ib kb (side,bg,n,f.2.2.2)).2) else
  if(jP kb side bg l (n+1)).2.2≠0 then([],(jP kb side bg l (n+1)).2.1,(jP kb side bg l (n+1)).2.2) else
  ((ib kb (side,bg,n,f.2.2.2)).1::(jP kb side bg l (n+1)).1,(jP kb side bg l (n+1)).2.1,0)
def act (n:NodeM)(a:bV):NodeM×List (List UInt8)×Int:=
 if(n.ag a).2≠0 then((n.ag a).1,[],(n.ag a).2) else
 if((n.ag a).1.p.bW a).2≠0 then((n.ag a).1,[],((n.ag a).1.p.bW a).2) else
 ({ (n.ag a).1 with p:=((n.ag a).1.p.bW a).1,number:=(jP n.kb n.side n.bg a.bJ n.number).2.1 },(jP n.kb n.side n.bg a.bJ n.number).1,(jP n.kb n.side n.bg a.bJ n.number).2.2)
def tick (n:NodeM):NodeM×List (List UInt8)×Int:=if n.dead=true then(n,[],11) else n.act n.p.tick
def take (n:NodeM)(b:List UInt8):NodeM×List (List UInt8)×Int:=
 if n.dead=true then(n,[],11) else if(eR n.kb b).2≠0 then(n,[],(eR n.kb b).2) else if(eR n.kb b).1.1=n.side then(n,[],8) else
 if n.w.acc (eR n.kb b).1.2.1 (eR n.kb b).1.2.2.1=false then(n,[],4) else
 ({ n with w:=n.w.accept (eR n.kb b).1.2.1 (eR n.kb b).1.2.2.1 }:NodeM).act (n.p.take (eR n.kb b).1)
end NodeM
theorem rl (n:Int):cH n=true↔-1000000000000<=n/\n<=1000000000000:=by unfold cH;rw[Bool.and_eq_true,decide_eq_true_eq,decide_eq_true_eq]
theorem NY {a b:Int}(h:(kS a b).2=true):cH a=true/\cH b=true/\cH (a * b)=true/\(kS a b).1=a * b:=by
 unfold kS at *;split at h
 ·rename_i hc
  rw[Bool.and_eq_true,Bool.and_eq_true] at hc;rw[if_pos (by rw[hc.1.1,hc.1.2,hc.2];rfl)];exact⟨hc.1.1,hc.1.2,hc.2,rfl⟩
 ·cases h
theorem NZ {n:Int}(h:cH n=true):cH (-n)=true:=by rw[rl] at *;omega
structure Am (w:da):Prop where
 fx:∀ x∈w.fx,cH x.2=true
 Yc:w.fx.length<=32
 ch:∀ x∈w.ch,(x.2.1=0\/x.2.1=1)/\0<=x.2.2/\x.2.2<=10000
theorem N0 {κ ν:Type}[DecidableEq κ]{k:κ}{v:ν}:∀ {l:List (κ×ν)},bq k l=some v->(k,v)∈l
 | [],h=>by simp[bq] at h
 | (a,u)::l,h=>by
  unfold bq at h;split at h
  ·rename_i e;subst e;injection h with h;subst h;simp
  ·exact List.mem_cons_of_mem _ (N0 h)
theorem CQ {κ ν:Type}[DecidableEq κ]{k:κ}{v:ν}{x:κ×ν}:∀ {l:List (κ×ν)},x∈jL k v l->x∈l\/x=(k,v)
 | [],h=>by simp[jL] at h;exact .inr h
 | (a,u)::l,h=>by
  unfold jL at h;split at h
  ·rename_i e;subst e
   rcases List.mem_cons.1 h with h | h
   ·exact .inr h
   ·exact .inl (List.mem_cons_of_mem _ h)
  ·rcases List.mem_cons.1 h with h | h
   ·exact .inl (by simp[h])
   ·rcases CQ h with h | h
    ·exact .inl (List.mem_cons_of_mem _ h)
    ·exact .inr h
theorem Yd (o:Ob):(cv o).length<=bA o:=by
 have hf:∀ (l out:List (List UInt8)),(l.foldl gw out).length<=out.length+l.length:=by
  intro l
  induction l with
  | nil=>intro out;simp
  | cons s l ih=>
   intro out;have:=ih (gw out s);have h2:(gw out s).length<=out.length+1:=by unfold gw;split<;>simp
   simp only[List.foldl_cons,List.length_cons];omega
 induction o with
 | none=>simp[cv]
 | const n=>simp[cv]
 | fix s=>simp[cv,bA]
 | neg o ih=>unfold cv bA;have:=hf (cv o) [];simp at this;omega
 | add l r a b=>unfold cv bA;have h1:=hf (cv l) [];have h2:=hf (cv r) ((cv l).foldl gw []);simp at h1;omega
 | mul l r a b=>unfold cv bA;have h1:=hf (cv l) [];have h2:=hf (cv r) ((cv l).foldl gw []);simp at h1;omega
 | max l r a b=>unfold cv bA;have h1:=hf (cv l) [];have h2:=hf (cv r) ((cv l).foldl gw []);simp at h1;omega
theorem HC (w:da)(d:Int)(o:Ob):(np w d o).length<=bA o:=by
 unfold np;split
 ·simp
 ·exact Nat.le_trans (List.length_filter_le _ _) (Yd o)
theorem An (d:Int):∀ (names:List (List UInt8)) (ws:List gx),∃ new,lr d names ws=ws++new/\new.length<=names.length
 | [],ws=>⟨[],by simp[lr],by simp⟩
 | s::names,ws=>by
  unfold lr;simp only[List.foldl_cons];split
  ·obtain⟨new,h1,h2⟩:=An d names ws
   exact⟨new,h1,by simp;omega⟩
  ·obtain⟨new,h1,h2⟩:=An d names (ws++[(false,s,[],d,0)])
   refine⟨(false,s,[],d,0)::new,?_,by simp;omega⟩;unfold lr at h1;rw[h1];simp
theorem N1 (id:List UInt8)(w:da):∀ (t:Tm) (d k:Int) (x:iF),∃ fs ws,(cB id w t d k x).1=(x.1++fs,x.2++ws)/\fs.length<=aJ t/\ws.length<=aJ t/\(cH k=true->∀ f∈fs,cH f.2.2=true):=by
 intro t
 induction t with
 | none=>intro d k x;exact⟨[],[],by simp[cB],by simp,by simp,by simp⟩
 | zero=>intro d k x;exact⟨[],[],by simp[cB],by simp,by simp,by simp⟩
 | one s=>intro d k x;exact⟨[(d,s,k)],[],by simp[cB],by simp[aJ],by simp,fun h f hf=>by simp at hf;subst hf;exact h⟩
 | gD t ih=>
  intro d k x;obtain⟨fs,ws,h1,h2,h3,h4⟩:=ih d (-k) x;exact⟨fs,ws,h1,by unfold aJ;omega,by unfold aJ;omega,fun h=>h4 (NZ h)⟩
 | and l r a b=>
  intro d k x;obtain⟨fs,ws,h1,h2,h3,h4⟩:=a d k x;obtain⟨Ye,Yf,g1,g2,g3,g4⟩:=b d k (cB id w l d k x).1;unfold cB;split
  ·exact⟨fs,ws,h1,by unfold aJ;omega,by unfold aJ;omega,h4⟩
  ·refine⟨fs++Ye,ws++Yf,by rw[g1,h1];simp,by unfold aJ;simp;omega,by unfold aJ;simp;omega,fun h f hf=>?_⟩
   rcases List.mem_append.1 hf with hf | hf
   ·exact h4 h f hf
   ·exact g4 h f hf
 | when n t ih=>
  intro d k x;obtain⟨fs,ws,h1,h2,h3,h4⟩:=ih (max d n) k x;exact⟨fs,ws,h1,by unfold aJ;omega,by unfold aJ;omega,h4⟩
 | scale o t ih=>
  intro d k x;unfold cB;split
  ·exact⟨[],[],by simp,by simp,by simp,by simp⟩
  split
  ·obtain⟨new,h1,h2⟩:=An d (np w d o) x.2
   have:=HC w d o;exact⟨[],new,by simp[h1],by simp,by unfold aJ;omega,by simp⟩
  split
  ·exact⟨[],[],by simp,by simp,by simp,by simp⟩
  rename_i hm;split
  ·exact⟨[],[],by simp,by simp,by simp,by simp⟩
  ·obtain⟨fs,ws,h1,h2,h3,h4⟩:=ih d (kS k (fj w d o).1).1 x
   have hm:=NY (by simpa using hm);exact⟨fs,ws,h1,by unfold aJ;omega,by unfold aJ;omega,fun _=>h4 (by rw[hm.2.2.2];exact hm.2.2.1)⟩
 | cond o l r a b=>
  intro d k x;unfold cB;split
  ·exact⟨[],[],by simp,by simp,by simp,by simp⟩
  split
  ·obtain⟨new,h1,h2⟩:=An d (np w d o) x.2
   have:=HC w d o;exact⟨[],new,by simp[h1],by simp,by unfold aJ;omega,by simp⟩
  split
  ·obtain⟨fs,ws,h1,h2,h3,h4⟩:=a d k x
   exact⟨fs,ws,h1,by unfold aJ;omega,by unfold aJ;omega,h4⟩
  ·obtain⟨fs,ws,h1,h2,h3,h4⟩:=b d k x
   exact⟨fs,ws,h1,by unfold aJ;omega,by unfold aJ;omega,h4⟩
 | or s l r a b=>
  intro d k x;unfold cB;split
  ·exact⟨[],_,by simp;rfl,by simp,by unfold aJ;simp,by simp⟩
  ·rename_i p since _
   split
   ·obtain⟨fs,ws,h1,h2,h3,h4⟩:=a (max d since) k x
    exact⟨fs,ws,h1,by unfold aJ;omega,by unfold aJ;omega,h4⟩
   ·obtain⟨fs,ws,h1,h2,h3,h4⟩:=b (max d since) k x
    exact⟨fs,ws,h1,by unfold aJ;omega,by unfold aJ;omega,h4⟩
theorem N2 {id:List UInt8}{t:Tm}{day:Int}{w:da}(h:(fH id t day w).2=0):jJ t=0/\0<=day/\day<=10000/\(cB id w t day 1 ([],[])).2=0/\(fH id t day w).1=(cB id w t day 1 ([],[])).1:=by
 unfold fH at h ⊢;split at h
 ·cases h
 ·rename_i h1
  rw[if_neg h1];split at h
  ·rename_i h2;exact absurd h h2
  ·rename_i h2
   rw[if_neg h2];have h1:¬ jJ t≠0/\¬ day<0/\¬ 10000<day:=⟨fun q=>h1 (.inl q),fun q=>h1 (.inr (.inl q)),fun q=>h1 (.inr (.inr q))⟩;exact⟨Classical.not_not.1 h1.1,by omega,by omega,Classical.not_not.1 h2,rfl⟩
theorem HD {t:Tm}(h:jJ t=0):cI t=true/\aJ t<=60/\cA t<=12/\(fO t).Nodup:=by
 unfold jJ at h;split at h
 ·cases h
 split at h
 ·cases h
 split at h
 ·cases h
 split at h
 ·rename_i h1 h2 h3 h4;exact⟨by simpa using h1,by omega,by omega,h4⟩
 ·cases h
theorem HE (id:List UInt8)(t:Tm)(day:Int)(w:da):(fH id t day w).1.1.length<=60/\(fH id t day w).1.2.length<=60/\∀ f∈(fH id t day w).1.1,cH f.2.2=true:=by
 by_cases h:(fH id t day w).2=0
 ·obtain⟨h1,_,_,_,h5⟩:=N2 h
  obtain⟨_,h6,_⟩:=HD h1;obtain⟨fs,ws,g1,g2,g3,g4⟩:=N1 id w t day 1 ([],[]);rw[h5,g1];simp only[List.nil_append];exact⟨by omega,by omega,g4 rfl⟩
 ·have:(fH id t day w).1=([],[]):=by
   unfold fH at h ⊢;split
   ·rfl
   ·rename_i h1
    rw[if_neg h1] at h;split
    ·rfl
    ·rename_i h2;rw[if_neg h2] at h;exact absurd rfl h
  rw[this];exact⟨by simp,by simp,by simp⟩
structure mF (l:cG):Prop where
 day:0<=l.day/\l.day<=10000
 num:l.cN.length<=8
 ids:(l.cN.map (·.1)).Nodup
 ok:∀ d∈l.cN,(fH d.1 d.2.2 d.2.1 l.w).2=0
 w:Am l.w
 fV:∀ x∈l.fV,-480000000000000<=x.2/\x.2<=480000000000000
theorem Yg:mF xu:=⟨⟨by decide,by decide⟩,by decide,List.nodup_nil,(fun d hd=>nomatch hd),⟨(fun x hx=>nomatch hx),by decide,(fun x hx=>nomatch hx)⟩,(fun x hx=>nomatch hx)⟩
theorem N3 (w:da):∀ (l:List j0) (x:iF),(∀ f∈x.1,cH f.2.2=true)->(oc w l x).1.1.length<=x.1.length+60 * l.length/\(oc w l x).1.2.length<=x.2.length+60 * l.length/\∀ f∈(oc w l x).1.1,cH f.2.2=true
 | [],x,h=>by unfold oc;exact⟨by simp,by simp,h⟩
 | d::l,x,h=>by
  unfold oc;obtain⟨h1,h2,h3⟩:=HE d.1 d.2.2 d.2.1 w;split
  ·exact⟨by simp,by simp,by simp⟩
  ·obtain⟨g1,g2,g3⟩:=N3 w l (x.1++(fH d.1 d.2.2 d.2.1 w).1.1,x.2++(fH d.1 d.2.2 d.2.1 w).1.2) (by
    intro f hf
    rcases List.mem_append.1 hf with hf | hf
    ·exact h f hf
    ·exact h3 f hf)
   simp only[List.length_append] at g1 g2;refine⟨?_,?_,g3⟩<;>simp only[List.length_cons]<;>omega
theorem HF {l:cG}(h:mF l):l.all.1.1.length<=480/\l.all.1.2.length<=480/\∀ f∈l.all.1.1,cH f.2.2=true:=by
 have:=h.num;obtain⟨h1,h2,h3⟩:=N3 l.w l.cN ([],[]) (by simp);exact⟨by unfold cG.all;simp at h1;omega,by unfold cG.all;simp at h2;omega,h3⟩
theorem CR (d:Int)(c:List UInt8):∀ (fs:List lq) (n:Int),(∀ f∈fs,cH f.2.2=true)->n - 1000000000000 * fs.length<=kz d c n fs/\kz d c n fs<=n+1000000000000 * fs.length
 | [],n,_=>by simp[kz]
 | f::fs,n,h=>by
  have h1:=(rl _).1 (h f (by simp));unfold kz;simp only[List.foldl_cons,List.length_cons];have ih:=CR d c fs (if f.1=d/\f.2.1=c then n+f.2.2 else n) (fun g hg=>h g (by simp[hg]));unfold kz at ih;split at ih<;>rename_i hc
  ·rw[if_pos hc];omega
  ·rw[if_neg hc];omega
theorem HG (d:Int)(c:List UInt8):∀ (fs:List lq) (n:Int),kz d c n fs=n+kz d c 0 fs
 | [],n=>by simp[kz]
 | f::fs,n=>by
  have e:∀ n,kz d c n (f::fs)=kz d c (if f.1=d/\f.2.1=c then n+f.2.2 else n) fs:=fun n=>rfl;rw[e,e,HG d c fs,HG d c fs (if f.1=d/\f.2.1=c then 0+f.2.2 else 0)];split<;>omega
theorem HI {l:cG}(h:mF l)(d:Int)(c:List UInt8):-480000000000000<=l.j1 d c/\l.j1 d c<=480000000000000:=by
 unfold cG.j1;cases hg:bq (d,c) l.fV with
 | none=>simp
 | some v=>exact h.fV _ (N0 hg)
theorem Yh {id:List UInt8}{w w':da}(hf:w'.fx=w.fx)(hc:∀ s,bq (id,s) w'.ch=bq (id,s) w.ch):∀ (t:Tm) (d k:Int) (x:iF),cB id w' t d k x=cB id w t d k x:=by
 have hn:∀ d o,eG w' d o=eG w d o:=by
  intro d o
  induction o with
  | none=>rfl
  | const n=>rfl
  | fix s=>unfold eG;rw[hf]
  | add l r a b=>unfold eG;rw[a,b]
  | mul l r a b=>unfold eG;rw[a,b]
  | max l r a b=>unfold eG;rw[a,b]
  | neg o ih=>unfold eG;rw[ih]
 have hv:∀ d o,fj w' d o=fj w d o:=fun d o=>by unfold fj;rw[hn]
 have hd:∀ d o,np w' d o=np w d o:=fun d o=>by unfold np;rw[hf]
 intro t
 induction t with
 | none=>intro d k x;rfl
 | zero=>intro d k x;rfl
 | one s=>intro d k x;rfl
 | gD t ih=>intro d k x;unfold cB;exact ih _ _ _
 | and l r a b=>intro d k x;unfold cB;rw[a,b]
 | when n t ih=>intro d k x;unfold cB;exact ih _ _ _
 | scale o t ih=>intro d k x;unfold cB;rw[hv,hd,ih]
 | cond o l r a b=>intro d k x;unfold cB;rw[hv,hd,a,b]
 | or s l r a b=>intro d k x;unfold cB;rw[hc];split<;>simp only[a,b]
theorem Yi {id:List UInt8}{w w':da}(hf:w'.fx=w.fx)(hc:∀ s,bq (id,s) w'.ch=bq (id,s) w.ch)(t:Tm)(d:Int):fH id t d w'=fH id t d w:=by
 unfold fH;rw[Yh hf hc]
theorem N4 {w:da}:∀ {l:List j0} {x:iF},(oc w l x).2=0↔∀ d∈l,(fH d.1 d.2.2 d.2.1 w).2=0
 | [],x=>by simp[oc]
 | d::l,x=>by
  unfold oc;split
  ·rename_i h
   constructor
   ·intro h2;exact absurd h2 h
   ·intro h2;exact absurd (h2 d (by simp)) h
  ·rename_i h
   rw[N4]
   constructor
   ·intro h2 e he
    rcases List.mem_cons.1 he with rfl | he
    ·exact Classical.not_not.1 h
    ·exact h2 e he
   ·intro h2 e he;exact h2 e (List.mem_cons_of_mem _ he)
theorem Yj {w:da}(hw:Am w){s:List UInt8}{d v:Int}:Am (q7 w s d v).1:=by
 unfold q7;split
 ·exact hw
 split
 ·exact hw
 split
 ·exact hw
 ·rename_i h1 h2 h3
  refine⟨fun x hx=>?_,?_,hw.ch⟩
  ·rcases CQ hx with hx | rfl
   ·exact hw.fx x hx
   ·have:¬ cH v=false:=fun q=>h1 (.inr (.inr q))
    simpa using this
  ·rw[Ca _ _ _ (by simpa using h2)]
   simp;omega
theorem Yk {w:da}(hw:Am w){id label:List UInt8}{side day:Int}:Am (lu w id label side day).1:=by
 unfold lu;split
 ·exact hw
 split
 ·exact hw
 ·rename_i h1 h2
  refine⟨hw.fx,hw.Yc,fun x hx=>?_⟩
  rcases CQ hx with hx | rfl
  ·exact hw.ch x hx
  ·have a:¬ (side≠0/\side≠1):=fun q=>h1 (.inr (.inr (.inl q)))
   have b:¬ tB day=false:=fun q=>h1 (.inr (.inr (.inr q)));unfold tB at b;simp only[Bool.not_eq_false,Bool.and_eq_true,decide_eq_true_eq] at b;exact⟨by dsimp only;omega,b⟩
theorem Yl {m:aT}(h:iR m=0):0<=m.day/\m.day<=10000:=by
 obtain⟨_,_,_,h4,h5,_⟩:=B8 h;exact⟨h4,h5⟩
theorem Ym {l:cG}(h:mF l)(m:aT)(b:Int):mF (iG l m b).1:=by
 unfold iG;split
 ·exact h
 split
 ·exact h
 rename_i hb hc;have hd:=Yl (Classical.not_not.1 hc);split
 ·unfold tC
  split
  ·exact h
  split
  ·exact h
  split
  ·exact h
  ·rename_i h1 h2 h3
   refine⟨h.day,by simp;omega,?_,?_,h.w,h.fV⟩
   ·simp only[List.map_append,List.map_cons,List.map_nil]
    rw[List.nodup_append];refine⟨h.ids,by simp,?_⟩;intro a ha c hc;simp at hc;subst hc;intro e;apply h1;rw[List.mem_map] at ha;obtain⟨x,hx,rfl⟩:=ha;rw[List.any_eq_true];exact⟨x,hx,by simp[e]⟩
   ·intro d hd
    rcases List.mem_append.1 hd with hd | hd
    ·exact h.ok d hd
    ·simp at hd;subst hd;exact Classical.not_not.1 h3
 split
 ·unfold si
  split
  ·exact h
  split
  ·exact h
  split
  ·exact h
  ·rename_i h1 h2 h3
   have h3:=Classical.not_not.1 h3;exact⟨h.day,h.num,h.ids,N4.1 h3,Yj h.w,h.fV⟩
 split
 ·unfold sj
  split
  ·exact h
  ·rename_i d CS
   split
   ·exact h
   ·rename_i x hfx
    split
    ·exact h
    split
    ·exact h
    split
    ·exact h
    split
    ·exact h
    ·rename_i h1 h2 h3 h4
     have Yn:d.1=m.id:=by
      have:=List.find?_some CS;simpa using this
     have xN:=List.mem_of_find?_eq_some CS;refine⟨h.day,h.num,h.ids,fun e he=>?_,Yk h.w,h.fV⟩
     by_cases hid:e.1=m.id
     ·have:e=d:=by
       have hn:=h.ids;obtain⟨i,hi,rfl⟩:=List.getElem_of_mem he;obtain⟨j,hj,rfl⟩:=List.getElem_of_mem xN;have lh:i=j:=by
        have h5:(l.cN.map (·.1))[i]'(by simpa using hi)=(l.cN.map (·.1))[j]'(by simpa using hj):=by simp[hid,Yn]
        exact(List.getElem_inj hn).1 h5
       subst lh;rfl
      subst this;exact Classical.not_not.1 h4
     ·rw[show(({ l with w:=(lu l.w m.id m.label m.val l.day).1 }:cG).w)=(lu l.w m.id m.label m.val l.day).1 from rfl]
      rw[Yi (w:=l.w) (w':=(lu l.w m.id m.label m.val l.day).1) ?_ ?_]
      ·exact h.ok e he
      ·unfold lu;split
       ·rfl
       split<;>rfl
      ·intro s
       unfold lu;split
       ·rfl
       split
       ·rfl
       ·dsimp only
        rw[Mf,if_neg (fun q=>hid (by injection q with q _;exact q.symm))]
 split
 ·unfold tD
  split
  ·exact h
  split
  ·exact h
  split
  ·exact h
  ·refine⟨h.day,h.num,h.ids,h.ok,h.w,fun x hx=>?_⟩
   rcases CQ hx with hx | rfl
   ·exact h.fV x hx
   ·obtain⟨a1,_,a3⟩:=HF h
    have:=CR m.day m.cur l.all.1.1 0 a3;dsimp only;unfold cG.od;rw[HG];omega
 split
 ·split
  ·exact h
  ·exact⟨hd,h.num,h.ids,h.ok,h.w,h.fV⟩
 ·exact h
structure cO (p:PeerM):Prop where
 kb:p.kb.length=16
 side:p.side=0\/p.side=1
 hs:p.hs.length=p.es.length+1
 num:p.es.length<=64
 lz:∀ h∈p.hs,0<=h/\h<18446744073709551616
 es:∀ x∈p.es,dB x.1
 off:dB p.off.1
 aY:dB p.aY.1
 cd:mF p.cd
theorem dJ:dB bb:=⟨by decide,by decide,by decide,by decide,by decide⟩
theorem Yo:dB xH:=⟨by decide,by decide,by decide,by decide,by decide⟩
theorem N5 {kb:List UInt8}(U:kb.length=16)(side:Int):cO (mE kb side):=
 ⟨U,(by unfold mE;dsimp only;split<;>simp),rfl,Nat.zero_le _,(by intro h hh;simp[mE] at hh;subst hh;decide),(fun x hx=>nomatch hx),dJ,dJ,Yg⟩
theorem cO.vB {p:PeerM}(h:cO p):0<=p.head/\p.head<18446744073709551616:=by
 unfold PeerM.head;have hl:=h.hs;rw[List.getD_eq_getElem?_getD,List.getElem?_eq_getElem (by omega)];exact h.lz _ (List.getElem_mem _)
theorem cO.Yp {p:PeerM}(h:cO p)(n:Int):0<=(p.at_ n).1/\(p.at_ n).1<18446744073709551616:=by
 unfold PeerM.at_;split
 ·decide
 ·dsimp only
  rw[List.getD_eq_getElem?_getD,List.getElem?_eq_getElem (by omega)];exact h.lz _ (List.getElem_mem _)
theorem N6 (kb:List UInt8)(h:Int)(x:eW):0<=(fm kb h x).1/\(fm kb h x).1<18446744073709551616:=by
 unfold fm;split
 ·dsimp only;omega
 ·exact FZ _ _
theorem cO.entry {p:PeerM}(h:cO p){x:eW}(hx:dB x.1):cO (p.entry x).1:=by
 unfold PeerM.entry;split
 ·exact h
 split
 ·exact h
 split
 ·exact h
 ·rename_i h1 h2 h3
  have hs:=h.hs;refine⟨h.kb,h.side,by simp[hs],by simp;omega,fun y hy=>?_,fun y hy=>?_,h.off,dJ,?_⟩
  ·rcases List.mem_append.1 hy with hy | hy
   ·exact h.lz y hy
   ·simp at hy;subst hy;exact N6 _ _ _
  ·rcases List.mem_append.1 hy with hy | hy
   ·exact h.es y hy
   ·simp at hy;subst hy;exact hx
  ·dsimp only
   split
   ·exact h.cd
   ·exact Ym h.cd _ _
theorem cO.ended {p:PeerM}(h:cO p){a:bV}(hp:dB a.bM):cO (p.ended a):=by
 have ho:dB (if p.o9 a=true then((bb,false):aT×Bool) else p.off).1:=by
  split
  ·exact dJ
  ·exact h.off
 unfold PeerM.ended PeerM.kY;split
 ·exact⟨h.kb,h.side,h.hs,h.num,h.lz,h.es,ho,hp,h.cd⟩
 ·exact⟨h.kb,h.side,h.hs,h.num,h.lz,h.es,ho,h.aY,h.cd⟩
theorem cO.bW {p:PeerM}(h:cO p){a:bV}(he:dB a.bh.1)(hp:dB a.bM):cO (p.bW a).1:=by
 unfold PeerM.bW;split
 ·split
  ·exact h
  ·exact(h.entry he).ended hp
 ·exact h.ended hp
theorem cO.offer {p:PeerM}(h:cO p){m:aT}(hm:dB m):cO (p.offer m).1:=by
 unfold PeerM.offer;split
 ·exact h
 split
 ·exact h
 split
 ·exact h
 split
 ·exact h
 ·exact⟨h.kb,h.side,h.hs,h.num,h.lz,h.es,hm,h.aY,h.cd⟩
structure qq (a:bV):Prop where
 bh:dB a.bh.1
 bM:dB a.bM
 bJ:∀ f∈a.bJ,dB f.m/\0<=f.2.2.2.2.2.1/\f.2.2.2.2.2.1<18446744073709551616
 num:a.bJ.length<=1
theorem xO:qq bH:=⟨dJ,dJ,(fun f hf=>nomatch hf),Nat.zero_le _⟩
theorem tS {a:bV}(h1:dB a.bh.1)(h2:dB a.bM)(h3:a.bJ=[]):qq a:=⟨h1,h2,(by rw[h3];exact(fun f hf=>nomatch hf)),(by rw[h3];decide)⟩
theorem vC {f:cc}(h1:dB f.m)(h2:0<=f.2.2.2.2.2.1/\f.2.2.2.2.2.1<18446744073709551616):(∀ g∈[f],dB g.m/\0<=g.2.2.2.2.2.1/\g.2.2.2.2.2.1<18446744073709551616)/\([f]:List cc).length<=1:=
 ⟨(fun g hg=>by simp at hg;subst hg;exact⟨h1,h2⟩),Nat.le_refl _⟩
theorem cO.kC {p:PeerM}(h:cO p){m:aT}(hm:dB m):qq (p.kC m):=by
 unfold PeerM.kC;split
 ·exact tS dJ dJ rfl
 ·have:=vC (f:=p.eS 1 false m) hm h.vB
  exact⟨dJ,hm,this.1,this.2⟩
theorem cO.tick {p:PeerM}(h:cO p):qq p.tick:=by
 unfold PeerM.tick;split
 ·have:=vC (f:=p.eS 4 true bb) dJ h.vB
  exact⟨dJ,dJ,this.1,this.2⟩
 split
 ·exact xO
 split
 ·have:=vC (f:=p.eS 1 false p.aY.1) h.aY h.vB
  exact⟨dJ,dJ,this.1,this.2⟩
 split
 ·exact h.kC h.off
 split
 ·exact h.kC Yo
 split
 ·have:=vC (f:=p.eS 3 false bb) dJ h.vB
  exact⟨dJ,dJ,this.1,this.2⟩
 ·exact xO
theorem cO.take {p:PeerM}(h:cO p){f:cc}(hf:dB f.m):qq (p.take f):=by
 unfold PeerM.take;split
 ·exact xO
 split
 ·unfold PeerM.lz
  have:=vC (f:=p.eS 4 false bb) dJ h.vB;refine⟨dJ,dJ,?_,?_⟩<;>dsimp only<;>split
  ·exact this.1
  ·exact fun f hf=>nomatch hf
  ·exact this.2
  ·decide
 split
 ·exact xO
 split
 ·unfold PeerM.want
  split<;>exact tS dJ dJ rfl
 split
 ·unfold PeerM.lR
  split
  ·exact tS dJ dJ rfl
  split
  ·have:=vC (f:=PeerM.fr 2 f.2.2.2.2.1 (p.at_ (f.2.2.2.2.1+1)).1 (p.es.getD f.2.2.2.2.1.toNat (bb,false)).2 bb) dJ (h.Yp _)
   exact⟨dJ,dJ,this.1,this.2⟩
  split
  ·exact xO
  split
  ·exact xO
  ·have:=vC (f:=PeerM.fr 2 f.2.2.2.2.1 (fm p.kb p.head (f.m,p.fX f.m)).1 (p.fX f.m) bb) dJ (N6 _ _ _)
   exact⟨hf,dJ,this.1,this.2⟩
 ·unfold PeerM.om
  split
  ·exact tS dJ dJ rfl
  split
  ·exact tS dJ dJ rfl
  split
  ·exact tS dJ dJ rfl
  split
  ·exact tS dJ dJ rfl
  ·exact tS h.aY dJ rfl
theorem CT (m:cc):(dC m.f).all bI=true:=GU (Tm.bU _)
theorem Yq {w:World}{v:Sl}{bs:List UInt8}(h:aZ w v bs)(hc:v.2.1<=v.2.2)(hl:35<=bs.length)(ht:TabW w):Ret Tryz.prog 51 #[.slice v.1 v.2.1 v.2.2] w fun r w'=>r=ly (ic bs).f/\Fr none1 w w':=by
 refine c51 v.1 v.2.1 v.2.2 w _ ?_;unfold C51;have cM:=h.len;refine ak.of fun g1 w1 df au f1 ka=>?_;have au:w1.heap[g1]? = some (.cells (dC jx.f).toArray 42 (0,0)):=au;refine aD.of fun w2 _ f2=>aV.of (fun k=>k<w.heap.size) ?_;have f12:=f1.trans f2;have h2:=h.af f12;have ay:bs≠[]:=fun t=>by rw[t] at hl;simp at hl
 have hS:∀ a,v.1=some a->(fun k=>k<w.heap.size) a.block:=fun a ha=>h.Gw ay ⟨a,ha,rfl⟩;refine bK.GK hS (aZ.at h2 (by decide) (by omega) (bK.GK hS (aZ.at h2 (by decide) (by omega) (bK.GK hS (aZ.at h2 (by decide) (by omega) ?_)))));rw[show Int.toNat 0=0 by rfl,show Int.toNat 17=17 by rfl,show Int.toNat 34=34 by rfl];have b0:=(bs.getD 0 0).toNat_lt;have GZ:=(bs.getD 17 0).toNat_lt;rw[wI (x:=((bs.getD 0 0).toNat:Int)) (by omega) (by omega),wI (x:=((bs.getD 17 0).toNat:Int)) (by omega) (by omega)];have fL:=f12.size;refine ak.of fun g w3 hg aU f3 o6=>ai.of f3 ?_;obtain⟨fl,jI⟩:∃ fl,fl=(((bs.getD 34 0).toNat:Int)==1):=⟨_,rfl⟩;rw[<- jI];obtain⟨X,hX⟩:∃ X:cc,X=(((bs.getD 0 0).toNat:Int),0,0,((bs.getD 17 0).toNat:Int),0,0,fl,bb):=⟨_,rfl⟩;refine ar.aE (cs:=dC jx.f) (vs:=dC (aT.e bb |> fun e=>((((bs.getD 0 0).toNat:Int),0,0,((bs.getD 17 0).toNat:Int),0,0,fl,e):kV))) aU rfl (GU rfl) fun w4 dw f4 sq=>ai.on f4 (fun k U t=>by have:k=g:=t;omega) ?_;have F4:Fr none1 w w4:=(f12.trans f3).fresh f4 (by omega);have g14:=f4.ag (f3.af (f2.af au)) (fun t=>by have:g1=g:=t;have:=bQ au;have:=f2.size;omega);have h4:=h.af F4;refine aZ.jM h4 (by decide) (by decide) (by omega) hc fun u1 Yr _ _ _=>?_;refine ab.of (Bs Yr) ?_;rintro _ _ ⟨rfl,rfl⟩;refine⟨((gU (fk bs 1 9)).1,(gU (fk bs 1 9)).2,()),rfl,?_⟩;refine aA.ah dw (by show 0+1<15;omega) rfl fun w5 cW f5 _=>?_;have F5:Fr none1 w w5:=F4.fresh f5 (by omega);have h5:=h.af F5;have g15:=f5.ag g14 (fun t=>by have:g1=g:=t;have:=bQ au;have:=f2.size;omega);refine aZ.jM h5 (by decide) (by decide) (by omega) hc fun u2 ux _ _ _=>?_;refine ab.of (Bs ux) ?_;rintro _ _ ⟨rfl,rfl⟩;refine⟨((gU (fk bs 9 17)).1,(gU (fk bs 9 17)).2,()),rfl,?_⟩;refine aA.ah cW (by show 0+2<15;omega) rfl fun w6 fI f6 _=>?_;have F6:Fr none1 w w6:=F5.fresh f6 (by omega);have h6:=h.af F6;have g16:=f6.ag g15 (fun t=>by have:g1=g:=t;have:=bQ au;have:=f2.size;omega);refine aZ.jM h6 (by decide) (by decide) (by omega) hc fun u3 kL _ _ _=>?_;refine ab.of (Bs kL) ?_;rintro _ _ ⟨rfl,rfl⟩;refine⟨((gU (fk bs 18 26)).1,(gU (fk bs 18 26)).2,()),rfl,?_⟩;refine aA.ah fI (by show 0+4<15;omega) rfl fun w7 gP f7 _=>?_;have F7:Fr none1 w w7:=F6.fresh f7 (by omega);have h7:=h.af F7;have g17:=f7.ag g16 (fun t=>by have:g1=g:=t;have:=bQ au;have:=f2.size;omega);refine aZ.jM h7 (by decide) (by decide) (by omega) hc fun u4 wW _ _ _=>?_;have GO:(fk bs 26 34).length=8:=by unfold fk;rw[List.length_take,List.length_drop];omega
 have wW:aZ w7 u4 (fk bs 26 34):=wW;refine ab.of (VS wW) ?_;rintro _ _ ⟨rfl,rfl⟩;rw[if_pos GO];refine⟨((gF (fk bs 26 34):Int),decide ((fk bs 26 34).length=8),()),rfl,?_⟩;refine aA.ah gP (by show 0+5<15;omega) rfl fun w8 j2 f8 _=>?_;have F8:Fr none1 w w8:=F7.fresh f8 (by omega);have h8:=h.af F8;have g18:=f8.ag g17 (fun t=>by have:g1=g:=t;have:=bQ au;have:=f2.size;omega);have j2:w8.heap[g]? = some (.cells (dC (cc.f (((bs.getD 0 0).toNat:Int),(gU (fk bs 1 9)).1,(gU (fk bs 9 17)).1,((bs.getD 17 0).toNat:Int),(gU (fk bs 18 26)).1,(gF (fk bs 26 34):Int),fl,bb))).toArray 42 (0,0)):=by rw[j2];rfl
 have fin:∀ (Y:cc) (w9:World),w9.heap[g]? = some (.cells (dC Y.f).toArray 42 (0,0))->w9.heap[g1]? = some (.cells (dC jx.f).toArray 42 (0,0))->Fr none1 w w9->Y=ic bs ->
   aq FK ⟨g,0,none⟩ w9 (fun(gQ:Cs FK)=>ar ⟨g1,0,none⟩ (Cs.vals FK gQ) w9 (fun iq=>aq FK ⟨g1,0,none⟩ iq (fun(dA:Cs FK)=>(Value.agg (Cs.vals FK dA).toArray)=ly (ic bs).f/\Fr none1 w iq))):=fun Y w9 hY h1 F9 e=>by
  subst e;refine aq.aE (cks:=FK) (x:=(ic bs).f) hY ?_;refine ar.aE (cs:=dC jx.f) (vs:=dC (ic bs).f) h1 rfl (CT _) fun aG nC f10 _=>aq.aE (cks:=FK) (x:=(ic bs).f) nC ?_;exact⟨rfl,F9.fresh f10 (by omega)⟩
 have N7:((bs.getD 34 0).toNat==1)=fl:=by
  rw[jI,Bool.eq_iff_iff];simp only[beq_iff_eq];omega
 refine ae.ah j2 (x:=((bs.getD 17 0).toNat:Int)) rfl ?_;refine aa.eq (fun h1=>?_) (fun h1=>?_)
 ·refine aZ.jM h8 (by decide) (by omega) (Int.le_refl _) hc fun u5 qR Ys _ _=>?_
  have e35:(bs.drop (35:Int).toNat).take ((v.2.1:Int) - 35).toNat=bs.drop 35:=by
   rw[show(35:Int).toNat=35 by rfl];exact List.take_of_length_le (by rw[List.length_drop];omega)
  rw[e35] at qR;refine ab.of (GD qR Ys (ht.af F8)) ?_;rintro _ w9 ⟨rfl,f9⟩;refine⟨((fQ false (bs.drop 35)).1.e,(fQ false (bs.drop 35)).2,()),rfl,?_⟩;have e:ic bs=(((bs.getD 0 0).toNat:Int),(gU (fk bs 1 9)).1,(gU (fk bs 9 17)).1,((bs.getD 17 0).toNat:Int),(gU (fk bs 18 26)).1,(gF (fk bs 26 34):Int),fl,(fQ false (bs.drop 35)).1):=by
   unfold ic;rw[if_pos (by omega),N7]
  obtain⟨a1,a2,a3,a4⟩:=Ek (T:=42) (b:=g) (gz (fQ false (bs.drop 35)).1.e) w9 [.int .i64 ((bs.getD 0 0).toNat:Int),.int .i64 (gU (fk bs 1 9)).1,.int .i64 (gU (fk bs 9 17)).1,.int .i64 ((bs.getD 17 0).toNat:Int),.int .i64 (gU (fk bs 18 26)).1,.int .u64 (gF (fk bs 26 34):Int),.bool fl] (gz bb.e) (f9.af j2) rfl (Gi (Tm.bU _));refine⟨MX _ _ 0 a1,?_⟩;rw[MY];refine fin _ _ ?_ (a3.ag (f9.af g18) (fun t=>by have:g1=g:=t;have:=bQ au;have:=f2.size;omega)) ((F8.trans f9).fresh a3 (by omega)) e.symm;exact a2
 ·refine fin _ w8 j2 g18 F8 ?_
  unfold ic;rw[if_neg (by omega),N7]
theorem N8 (bs:List UInt8):dB (ic bs).m:=by
 unfold ic;show dB (if(bs.getD 17 0).toNat=1 then(fQ false (bs.drop 35)).1 else bb);have hz:dB bb:=⟨by decide,by decide,by decide,by decide,by decide⟩;split
 ·unfold fQ;split
  ·exact GB false _
  ·exact hz
 ·exact hz
theorem Yt (bs:List UInt8):0<=(ic bs).2.2.2.2.2.1/\(ic bs).2.2.2.2.2.1<18446744073709551616:=by
 unfold ic;dsimp only;have h:=Ce (fk bs 26 34);have h2:256 ^ (fk bs 26 34).length<=256 ^ 8:=Nat.pow_le_pow_right (by decide) (by unfold fk;rw[List.length_take];omega);have:(256:Nat) ^ 8=18446744073709551616:=by decide
 omega
theorem Yu (m:cc)(hs:pM m.m.e)(hn:aJ m.m.t<=1000000)(hh:0<=m.2.2.2.2.2.1/\m.2.2.2.2.2.1<18446744073709551616)(w:World)(ht:TabW w):
  Ret Tryz.prog 52 #[ly m.f] w fun r w'=>∃ v:Sl,r=.tuple #[.slice v.1 v.2.1 v.2.2,.int .i64 (kW m).2]/\Own w w' v (kW m).1/\Fr none1 w w':=by
 have hl:=tz m.m.t;exact M6 m.f (vm m.m.t) hs hh (bp m.m.t).1 (by omega) (bp m.m.t).2 w (Cu m.m.t hn ht)
theorem N9 (kb:List UInt8)(U:kb.length=16)(m:cc)(hs:pM m.m.e)(hn:aJ m.m.t<=1000000)(hh:0<=m.2.2.2.2.2.1/\m.2.2.2.2.2.1<18446744073709551616)(w:World)(ht:TabW w):
  Ret Tryz.prog 24 #[.agg (cT kb).toArray,ly m.f] w fun r w'=>∃ v:Sl,r=.tuple #[.slice v.1 v.2.1 v.2.2,.int .i64 (ib kb m).2]/\Own w w' v (ib kb m).1/\Fr none1 w w':=by
 have hl:=tz m.m.t;exact We kb U m.f (vm m.m.t) hs hh (bp m.m.t).1 (by omega) (bp m.m.t).2 w (Cu m.m.t hn ht)
theorem Yv (m:cc)(hn:aJ m.m.t<=1000000)(w:World)(ht:TabW w):Ret Tryz.prog 109 #[ly m.f] w fun r w'=>r=.int .i64 (kB m.f (bp m.m.t).2)/\Fr none1 w w':=
 M4 m.f (vm m.m.t) (bp m.m.t).1 (bp m.m.t).2 w (Cu m.m.t hn ht)
theorem Yw (kb:List UInt8)(U:kb.length=16){w:World}{v:Sl}{bs:List UInt8}(h:aZ w v bs)(hc:v.2.1<=v.2.2)(hl:bs.length<=140737488355300)(ht:TabW w):
  Ret Tryz.prog 14 #[.agg (cT kb).toArray,.slice v.1 v.2.1 v.2.2] w fun r w'=>r=.tuple #[ly (eR kb bs).1.f,.int .i64 (eR kb bs).2]/\Fr none1 w w':=by
 refine c14 (cT kb) v.1 v.2.1 v.2.2 w _ ?_;unfold C14;have cM:=h.len;refine ak.of fun g0 w0 GI se f0 qI=>ak.of fun g w1 hg au f1 ka=>?_;have au:w1.heap[g]? = some (.cells (dC jx.f).toArray 42 (0,0)):=au;have vw:=f0.trans f1;have fail:∀ (code:Int),eR kb bs=(jx,code)->∀ w2,w2.heap[g]? = some (.cells (dC jx.f).toArray 42 (0,0))->Fr none1 w w2->ar ⟨g,0,none⟩ (dC jx.f) w2 (fun w5=>aq FK ⟨g,0,none⟩ w5 (fun(x6:Cs FK)=>(Value.tuple #[.agg (Cs.vals FK x6).toArray,.int .i64 code])=.tuple #[ly (eR kb bs).1.f,.int .i64 (eR kb bs).2]/\Fr none1 w w5)):=fun code e w2 hb f2=>by
  rw[e];refine ar.aE (cs:=dC jx.f) (vs:=dC jx.f) hb rfl (CT jx) fun w3 aU f3 _=>aq.aE (cks:=FK) (x:=jx.f) aU ?_;exact⟨rfl,f2.fresh f3 (by omega)⟩
 have Wf:=vw.size;have hO:eR kb bs=if bs.length<8 then(jx,2) else if xG bs≠gG (nq kb (iI bs)) then(jx,12) else if(iI bs).length<35 then(jx,2)
   else if(kW (ic (iI bs))).2≠0\/(kW (ic (iI bs))).1≠iI bs then(jx,2) else(ic (iI bs),0):=rfl
 refine aa.dec (fun aS=>?_) (fun dQ=>?_)
 ·exact fail 2 (by rw[hO,if_pos (by omega)]) w1 au vw
 rw[if_neg (by omega)] at hO;refine aD.of fun w2 _ f2=>?_;have nB:=vw.trans f2;have aK:=f2.af au;have h2:=h.af nB;rw[wI (x:=(v.2.1:Int) - 8) (by omega) (by omega)];obtain⟨n,hn⟩:∃ n,n=bs.length - 8:=⟨_,rfl⟩;refine aZ.sub h2 (by omega) (by omega) hc fun hT=>?_;refine aZ.jM h2 (by omega) (by omega) (Int.le_refl _) hc fun u hu rb dm qd=>?_;have en:((v.2.1:Int) - 8).toNat=n:=by omega
 have e8:((v.2.1:Int) - ((v.2.1:Int) - 8)).toNat=8:=by omega
 rw[en] at hT hu ⊢;rw[e8,List.take_of_length_le (by rw[List.length_drop];omega)] at hu;have uE:n<=v.2.2:=by omega
 have Oa:iI bs=bs.take n:=by unfold iI;rw[hn]
 have Yx:xG bs=bs.drop n:=by unfold xG;rw[hn]
 rw[<- Oa] at hT;rw[<- Yx] at hu;have BY:(iI bs).length=n:=by rw[Oa,List.length_take];omega
 refine eI.of (f2.af (f1.af se)) (by simp[cT,U]) ?_;refine ab.of (GP (v:=(v.1,n,v.2.2)) U hT uE (by omega)) ?_;rintro _ w3 ⟨rfl,f3⟩;refine⟨_,rfl,?_⟩;have hr:=FZ kb (iI bs);refine GY _ hr.1 hr.2 w3 fun q w4 hq f4=>?_;have f24:=f3.trans f4;refine ab.of (VT (hu.af f24) hq.rd) ?_;rintro _ _ ⟨rfl,rfl⟩;refine⟨_,rfl,?_⟩;have CU:=nB.trans f24;have dw:=f24.af aK;refine aa.not (aa.by (fun heq=>?_) (fun ay=>fail 12 (by rw[hO,if_pos (by intro t;rw[t] at ay;simp at ay)]) w4 dw CU));rw[if_neg (by simpa using heq)] at hO;refine aa.dec (fun aS=>?_) (fun acm=>?_)
 ·exact fail 2 (by rw[hO,if_pos (by omega)]) w4 dw CU
 rw[if_neg (by omega)] at hO;have Oc:=hT.af f24;have qg:=N8 (iI bs);have Yy:=Yt (iI bs);refine ab.of (Yq (v:=(v.1,n,v.2.2)) Oc uE (by omega) (ht.af CU)) ?_;rintro _ w5 ⟨rfl,f5⟩;generalize iI bs=tx at *;generalize ic tx=X at *;refine⟨X.f,rfl,?_⟩;refine cK (zs:=dC jx.f) (vs:=dC X.f) rfl (CT X) fun g6 w6 HJ fI f6=>?_;have f46:=f5.trans f6;have xP:=CU.trans f46;refine aq.aE (cks:=FK) (x:=X.f) fI ?_;refine ab.of (Yu X qg.e qg.2.2.2.2 Yy w6 (ht.af xP)) ?_;rintro _ w7 ⟨y,rfl,hy,f7⟩;refine⟨(y,(kW X).2,()),rfl,?_⟩;have tT:=xP.trans f7;have gP:=f7.af (f46.af dw);dsimp only;refine aa.ne (fun ay=>?_) (fun he=>?_)
 ·exact fail 2 (by rw[hO,if_pos (.inl ay)]) w7 gP tT
 refine ab.of (GC (u:=(v.1,n,v.2.2)) hy.is.rd ((Oc.af f46).af f7)) ?_;rintro _ _ ⟨rfl,rfl⟩;refine⟨_,rfl,aa.not (aa.by (fun mn=>?_) (fun Hn=>?_))⟩
 ·rw[if_neg (by rw[he];simpa using mn)] at hO
  rw[hO];refine aq.aE (cks:=FK) (x:=X.f) (f7.af fI) ?_;refine ar.aE (cs:=dC jx.f) (vs:=dC X.f) gP rfl (CT X) fun w8 j2 f8 _=>aq.aE (cks:=FK) (x:=X.f) j2 ?_;exact⟨rfl,tT.fresh f8 (by omega)⟩
 ·exact fail 2 (by rw[hO,if_pos (.inr (by intro t;rw[t] at Hn;simp at Hn))]) w7 gP tT
theorem xQ (m:aT):(du m).2=iR m:=by
 unfold du iZ iR;split
 ·rfl
 ·rename_i h;exact(Classical.not_not.1 h).symm
theorem Ao (x:eW):(gj x).2=iR x.1:=by
 have h:=xQ x.1;unfold du at h;unfold gj tE;split
 ·exact h
 ·rename_i h2;rw[h] at h2;exact(Classical.not_not.1 h2).symm
theorem Od {m:aT}(h:iR m=0):du m=((du m).1,0):=by
 have:=xQ m;rw[h] at this;exact Prod.ext rfl this
theorem Oe {m:aT}(h:iR m=0):fQ false (du m).1=(m,0):=Md false (Od h)
theorem HK {x:eW}(h:iR x.1=0):(gj x).1=(if x.2=true then 1 else 0)::(du x.1).1:=by
 have h2:=xQ x.1;rw[h] at h2;unfold gj tE;rw[if_neg (fun t=>t h2)];rfl
theorem Yz {x:eW}(h:iR x.1=0):iH false (gj x).1=(x,0):=by
 have e:=Oe h;rw[HK h];unfold iH;obtain⟨m,r⟩:=x;rw[if_neg (by cases r<;>simp),if_neg (by rw[List.drop_one,List.tail_cons,e];simp)]
 rw[List.drop_one,List.tail_cons,e];cases r<;>rfl
theorem HM (bs:List UInt8):dB (fQ false bs).1:=by
 unfold fQ;split
 ·exact GB false bs
 ·exact dJ
theorem Of (bs:List UInt8):dB (iH false bs).1.1:=by
 unfold iH;split
 ·exact dJ
 split
 ·exact dJ
 ·exact HM _
theorem Og (kb bs:List UInt8):dB (eR kb bs).1.m:=by
 unfold eR
 repeat' split
 all_goals first | exact dJ | exact N8 _
theorem YA {m:aT}(h:iR m=0):(cR m.1 73=true->m.2.1.length<=48)/\(cR m.1 78=true->m.2.2.1.length<=48)/\(cR m.1 76=true->m.2.2.2.1.length<=48)/\(cR m.1 67=true->m.2.2.2.2.1.length<=48):=by
 obtain⟨_,_,hn,_⟩:=B8 h;unfold oN at hn;simp only[Bool.and_eq_true,Bool.or_eq_true,Bool.not_eq_true'] at hn;have nm:∀ s:List UInt8,pJ (str s)=true->s.length<=48:=fun s hs=>BS (by unfold pJ at hs;unfold eZ;simpa[str] using hs);obtain⟨⟨⟨h1,h2⟩,h3⟩,h4⟩:=hn;have e0:m.e.1=m.1:=rfl;rw[e0] at h1 h2 h3 h4;refine⟨fun q=>?_,fun q=>?_,fun q=>?_,fun q=>?_⟩
 ·rw[q] at h1;exact nm _ (h1.resolve_left (by simp))
 ·rw[q] at h2;exact nm _ (h2.resolve_left (by simp))
 ·rw[q] at h3;exact nm _ (h3.resolve_left (by simp))
 ·rw[q] at h4;exact nm _ (h4.resolve_left (by simp))
def HN (c:UInt8):Nat:=if c=68 then 8 else if c=86 then 8 else if c=84 then 1002 else 49
theorem Oh (q:UInt8->Bool)(f:UInt8->List UInt8):∀ l:List UInt8,(∀ c∈l,q c=true->(f c).length<=HN c)->((l.filter q).flatMap f).length<=(l.map HN).sum
 | [],_=>by simp
 | c::l,h=>by
  have ih:=Oh q f l fun d hd=>h d (List.mem_cons_of_mem _ hd);rw[List.filter_cons,List.map_cons,List.sum_cons];split
  ·rename_i hq
   have:=h c (by simp) hq;rw[List.flatMap_cons,List.length_append];omega
  ·omega
theorem CV {m:aT}(h:iR m=0):(du m).1.length<=1215:=by
 obtain⟨n1,n2,n3,n4⟩:=YA h;have hw:=tz m.t;have h':mm m.e (bp m.t).2=0:=h;unfold du iZ;rw[if_neg (fun t=>t h')];have:=Oh (cR m.1) (eY m.e (bp m.t).1) pL (fun c hc hq=>by
  simp only[pL,List.mem_cons,List.not_mem_nil,or_false] at hc;have sz:∀ s:List UInt8,s.length<=48->(kn (str s).data.toList).length<=49:=fun s hs=>by unfold kn;simp[str];omega
  rcases hc with rfl | rfl | rfl | rfl | rfl | rfl | rfl
  ·exact sz m.2.1 (n1 hq)
  ·exact sz m.2.2.1 (n2 hq)
  ·exact sz m.2.2.2.1 (n3 hq)
  ·exact sz m.2.2.2.2.1 (n4 hq)
  ·show(cu _).length<=8;rw[iB];exact Nat.le_refl _
  ·show(cu _).length<=8;rw[iB];exact Nat.le_refl _
  ·show(_::_::(bp m.t).1).length<=1002;simp only[List.length_cons];omega)
 have e:(pL.map HN).sum=1214:=by decide
 rw[e] at this;simp only[List.length_cons];have e2:(eM m.e.1).flatMap (eY m.e (bp m.t).1)=(pL.filter (cR m.1)).flatMap (eY m.e (bp m.t).1):=rfl;rw[e2];omega
theorem Oi {x:eW}(h:iR x.1=0):(gj x).1.length<=1216:=by
 rw[HK h,List.length_cons];have:=CV h;omega
structure eu (p q:PeerM):Prop where
 kb:p.kb=q.kb
 side:p.side=q.side
 es:p.es=q.es
 hs:p.hs=q.hs
 cd:p.cd=q.cd
 aY:p.aY=q.aY
theorem eu.refl (p:PeerM):eu p p:=⟨rfl,rfl,rfl,rfl,rfl,rfl⟩
theorem eu.symm {p q:PeerM}(h:eu p q):eu q p:=⟨h.kb.symm,h.side.symm,h.es.symm,h.hs.symm,h.cd.symm,h.aY.symm⟩
theorem eu.trans {p q r:PeerM}(h:eu p q)(k:eu q r):eu p r:=⟨h.kb.trans k.kb,h.side.trans k.side,h.es.trans k.es,h.hs.trans k.hs,h.cd.trans k.cd,h.aY.trans k.aY⟩
theorem eu.len {p q:PeerM}(h:eu p q):p.len=q.len:=by unfold PeerM.len;rw[h.es]
theorem eu.head {p q:PeerM}(h:eu p q):p.head=q.head:=by unfold PeerM.head;rw[h.es,h.hs]
theorem eu.entry {p q:PeerM}(h:eu p q)(x:eW):(p.entry x).2=(q.entry x).2/\eu (p.entry x).1 (q.entry x).1:=by
 unfold PeerM.entry;rw[h.es,h.kb,h.head,h.cd,h.len];split
 ·exact⟨rfl,h⟩
 split
 ·exact⟨rfl,h⟩
 split
 ·exact⟨rfl,h⟩
 ·exact⟨rfl,rfl,h.side,rfl,(by dsimp only;rw[h.hs]),rfl,rfl⟩
theorem sB (p:PeerM)(a:bV):eu (p.ended a) { p with aY:=if a.cY=true then(a.bM,true) else p.aY }:=by
 unfold PeerM.ended PeerM.kY;split
 ·exact⟨rfl,rfl,rfl,rfl,rfl,rfl⟩
 ·exact⟨rfl,rfl,rfl,rfl,rfl,rfl⟩
theorem eu.ended {p q:PeerM}(h:eu p q){a b:bV}(hp:a.cY=b.cY)(he:a.cY=true->a.bM=b.bM):eu (p.ended a) (q.ended b):=by
 refine(sB p a).trans (eu.trans ?_ (sB q b).symm);refine⟨h.kb,h.side,h.es,h.hs,h.cd,?_⟩;dsimp only;rw[<- hp];split
 ·rename_i t;rw[he t]
 ·exact h.aY
theorem eu.bW {p q:PeerM}(h:eu p q){a b:bV}(hE:a.dc=b.dc)(hx:a.dc=true->a.bh=b.bh)(hp:a.cY=b.cY)(he:a.cY=true->a.bM=b.bM):(p.bW a).2=(q.bW b).2/\eu (p.bW a).1 (q.bW b).1:=by
 unfold PeerM.bW;rw[<- hE];split
 ·rename_i t
  rw[<- hx t,(h.entry a.bh).1];split
  ·exact⟨rfl,h⟩
  ·exact⟨rfl,(h.entry a.bh).2.ended hp he⟩
 ·exact⟨rfl,h.ended hp he⟩
def vD:cp:=⟨[],0,0,false,0,false⟩
def log (kb:List UInt8)(side:Int)(rs:List (List UInt8)):NodeM×Bool:=(NodeM.fresh kb side vD []).records rs
theorem YB (n:NodeM)(j:jO)(b:List UInt8):({ n with j:=j }:NodeM).record b=({ (n.record b).1 with j:=j },(n.record b).2):=by
 unfold NodeM.record;cases b with
 | nil=>rfl
 | cons c r=>
  dsimp only;split
  ·rfl
  split
  ·split<;>rfl
  split
  ·split
   ·rfl
   split<;>rfl
  ·rfl
theorem tU (n:NodeM)(b:List UInt8)(l:List (List UInt8)):n.records (b::l)=if(n.record b).2=true then(n.record b).1.records l else((n.record b).1,false):=rfl
theorem Oj (j:jO):∀ (l:List (List UInt8)) (n:NodeM),({ n with j:=j }:NodeM).records l=({ (n.records l).1 with j:=j },(n.records l).2)
 | [],n=>rfl
 | b::l,n=>by
  rw[tU,tU,YB];dsimp only;split
  ·exact Oj j l _
  ·rfl
theorem YC (kb:List UInt8)(side:Int)(fs:cp)(rs l:List (List UInt8)):(NodeM.fresh kb side fs rs).records l=({ (log kb side l).1 with j:=⟨fs,false,rs⟩ },(log kb side l).2):=
 Oj ⟨fs,false,rs⟩ l (NodeM.fresh kb side vD [])
theorem Ol:∀ (l m:List (List UInt8)) (n:NodeM),n.records (l++m)=if(n.records l).2=true then(n.records l).1.records m else n.records l
 | [],m,n=>by simp[NodeM.records]
 | b::l,m,n=>by
  rw[List.cons_append,tU,tU]
  by_cases h:(n.record b).2=true
  ·rw[if_pos h,if_pos h,Ol l m]
  ·rw[if_neg h,if_neg h];simp
theorem vE {kb:List UInt8}{side:Int}{l:List (List UInt8)}{b:List UInt8}(h:(log kb side l).2=true):log kb side (l++[b])=(log kb side l).1.record b:=by
 unfold log at *;rw[Ol,if_pos h,tU];generalize((NodeM.fresh kb side vD []).records l).1.record b=r
 by_cases t:r.2=true
 ·rw[if_pos t];exact Prod.ext rfl t.symm
 ·rw[if_neg t];exact Prod.ext rfl (by simpa using t)
theorem Om (n:NodeM)(b:List UInt8):(n.record b).1.kb=n.kb/\(n.record b).1.side=n.side/\(n.record b).1.j=n.j/\(n.record b).1.w=n.w/\(n.record b).1.number=n.number:=by
 unfold NodeM.record;cases b with
 | nil=>exact⟨rfl,rfl,rfl,rfl,rfl⟩
 | cons c r=>
  dsimp only;split
  ·exact⟨rfl,rfl,rfl,rfl,rfl⟩
  split
  ·split<;>exact⟨rfl,rfl,rfl,rfl,rfl⟩
  split
  ·split
   ·exact⟨rfl,rfl,rfl,rfl,rfl⟩
   split<;>exact⟨rfl,rfl,rfl,rfl,rfl⟩
  ·exact⟨rfl,rfl,rfl,rfl,rfl⟩
theorem HO:∀ (l:List (List UInt8)) (n:NodeM),(n.records l).1.kb=n.kb/\(n.records l).1.side=n.side/\(n.records l).1.j=n.j/\(n.records l).1.w=n.w/\(n.records l).1.number=n.number
 | [],n=>⟨rfl,rfl,rfl,rfl,rfl⟩
 | b::l,n=>by
  rw[tU];obtain⟨a1,a2,a3,a4,a5⟩:=Om n b;split
  ·obtain⟨b1,b2,b3,b4,b5⟩:=HO l (n.record b).1
   exact⟨b1.trans a1,b2.trans a2,b3.trans a3,b4.trans a4,b5.trans a5⟩
  ·exact⟨a1,a2,a3,a4,a5⟩
theorem xR {l:cG}{m:aT}{b:Int}(h:jf l m b=0):iR m=0:=by
 unfold jf iG at h;split at h
 ·cases h
 split at h
 ·exact h
 ·rename_i t;exact Classical.not_not.1 t
theorem YD (n:Int):PeerM.owner n=0\/PeerM.owner n=1:=by unfold PeerM.owner;split<;>simp
theorem YE {n s:Int}(h:PeerM.owner n=s):n % 2=s:=by
 unfold PeerM.owner at h;split at h<;>omega
def sC (p:PeerM):Prop:=p.aY.2=true->PeerM.owner p.len=p.side/\jf p.cd p.aY.1 p.side=0/\p.es.length<64
structure Fits (p:PeerM)(a:bV):Prop where
 one:a.dc=true->a.cY=false
 own:a.cY=true->PeerM.owner p.len=p.side/\jf p.cd a.bM p.side=0/\p.es.length<64
 bh:a.dc=true->(p.entry a.bh).2=0
 new:a.cY=true->p.aY.2=false/\(p.off.2=true/\a.bM=p.off.1\/p.off.2=false/\a.bM=xH)
 src:a.dc=true->PeerM.owner p.len≠p.side\/p.aY.2=true/\a.bh.1=p.aY.1
theorem kZ {p:PeerM}{a:bV}(h1:a.dc=false)(h2:a.cY=false):Fits p a:=⟨fun t=>(by rw[h1] at t;cases t),fun t=>(by rw[h2] at t;cases t),fun t=>(by rw[h1] at t;cases t),fun t=>(by rw[h2] at t;cases t),fun t=>(by rw[h1] at t;cases t)⟩
theorem On {p:PeerM}(m:aT)(ho:PeerM.owner p.len=p.side)(hf:¬ p.full=true)(hp:¬ p.aY.2=true)(hm:p.off.2=true/\m=p.off.1\/p.off.2=false/\m=xH):Fits p (p.kC m):=by
 unfold PeerM.kC;split
 ·exact kZ rfl rfl
 ·rename_i t
  exact⟨fun t=>(by cases t),fun _=>⟨ho,Classical.not_not.1 t,by unfold PeerM.full at hf;simpa using hf⟩,fun t=>(by cases t),fun _=>⟨by simpa using hp,hm⟩,fun t=>(by cases t)⟩
theorem Oo (p:PeerM):Fits p p.tick:=by
 unfold PeerM.tick;split
 ·exact kZ rfl rfl
 split
 ·exact kZ rfl rfl
 rename_i hf;split
 ·exact kZ rfl rfl
 rename_i hp;split
 ·rename_i t;exact On _ t.1 hf hp (.inl ⟨t.2,rfl⟩)
 rename_i ho;split
 ·rename_i t;exact On _ t.1 hf hp (.inr ⟨by simpa using fun q=>ho ⟨t.1,q⟩,rfl⟩)
 split
 ·exact kZ rfl rfl
 ·exact kZ rfl rfl
theorem Oq {p:PeerM}{x:eW}(h1:p.es.length<64)(h2:(fm p.kb p.head x).2=0)(h3:x.2=false->jf p.cd x.1 (PeerM.owner p.len)=0):(p.entry x).2=0:=by
 unfold PeerM.entry;rw[if_neg (by omega),if_neg (fun t=>t h2),if_neg (fun t=>t.2 (h3 t.1))]
theorem Ot {p:PeerM}(hs:p.side=0\/p.side=1)(hp:sC p)(f:cc):Fits p (p.take f):=by
 unfold PeerM.take;split
 ·exact kZ rfl rfl
 split
 ·exact kZ rfl rfl
 split
 ·exact kZ rfl rfl
 split
 ·unfold PeerM.want;split<;>exact kZ rfl rfl
 split
 ·unfold PeerM.lR
  split
  ·exact kZ rfl rfl
  split
  ·exact kZ rfl rfl
  split
  ·exact kZ rfl rfl
  split
  ·exact kZ rfl rfl
  ·rename_i h1 h2 h3 h4
   refine⟨fun _=>rfl,fun t=>(by cases t),fun _=>?_,fun t=>(by cases t),fun _=>.inl ?_⟩
   rotate_left
   ·have hl:f.2.2.2.2.1=p.len:=by have:¬ p.len<f.2.2.2.2.1:=fun t=>h3 (.inl t);omega
    rw[<- hl];exact fun t=>h1 (.inl t)
   have hl:f.2.2.2.2.1=p.len:=by have:¬ p.len<f.2.2.2.2.1:=fun t=>h3 (.inl t);omega
   have ho:PeerM.owner p.len=1 - p.side:=by
    have h5:¬ PeerM.owner f.2.2.2.2.1=p.side:=fun t=>h1 (.inl t);rw[hl] at h5
    rcases YD p.len with t | t<;>omega
   refine Oq ?_ (Classical.not_not.1 h4) fun t=>?_
   ·have:¬ p.full=true:=fun t=>h3 (.inr t)
    unfold PeerM.full at this;simpa using this
   ·rw[ho]
    dsimp only at t;unfold PeerM.fX at t;rw[Bool.or_eq_false_iff] at t;simpa using t.1
 ·unfold PeerM.om
  split
  ·exact kZ rfl rfl
  split
  ·exact kZ rfl rfl
  split
  ·exact kZ rfl rfl
  split
  ·exact kZ rfl rfl
  ·rename_i h1 h2 h3 h4
   refine⟨fun _=>rfl,fun t=>(by cases t),fun _=>?_,fun t=>(by cases t),fun _=>.inr ⟨by simpa using h3,rfl⟩⟩;obtain⟨o1,o2,Ap⟩:=hp (by simpa using h3);refine Oq Ap (Classical.not_not.1 fun t=>h4 (.inl t)) fun t=>?_;rw[o1];exact o2
theorem Fits.bW {p:PeerM}{a:bV}(h:Fits p a):(p.bW a).2=0:=by
 unfold PeerM.bW;split
 ·rename_i t;rw[if_neg (fun q=>q (h.bh t))]
 ·rfl
theorem sC.bW {p:PeerM}{a:bV}(hp:sC p)(h:Fits p a):sC (p.bW a).1:=by
 have hc:∀ q:PeerM,eu p q->sC q:=fun q s t=>by
  obtain⟨a1,a2,a3⟩:=hp (by rw[s.aY];exact t);rw[<- s.len,<- s.side,<- s.cd,<- s.aY,<- s.es];exact⟨a1,a2,a3⟩
 unfold PeerM.bW;split
 ·rename_i t
  rw[if_neg (fun q=>q (h.bh t))];have e:=sB (p.entry a.bh).1 a;have hP:=h.one t;intro w;rw[e.aY] at w;dsimp only at w;rw[if_neg (by rw[hP];simp)] at w
  exfalso
  have h0:=h.bh t;unfold PeerM.entry at w h0;split at h0
  ·cases h0
  rename_i g1;rw[if_neg g1] at w;split at h0
  ·rename_i q;exact q h0
  rename_i g2;rw[if_neg g2] at w;split at h0
  ·rename_i q;exact q.2 h0
  rename_i g3;rw[if_neg g3] at w;cases w
 ·have e:=sB p a
  intro w;rw[e.aY] at w;rw[e.len,e.side,e.cd,e.aY,e.es];dsimp only at w ⊢;cases hP:a.cY with
  | true=>rw[if_pos rfl];exact h.own hP
  | false=>rw[hP] at w;rw[if_neg (by simp)] at w ⊢;exact hp w
theorem CW (s:cp):(dq s).2=true->(dq s).1.dead=s.dead:=by
 unfold dq;split
 ·intro h;cases h
 ·intro _;rfl
theorem HP (s:cp)(h:s.lit=false):(dq s).2=true/\(dq s).1.lit=false:=by
 unfold dq;rw[h];exact⟨rfl,rfl⟩
def Holds (s:cp)(rs:List (List UInt8))(y:List UInt8):Prop:=s.b=jh rs++y/\s.synced=((jh rs).length:Int)
theorem Ou {j:jO}{x:List UInt8}(hd:j.d=false)(hf:j.fs.dead=false)(hb:Holds j.fs j.rs [])(hx:x.length<=4000):
  ((j.put x).2=0/\(j.put x).1.d=false/\(j.put x).1.rs=j.rs++[x]/\(j.put x).1.fs.dead=false/\Holds (j.put x).1.fs (j.rs++[x]) []) \/
  ((j.put x).2=10/\(j.put x).1.d=false/\(j.put x).1.rs=j.rs/\(j.put x).1.fs=j.fs) \/
  ((j.put x).2=11/\(j.put x).1.d=true/\(j.put x).1.rs=j.rs/\((j.put x).1.fs.b=j.fs.b\/(j.put x).1.fs.b=j.fs.b++dE x)/\(j.put x).1.fs.synced=j.fs.synced):=by
 obtain⟨hb,hs⟩:=hb;rw[List.append_nil] at hb;unfold jO.put iw;dsimp only;rw[if_neg (by rw[hd,hf];simp),if_neg (by omega)];obtain⟨e1,e2,e3⟩:=pe j.fs;have hA:fo j.fs (dE x)=if((dE x).length:Int) > j.fs.cF - j.fs.b.length then(j.fs,10) else if(dq j.fs).2 then({ (dq j.fs).1 with b:=j.fs.b++dE x },0) else((dq j.fs).1,11):=by
  unfold fo;rw[if_neg (by rw[hf];simp)]
 by_cases hq:((dE x).length:Int) > j.fs.cF - j.fs.b.length
 ·rw[hA,if_pos hq,if_pos (by simp)]
  exact .inr (.inl ⟨rfl,rfl,rfl,rfl⟩)
 rw[if_neg hq] at hA
 by_cases h1:(dq j.fs).2=true
 ·rw[if_pos h1] at hA
  rw[hA,if_neg (fun t=>t rfl)];generalize gk:({ (dq j.fs).1 with b:=j.fs.b++dE x }:cp)=s2
  have d2:s2.dead=false:=by rw[<- gk];exact(CW _ h1).trans hf
  have b2:s2.b=j.fs.b++dE x:=by rw[<- gk]
  have y2:s2.synced=j.fs.synced:=by rw[<- gk];exact e3
  obtain⟨g1,g2,g3⟩:=pe s2;have hS:iJ s2=if(dq s2).2 then({ (dq s2).1 with synced:=s2.b.length },0) else((dq s2).1,11):=by unfold iJ;rw[if_neg (by rw[d2];simp)]
  by_cases h2:(dq s2).2=true
  ·rw[if_pos h2] at hS
   rw[hS,if_neg (fun t=>t rfl)];refine .inl ⟨rfl,rfl,rfl,(CW _ h2).trans d2,?_,?_⟩
   ·show(dq s2).1.b=_
    rw[g1,b2,hb,HB,List.append_nil]
   ·show(s2.b.length:Int)=_
    rw[b2,hb,HB]
  ·rw[if_neg h2] at hS
   rw[hS,if_pos (by simp)];exact .inr (.inr ⟨rfl,rfl,rfl,.inr (g1.trans b2),g3.trans y2⟩)
 ·rw[if_neg h1] at hA
  rw[hA,if_pos (by simp)];exact .inr (.inr ⟨rfl,rfl,rfl,.inl e1,e3⟩)
theorem YF {L:NodeM}{p:PeerM}{a:bV}(hc:eu L.p p)(hs:L.side=p.side)(hf:Fits p a)(hb:a.dc=true\/a.cY=true)(h0:(NodeM.dI a).2=0):
  (L.record (NodeM.dI a).1).2=true/\eu (L.record (NodeM.dI a).1).1.p (p.bW a).1/\(L.record (NodeM.dI a).1).1.bg=L.bg:=by
 have qO:=hf.bW;unfold NodeM.dI at h0 ⊢
 by_cases hE:a.dc=true
 ·rw[if_pos hE] at h0 ⊢
  have hP:=hf.one hE;have U:iR a.bh.1=0:=by rw[<- Ao];exact h0
  unfold NodeM.record;dsimp only;rw[if_neg (by decide),if_pos rfl,Yz U,if_neg (fun t=>t rfl)];dsimp only;have:=hc.bW (a:={ bH with dc:=true,bh:=a.bh }) (b:=a) hE.symm (fun _=>rfl) hP.symm (fun t=>by cases t)
  refine⟨?_,this.2,rfl⟩;rw[this.1,qO];rfl
 ·rw[if_neg hE] at h0 ⊢
  have hP:a.cY=true:=hb.resolve_left hE;obtain⟨o1,o2,o3⟩:=hf.own hP;have U:iR a.bM=0:=xR o2;unfold NodeM.record;dsimp only;rw[if_neg (by decide),if_neg (by decide),if_pos rfl,Oe U,if_neg (fun t=>t rfl),if_neg (by rw[hc.len,hs];exact fun t=>t (YE o1))];have YG:a.dc=false:=by simpa using hE
  have:=hc.bW (a:={ bH with cY:=true,bM:=a.bM }) (b:=a) YG.symm (fun t=>by cases t) hP.symm (fun _=>rfl)
  exact⟨rfl,this.2,rfl⟩
theorem YH {a:bV}(h0:(NodeM.dI a).2=0):(NodeM.dI a).1.length<=4000:=by
 unfold NodeM.dI at h0 ⊢;split
 ·rename_i t
  rw[if_pos t] at h0;have:=Oi (x:=a.bh) (by rw[<- Ao];exact h0);simp only[List.length_cons];omega
 ·rename_i t
  rw[if_neg t] at h0;have:=CV (m:=a.bM) (by rw[<- xQ];exact h0);simp only[List.length_cons];omega
def YI (n:NodeM)(x:List UInt8):Prop:=
 x.length<=4000/\(log n.kb n.side (n.j.rs++[x])).2=true/\∃ a,Fits n.p a/\(a.dc=true\/a.cY=true)/\qq a/\eu (log n.kb n.side (n.j.rs++[x])).1.p (n.p.bW a).1/\(log n.kb n.side (n.j.rs++[x])).1.bg=n.bg
structure CX (n:NodeM):Prop where
 ok:(log n.kb n.side n.j.rs).2=true
 p:eu (log n.kb n.side n.j.rs).1.p n.p
 bg:(log n.kb n.side n.j.rs).1.bg=n.bg
 rows:∀ r∈n.j.rs,r.length<=4000
structure Live (n:NodeM):Prop where
 ok:cO n.p
 side:n.p.side=n.side
 kb:n.p.kb=n.kb
 aY:sC n.p
 log:CX n
 xS:n.j.fs.Ok
 live:n.j.d=false->n.j.fs.dead=false/\Holds n.j.fs n.j.rs []
 dead:n.j.d=true->∃ y,Holds n.j.fs n.j.rs y/\(y=[]\/∃ x,y=dE x/\YI n x)
theorem HR {s:cp}(h:s.Ok):(dq s).1.Ok:=by
 unfold dq;split<;>exact⟨h.len,h.q0,h.q1,h.s0,h.s1⟩
theorem Ov {s:cp}(h:s.Ok)(d:Bool)(x:List UInt8):(iw s d x).1.Ok:=by
 have sD:=HR h;obtain⟨e1,e2,e3⟩:=pe s;have hA:(fo s (dE x)).1.Ok:=by
  unfold fo;split
  ·exact h
  split
  ·exact h
  rename_i hq;split
  ·have h4:=h.s1;have h5:=h.q1
   refine⟨?_,sD.q0,sD.q1,sD.s0,?_⟩
   ·show(s.b++dE x).length<=_
    rw[List.length_append];omega
   ·show(dq s).1.synced<=((s.b++dE x).length:Int)
    rw[e3,List.length_append];omega
  ·exact sD
 have hS:∀ {s:cp},s.Ok->(iJ s).1.Ok:=fun{s} h=>by
  have sD:=HR h;obtain⟨e1,e2,e3⟩:=pe s;unfold iJ;split
  ·exact h
  split
  ·refine⟨sD.len,sD.q0,sD.q1,?_,?_⟩
   ·show(0:Int)<=(s.b.length:Int);omega
   ·show(s.b.length:Int)<=((dq s).1.b.length:Int);rw[e1];exact Int.le_refl _
  ·exact sD
 unfold iw;split
 ·exact h
 split
 ·exact h
 split
 ·exact hA
 split
 ·exact hS hA
 ·exact hS hA
theorem CX.snoc {n n':NodeM}(h:CX n){x:List UInt8}(U:n'.kb=n.kb)(hs:n'.side=n.side)(hr:n'.j.rs=n.j.rs++[x])(hx:x.length<=4000)(h1:((log n.kb n.side n.j.rs).1.record x).2=true)(h2:eu ((log n.kb n.side n.j.rs).1.record x).1.p n'.p)(h3:((log n.kb n.side n.j.rs).1.record x).1.bg=n'.bg):CX n':=by
 have e:=vE (b:=x) h.ok;refine⟨?_,?_,?_,?_⟩
 ·rw[U,hs,hr,e];exact h1
 ·rw[U,hs,hr,e];exact h2
 ·rw[U,hs,hr,e];exact h3
 ·rw[hr];intro r hr
  rcases List.mem_append.1 hr with hr | hr
  ·exact h.rows r hr
  ·simp at hr;subst hr;exact hx
theorem Ow (kb:List UInt8)(side:Int)(l:List (List UInt8)):(log kb side l).1.kb=kb/\(log kb side l).1.side=side/\(log kb side l).1.number=0:=by
 obtain⟨a,b,c,d,e⟩:=HO l (NodeM.fresh kb side vD []);exact⟨a,b,e⟩
theorem Live.ag {n:NodeM}(h:Live n)(hd:n.j.d=false){a:bV}(hf:Fits n.p a)(ha:qq a):
  ((n.ag a).2=0/\(n.ag a).1.j.d=false/\(n.ag a).1.p=n.p/\Live { (n.ag a).1 with p:=(n.p.bW a).1 }/\(n.ag a).1.bg=n.bg/\(n.ag a).1.number=n.number/\(n.ag a).1.kb=n.kb/\(n.ag a).1.side=n.side/\(n.ag a).1.w=n.w) \/
  ((n.ag a).2≠0/\(n.ag a).1.p=n.p/\Live (n.ag a).1/\((n.ag a).2=11↔(n.ag a).1.j.d=true)/\(n.ag a).1.bg=n.bg/\(n.ag a).1.number=n.number/\(n.ag a).1.kb=n.kb/\(n.ag a).1.side=n.side/\(n.ag a).1.w=n.w/\((n.ag a).1.j.d=false->(n.ag a).1=n)):=by
 obtain⟨CS,hH⟩:=h.live hd
 by_cases hn:a.dc=false/\a.cY=false
 ·have e:n.ag a=(n,0):=by unfold NodeM.ag;rw[if_pos hn]
  rw[e];refine .inl ⟨rfl,hd,rfl,?_,rfl,rfl,rfl,rfl,rfl⟩;have hc:eu n.p (n.p.bW a).1:=by
   unfold PeerM.bW;rw[if_neg (by rw[hn.1];simp)];refine eu.symm ((sB n.p a).trans ?_);rw[hn.2];exact eu.refl _
  exact⟨h.ok.bW ha.bh ha.bM,hc.side.symm.trans h.side,hc.kb.symm.trans h.kb,h.aY.bW hf,⟨h.log.ok,h.log.p.trans hc,h.log.bg,h.log.rows⟩,h.xS,h.live,fun t=>by rw[hd] at t;cases t⟩
 have hb:a.dc=true\/a.cY=true:=by
  cases hE:a.dc
  ·cases hP:a.cY
   ·exact absurd ⟨hE,hP⟩ hn
   ·exact .inr rfl
  ·exact .inl rfl
 have HS:(NodeM.dI a).2=0:=by
  unfold NodeM.dI;split
  ·rename_i t
   have h0:=hf.bh t;show(gj a.bh).2=0;unfold PeerM.entry at h0;split at h0
   ·cases h0
   split at h0
   ·rename_i q;exact absurd h0 q
   rename_i q;have q:=Classical.not_not.1 q;unfold fm at q;split at q
   ·rename_i r;exact q
   ·rename_i r;exact Classical.not_not.1 r
  ·rename_i t
   have:=hf.own (hb.resolve_left t);show(du a.bM).2=0;rw[xQ];exact xR this.2.1
 have hx:=YH HS;have e:n.ag a=({ n with j:=(n.j.put (NodeM.dI a).1).1 },(n.j.put (NodeM.dI a).1).2):=by
  unfold NodeM.ag;rw[if_neg hn,if_neg (fun t=>t HS)]
 obtain⟨lk,ls,ln⟩:=Ow n.kb n.side n.j.rs;have lU:=YF h.log.p (ls.trans h.side.symm) hf hb HS;have Ox:(n.j.put (NodeM.dI a).1).1.fs.Ok:=Ov h.xS _ _;have hcs:(n.p.bW a).1.side=n.p.side/\(n.p.bW a).1.kb=n.p.kb:=by
  unfold PeerM.bW;split
  ·split
   ·exact⟨rfl,rfl⟩
   ·have:=sB (n.p.entry a.bh).1 a
    have e2:(n.p.entry a.bh).1.side=n.p.side/\(n.p.entry a.bh).1.kb=n.p.kb:=by
     unfold PeerM.entry;split
     ·exact⟨rfl,rfl⟩
     split
     ·exact⟨rfl,rfl⟩
     split<;>exact⟨rfl,rfl⟩
    exact⟨this.side.trans e2.1,this.kb.trans e2.2⟩
  ·have:=sB n.p a
   exact⟨this.side,this.kb⟩
 rw[e]
 rcases Ou hd CS hH hx with⟨c0,c1,c2,c3,c4⟩ | ⟨c0,c1,c2,c3⟩ | ⟨c0,c1,c2,c3,c4⟩
 ·refine .inl ⟨c0,c1,rfl,?_,rfl,rfl,rfl,rfl,rfl⟩
  refine⟨h.ok.bW ha.bh ha.bM,hcs.1.trans h.side,hcs.2.trans h.kb,h.aY.bW hf,?_,Ox,fun _=>⟨c3,by rw[<- c2] at c4;exact c4⟩,fun t=>by rw[c1] at t;cases t⟩;exact h.log.snoc rfl rfl c2 hx lU.1 lU.2.1 (lU.2.2.trans h.log.bg)
 ·refine .inr ⟨by rw[c0];decide,rfl,?_,⟨fun t=>(by rw[c0] at t;cases t),fun t=>(by rw[c1] at t;cases t)⟩,rfl,rfl,rfl,rfl,rfl,fun _=>?_⟩
  ·have ej:(n.j.put (NodeM.dI a).1).1=n.j:=by
    generalize(n.j.put (NodeM.dI a).1).1=j' at c1 c2 c3;cases j';simp only at c1 c2 c3;cases sE:n.j;rw[sE] at c2 c3 hd;simp only at c2 c3 hd;rw[c1,c2,c3,hd]
   rw[ej];exact h
  ·have ej:(n.j.put (NodeM.dI a).1).1=n.j:=by
    generalize(n.j.put (NodeM.dI a).1).1=j' at c1 c2 c3;cases j';simp only at c1 c2 c3;cases sE:n.j;rw[sE] at c2 c3 hd;simp only at c2 c3 hd;rw[c1,c2,c3,hd]
   rw[ej]
 ·refine .inr ⟨by rw[c0];decide,rfl,?_,⟨fun _=>c1,fun _=>c0⟩,rfl,rfl,rfl,rfl,rfl,fun t=>by dsimp only at t;rw[c1] at t;cases t⟩
  refine⟨h.ok,h.side,h.kb,h.aY,⟨?_,?_,?_,?_⟩,Ox,fun t=>(by rw[c1] at t;cases t),fun _=>?_⟩
  ·dsimp only;rw[c2];exact h.log.ok
  ·dsimp only;rw[c2];exact h.log.p
  ·dsimp only;rw[c2];exact h.log.bg
  ·dsimp only;rw[c2];exact h.log.rows
  ·dsimp only
   obtain⟨au,aK⟩:=hH;rw[List.append_nil] at au
   rcases c3 with c3 | c3
   ·exact⟨[],⟨by rw[c2,c3,au,List.append_nil],by rw[c2,c4,aK]⟩,.inl rfl⟩
   ·refine⟨dE (NodeM.dI a).1,⟨by rw[c2,c3,au],by rw[c2,c4,aK]⟩,.inr ⟨_,rfl,hx,?_,a,hf,hb,ha,?_,?_⟩⟩
    ·rw[c2,vE h.log.ok];exact lU.1
    ·rw[c2,vE h.log.ok];exact lU.2.1
    ·rw[c2,vE h.log.ok];exact lU.2.2.trans h.log.bg
theorem Live.YJ {n:NodeM}(h:Live n)(k:Int):Live { n with number:=k }:=⟨h.ok,h.side,h.kb,h.aY,⟨h.log.ok,h.log.p,h.log.bg,h.log.rows⟩,h.xS,h.live,fun t=>h.dead t⟩
theorem Live.Oy {n:NodeM}(h:Live n)(w:rk):Live { n with w:=w }:=⟨h.ok,h.side,h.kb,h.aY,⟨h.log.ok,h.log.p,h.log.bg,h.log.rows⟩,h.xS,h.live,fun t=>h.dead t⟩
theorem Live.YK {n:NodeM}(h:Live n){p:PeerM}(hp:eu n.p p)(ho:dB p.off.1)(hq:n.j.d=false\/p.off=n.p.off):Live { n with p:=p }:=by
 have YL:sC p:=fun t=>by
  obtain⟨a1,a2,a3⟩:=h.aY (by rw[hp.aY];exact t);rw[<- hp.len,<- hp.side,<- hp.cd,<- hp.aY,<- hp.es];exact⟨a1,a2,a3⟩
 refine⟨⟨?_,?_,?_,?_,?_,?_,ho,?_,?_⟩,hp.side.symm.trans h.side,hp.kb.symm.trans h.kb,YL,⟨h.log.ok,h.log.p.trans hp,h.log.bg,h.log.rows⟩,h.xS,h.live,fun t=>?_⟩
 ·rw[<- hp.kb];exact h.ok.kb
 ·rw[<- hp.side];exact h.ok.side
 ·rw[<- hp.hs,<- hp.es];exact h.ok.hs
 ·rw[<- hp.es];exact h.ok.num
 ·rw[<- hp.hs];exact h.ok.lz
 ·rw[<- hp.es];exact h.ok.es
 ·rw[<- hp.aY];exact h.ok.aY
 ·rw[<- hp.cd];exact h.ok.cd
 ·obtain⟨y,hy,hx⟩:=h.dead t
  have hq:=hq.resolve_left (fun u=>by have t:n.j.d=true:=t;rw[t] at u;cases u);refine⟨y,hy,hx.imp id fun⟨x,q,l,r1,a,hf,hb,ha,r2,r3⟩=>⟨x,q,l,r1,a,?_,hb,ha,?_,r3⟩⟩
  ·refine⟨hf.one,fun t=>?_,fun t=>?_,fun t=>?_,fun t=>?_⟩
   ·have:=hf.own t
    rw[<- hp.len,<- hp.side,<- hp.cd,<- hp.es];exact this
   ·have:=hf.bh t
    rw[<- (hp.entry a.bh).1];exact this
   ·have:=hf.new t
    rw[<- hp.aY,hq];exact this
   ·have:=hf.src t
    rw[<- hp.len,<- hp.side,<- hp.aY];exact this
  ·exact r2.trans (hp.bW rfl (fun _=>rfl) rfl (fun _=>rfl)).2
theorem Live.act {n:NodeM}(h:Live n)(hd:n.j.d=false){a:bV}(hf:Fits n.p a)(ha:qq a):Live (n.act a).1:=by
 unfold NodeM.act
 rcases h.ag hd hf ha with⟨c0,c1,c2,c3,c4,c5,c6,c7,c8⟩ | ⟨c0,c1,c2,c3⟩
 ·rw[if_neg (fun t=>t c0),c2,if_neg (fun t=>t hf.bW)]
  exact Live.YJ c3 _
 ·rw[if_pos c0];exact c2
theorem Live.take {n:NodeM}(h:Live n)(b:List UInt8):Live (n.take b).1:=by
 unfold NodeM.take NodeM.dead;split
 ·exact h
 rename_i hd;split
 ·exact h
 split
 ·exact h
 split
 ·exact h
 ·exact(h.Oy _).act (by simpa using hd) (Ot h.ok.side h.aY _) (h.ok.take (Og _ _))
theorem Live.offer {n:NodeM}(h:Live n){m:aT}(hm:dB m):Live (n.offer m).1:=by
 unfold NodeM.offer NodeM.dead;split
 ·exact h
 ·rename_i hd
  refine h.YK ?_ (h.ok.offer hm).off (.inl (by simpa using hd));unfold PeerM.offer;split
  ·exact eu.refl _
  split
  ·exact eu.refl _
  split
  ·exact eu.refl _
  split
  ·exact eu.refl _
  ·exact⟨rfl,rfl,rfl,rfl,rfl,rfl⟩
theorem YM {bs q:List UInt8}{l:List (List UInt8)}(h:pj bs l q):∀ n,l.length<=n->xM n bs=(l,q):=by
 induction h with
 | stop h0=>
  intro n _;cases n with
  | zero=>rfl
  | succ n=>unfold xM;rw[h0]
 | next h0 _ ih=>
  intro n hn;cases n with
  | zero=>simp at hn
  | succ n=>
   unfold xM;rw[h0];dsimp only;rw[ih n (by simpa using hn)]
theorem HT {bs q:List UInt8}{l:List (List UInt8)}(h:pj bs l q):vz bs=(l,q):=YM h _ (by have:=h.len;omega)
theorem YN {j:jO}{x:List UInt8}(hd:j.d=false)(hf:j.fs.dead=false)(hl:j.fs.lit=false)(hx:x.length<=4000):
  (j.put x).2≠11/\(j.put x).1.fs.lit=false/\(j.put x).1.fs.cF=j.fs.cF/\((j.put x).2=10->j.fs.cF - j.fs.b.length<x.length+3):=by
 obtain⟨e1,e2,e3⟩:=pe j.fs;obtain⟨k1,k2⟩:=HP _ hl;unfold jO.put iw;dsimp only;rw[if_neg (by rw[hd,hf];simp),if_neg (by omega)];have hA:fo j.fs (dE x)=if((dE x).length:Int) > j.fs.cF - j.fs.b.length then(j.fs,10) else({ (dq j.fs).1 with b:=j.fs.b++dE x },0):=by
  unfold fo;rw[if_neg (by rw[hf];simp),if_pos k1]
 by_cases hq:((dE x).length:Int) > j.fs.cF - j.fs.b.length
 ·rw[hA,if_pos hq,if_pos (by simp)]
  refine⟨by simp,hl,rfl,fun _=>?_⟩;rw[xI] at hq;omega
 rw[if_neg hq] at hA;rw[hA,if_neg (fun t=>t rfl)];generalize gk:({ (dq j.fs).1 with b:=j.fs.b++dE x }:cp)=s2
 have d2:s2.dead=false:=by rw[<- gk];exact(CW _ k1).trans hf
 have l2:s2.lit=false:=by rw[<- gk];exact k2
 have q2:s2.cF=j.fs.cF:=by rw[<- gk];exact e2
 obtain⟨g1,g2,g3⟩:=pe s2;obtain⟨m1,m2⟩:=HP _ l2;have hS:iJ s2=({ (dq s2).1 with synced:=s2.b.length },0):=by unfold iJ;rw[if_neg (by rw[d2];simp),if_pos m1]
 rw[hS,if_neg (fun t=>t rfl)];exact⟨by simp,m2,g2.trans q2,fun t=>by cases t⟩
theorem Oz:([1]:List UInt8).length<=4000:=by decide
theorem YO {kb:List UInt8}(U:kb.length=16){side:Int}(hs:side=0\/side=1){s:cp}(ok:s.Ok)(hd:s.dead=false)(hl:s.lit=false){R:List (List UInt8)}{rest:List UInt8}(hP:pj s.b R rest)(ht:s.b.take (s.b.length - rest.length)=jh R)
  (YP:s.synced=(s.b.length:Int)) (hR:∀ r∈R,r.length<=4000) (CY:(log kb side R).2=true) (jV:cO (log kb side R).1.p) (hp:sC (log kb side R).1.p) (Hk:(log kb side R).1.p.side=side/\(log kb side R).1.p.kb=kb) :
  (∃ m,NodeM.open_ kb side s=(m.j.fs,some m,0)/\Live m/\m.kb=kb/\m.side=side/\m.p=(log kb side R).1.p/\m.bg=(log kb side R).1.bg+1/\m.number=0/\m.w=vA/\m.j.rs=R++[[1]]/\m.j.d=false/\m.j.fs.lit=false/\m.j.fs.cF=s.cF) \/
  (∃ s',NodeM.open_ kb side s=(s',none,10)/\s'.cF - s'.b.length<4/\s'.b=jh R/\s'.cF=s.cF):=by
 have OA:rest.length<=s.b.length:=by have:=hP.len;omega
 obtain⟨s1,e1,b1,d1,l1,y1,YQ,q1⟩:∃ s1,lT s=(s1,R,0)/\s1.b=jh R/\s1.dead=false/\s1.lit=false/\s1.synced=((jh R).length:Int)/\s1.Ok/\s1.cF=s.cF:=by
  unfold lT;rw[HT hP,if_neg (by rw[hd];simp)];dsimp only
  by_cases h0:rest=[]
  ·subst h0
   rw[if_pos rfl];have:s.b=jh R:=by rw[<- ht];simp
   exact⟨s,rfl,this,hd,hl,by rw[YP,this],ok,rfl⟩
  ·rw[if_neg h0]
   have dz:=HP s hl;obtain⟨g1,g2,g3⟩:=pe s;have hc:lB s ((s.b.length - rest.length:Nat):Int)=({ (dq s).1 with b:=s.b.take (s.b.length - rest.length),synced:=((s.b.length - rest.length:Nat):Int) },0):=by
    unfold lB;rw[if_neg (by rw[hd];simp),if_neg (by omega),if_neg (by omega),if_pos dz.1];rfl
   rw[hc];have hlen:(jh R).length=s.b.length - rest.length:=by rw[<- ht,List.length_take];omega
   have xT:=HR ok;refine⟨_,rfl,ht,(CW _ dz.1).trans hd,dz.2,by rw[hlen],?_,g2⟩;have:=ok.len;exact⟨by dsimp only;rw[ht];omega,xT.q0,xT.q1,by dsimp only;omega,by dsimp only;rw[ht];omega⟩
 unfold NodeM.open_;rw[if_neg (by rcases hs with rfl | rfl<;>decide),e1]
 dsimp only;rw[if_neg (fun t=>t rfl),YC,CY,if_neg (by simp)];obtain⟨lk,ls,ln⟩:=Ow kb side R;have lw:(log kb side R).1.w=vA:=(HO R (NodeM.fresh kb side vD [])).2.2.2.1;have hH:Holds s1 R []:=⟨by rw[b1,List.append_nil],y1⟩;obtain⟨p1,p2,p3,p4⟩:=YN (j:=⟨s1,false,R⟩) (x:=[1]) rfl d1 l1 Oz
 rcases Ou (j:=⟨s1,false,R⟩) (x:=[1]) rfl d1 hH Oz with⟨c0,c1,c2,c3,c4⟩ | ⟨c0,c1,c2,c3⟩ | ⟨c0,_⟩
 ·rw[if_neg (fun t=>t c0)]
  refine .inl ⟨{ (log kb side R).1 with j:=(jO.put ⟨s1,false,R⟩ [1]).1,bg:=(log kb side R).1.bg+1 },rfl,?_,lk,ls,rfl,rfl,ln,lw,c2,c1,p2,p3.trans q1⟩
  refine⟨jV,Hk.1.trans ls.symm,Hk.2.trans lk.symm,hp,?_,Ov YQ _ _,fun _=>⟨c3,by dsimp only;rw[c2];exact c4⟩,fun t=>by dsimp only at t;rw[c1] at t;cases t⟩;refine⟨?_,?_,?_,?_⟩<;>dsimp only<;>rw[c2]
  ·rw[lk,ls,vE CY];rfl
  ·rw[lk,ls,vE CY];exact eu.refl _
  ·rw[lk,ls,vE CY];rfl
  ·intro r hr
   rcases List.mem_append.1 hr with hr | hr
   ·exact hR r hr
   ·simp at hr;subst hr;decide
 ·rw[if_pos (by rw[c0];decide),c0]
  refine .inr ⟨_,rfl,?_⟩;have:=p4 c0;have c3:(jO.put ⟨s1,false,R⟩ [1]).1.fs=s1:=c3;rw[c3];have e:([1]:List UInt8).length=1:=rfl;rw[e] at this;dsimp only at this;exact⟨by omega,b1,q1⟩
 ·exact absurd c0 p1
theorem OB {n:NodeM}(h:cO n.p)(b:List UInt8):cO (n.record b).1.p/\(n.record b).1.p.side=n.p.side/\(n.record b).1.p.kb=n.p.kb:=by
 have hcs:∀ a:bV,(n.p.bW a).1.side=n.p.side/\(n.p.bW a).1.kb=n.p.kb:=by
  intro a;unfold PeerM.bW;split
  ·split
   ·exact⟨rfl,rfl⟩
   ·have:=sB (n.p.entry a.bh).1 a
    have e2:(n.p.entry a.bh).1.side=n.p.side/\(n.p.entry a.bh).1.kb=n.p.kb:=by
     unfold PeerM.entry;split
     ·exact⟨rfl,rfl⟩
     split
     ·exact⟨rfl,rfl⟩
     split<;>exact⟨rfl,rfl⟩
    exact⟨this.side.trans e2.1,this.kb.trans e2.2⟩
  ·have:=sB n.p a
   exact⟨this.side,this.kb⟩
 unfold NodeM.record;cases b with
 | nil=>exact⟨h,rfl,rfl⟩
 | cons c r=>
  dsimp only;split
  ·exact⟨h,rfl,rfl⟩
  split
  ·split
   ·exact⟨h,rfl,rfl⟩
   ·exact⟨h.bW (Of r) dJ,hcs _⟩
  split
  ·split
   ·exact⟨h,rfl,rfl⟩
   split
   ·exact⟨h,rfl,rfl⟩
   ·exact⟨h.bW dJ (HM r),hcs _⟩
  ·exact⟨h,rfl,rfl⟩
theorem OC:∀ (l:List (List UInt8)) {n:NodeM},cO n.p->cO (n.records l).1.p/\(n.records l).1.p.side=n.p.side/\(n.records l).1.p.kb=n.p.kb
 | [],n,h=>⟨h,rfl,rfl⟩
 | b::l,n,h=>by
  rw[tU];obtain⟨a1,a2,a3⟩:=OB h b;split
  ·obtain⟨b1,b2,b3⟩:=OC l a1
   exact⟨b1,b2.trans a2,b3.trans a3⟩
  ·exact⟨a1,a2,a3⟩
theorem YR {kb:List UInt8}(U:kb.length=16){side:Int}(hs:side=0\/side=1)(l:List (List UInt8)):cO (log kb side l).1.p/\(log kb side l).1.p.side=side/\(log kb side l).1.p.kb=kb:=by
 obtain⟨a,b,c⟩:=OC l (n:=NodeM.fresh kb side vD []) (N5 U side);refine⟨a,b.trans ?_,c⟩
 rcases hs with rfl | rfl<;>rfl
def vF (f:cc):Prop:=∀ side bg number:Int,(side=0\/side=1)->iS bg=true->iS number=true->ny (side,bg,number,f.2.2.2)=0
theorem Aq {kind slot head:Int}{flag:Bool}{m:aT}(U:1<=kind/\kind<=4)(hs:iS slot=true)(hf:flag=true->kind≠1/\kind≠3)(h1:kind=1->iR m=0)(h2:kind≠1->m=bb):vF (PeerM.fr kind slot head flag m):=by
 intro side bg number a b c;show kB (side,bg,number,kind,slot,head,flag,m.e) (bp m.t).2=0;have e1:nx (side,bg,number,kind,slot,head,flag,m.e)=true:=by
  unfold nx;dsimp only;rw[b,c,hs];rcases a with rfl | rfl<;>rfl
 have e2:tI (side,bg,number,kind,slot,head,flag,m.e)=true:=by
  unfold tI;dsimp only;rw[decide_eq_true U.1,decide_eq_true U.2];cases flag with
  | false=>rfl
  | true=>obtain⟨x,y⟩:=hf rfl;simp[x,y]
 unfold kB;rw[if_neg (by rw[e1];simp),if_neg (by rw[e2];simp)]
 by_cases k:kind=1
 ·rw[if_pos (by exact k)];exact h1 k
 ·have hz:ss bb.e=true:=by decide +kernel
  rw[if_neg (by exact k),if_neg];rw[h2 k];show ¬ ss bb.e=false;rw[hz];simp
theorem CZ {p:PeerM}(h:cO p):iS p.len=true:=by
 have:=h.num;unfold iS PeerM.len;rw[decide_eq_true (by omega),decide_eq_true (by omega)];rfl
theorem C0 {g:cc}(h:vF g):∀ f∈[g],vF f:=fun f hf=>by
 have:f=g:=by simpa using hf
 rw[this];exact h
theorem OD {p:PeerM}(h:cO p)(m:aT):∀ f∈(p.kC m).bJ,vF f:=by
 unfold PeerM.kC;split
 ·exact fun f hf=>nomatch hf
 ·rename_i t
  exact C0 (Aq (by decide) (CZ h) (fun t=>by cases t) (fun _=>xR (Classical.not_not.1 t)) (fun t=>absurd rfl t))
theorem YS {p:PeerM}(h:cO p)(hp:sC p):∀ f∈p.tick.bJ,vF f:=by
 unfold PeerM.tick;split
 ·exact C0 (Aq (by decide) (CZ h) (fun _=>by decide) (fun t=>by cases t) (fun _=>rfl))
 split
 ·exact fun f hf=>nomatch hf
 split
 ·rename_i t
  exact C0 (Aq (by decide) (CZ h) (fun t=>by cases t) (fun _=>xR (hp t).2.1) (fun t=>absurd rfl t))
 split
 ·exact OD h _
 split
 ·exact OD h _
 split
 ·exact C0 (Aq (by decide) (CZ h) (fun t=>by cases t) (fun t=>by cases t) (fun _=>rfl))
 ·exact fun f hf=>nomatch hf
theorem YT {kb:List UInt8}{m:cc}(h:ny m=0):(ib kb m).2=0:=by
 have h:kB m.f (bp m.m.t).2=0:=h;have hb:(j3 m.f (bp m.m.t).1 (bp m.m.t).2).2=0:=by
  unfold j3;rw[if_neg (fun t=>t h)];split<;>rfl
 unfold ib vt;rw[if_neg (fun t=>t hb)]
theorem OE {kb:List UInt8}{m:cc}(h:ny m=0)(hh:0<=m.2.2.2.2.2.1/\m.2.2.2.2.2.1<18446744073709551616):eR kb (ib kb m).1=(m,0):=by
 have h:kB m.f (bp m.m.t).2=0:=h;have hb:(j3 m.f (bp m.m.t).1 (bp m.m.t).2).2=0:=by
  unfold j3;rw[if_neg (fun t=>t h)];split<;>rfl
 have e:(ib kb m).1=(kW m).1++gG (nq kb (kW m).1):=by
  unfold ib vt;rw[if_neg (fun t=>t hb)];rfl
 rw[e];exact Wm hh (show kW m=((kW m).1,0) from Prod.ext rfl hb)
theorem OF {kb:List UInt8}{m:cc}(h:ny m=0):(ib kb m).1.length<=5000:=by
 have h:kB m.f (bp m.m.t).2=0:=h;have hx:(j3 m.f (bp m.m.t).1 (bp m.m.t).2).2=0:=by
  unfold j3;rw[if_neg (fun t=>t h)];split<;>rfl
 unfold ib vt;rw[if_neg (fun t=>t hx),List.length_append,qa];unfold j3;rw[if_neg (fun t=>t h)];split
 ·show(rf _).length+8<=5000
  rw[Aa];decide
 ·rename_i rX
  have YU:iR m.m=0:=(Cx h).2.2.2.2.2.1 (Classical.not_not.1 rX);have:=CV YU;show(rf _++(du m.m).1).length+8<=5000;rw[List.length_append,Aa];omega
theorem HU {n:NodeM}{a:bV}(hf:Fits n.p a):(a.dc=false/\a.cY=false/\n.ag a=(n,0)) \/
  ((a.dc=true\/a.cY=true)/\(NodeM.dI a).2=0/\(NodeM.dI a).1.length<=1217/\n.ag a=({ n with j:=(n.j.put (NodeM.dI a).1).1 },(n.j.put (NodeM.dI a).1).2)):=by
 by_cases hn:a.dc=false/\a.cY=false
 ·exact .inl ⟨hn.1,hn.2,by unfold NodeM.ag;rw[if_pos hn]⟩
 have hb:a.dc=true\/a.cY=true:=by
  cases hE:a.dc
  ·cases hP:a.cY
   ·exact absurd ⟨hE,hP⟩ hn
   ·exact .inr rfl
  ·exact .inl rfl
 have both:(NodeM.dI a).2=0/\(NodeM.dI a).1.length<=1217:=by
  unfold NodeM.dI
  by_cases hE:a.dc=true
  ·rw[if_pos hE]
   have h0:=hf.bh hE;have U:iR a.bh.1=0:=by
    rw[<- Ao];unfold PeerM.entry at h0;split at h0
    ·cases h0
    split at h0
    ·rename_i q;exact absurd h0 q
    rename_i q;have q:=Classical.not_not.1 q;unfold fm at q;split at q
    ·exact q
    ·rename_i r;exact Classical.not_not.1 r
   refine⟨by rw[show((2:UInt8)::(gj a.bh).1,(gj a.bh).2).2=(gj a.bh).2 from rfl,Ao];exact U,?_⟩;have:=Oi U;simp only[List.length_cons];omega
  ·rw[if_neg hE]
   have U:iR a.bM=0:=xR (hf.own (hb.resolve_left hE)).2.1;refine⟨by rw[show((3:UInt8)::(du a.bM).1,(du a.bM).2).2=(du a.bM).2 from rfl,xQ];exact U,?_⟩;have:=CV U;simp only[List.length_cons];omega
 exact .inr ⟨hb,both.1,both.2,by unfold NodeM.ag;rw[if_neg hn,if_neg (fun t=>t both.1)]⟩
theorem HV {n:NodeM}(a:bV):(n.ag a).1.p=n.p/\(n.ag a).1.kb=n.kb/\(n.ag a).1.side=n.side/\(n.ag a).1.bg=n.bg/\(n.ag a).1.number=n.number/\(n.ag a).1.w=n.w:=by
 unfold NodeM.ag;split
 ·exact⟨rfl,rfl,rfl,rfl,rfl,rfl⟩
 split<;>exact⟨rfl,rfl,rfl,rfl,rfl,rfl⟩
theorem YV {n:NodeM}{a:bV}(h:Live n)(hf:Fits n.p a)(ha:qq a)(U:(n.ag a).2=0)(hs:∀ f∈a.bJ,vF f)(he:iS n.bg=true)(hn:iS n.number=true):
  n.act a=({ (n.ag a).1 with p:=(n.p.bW a).1,number:=n.number+(a.bJ.length:Int) },a.bJ.map (fun f=>(ib n.kb (n.side,n.bg,n.number,f.2.2.2)).1),0):=by
 obtain⟨k1,k2,k3,k4,k5,k6⟩:=HV (n:=n) a;have vG:n.side=0\/n.side=1:=by rw[<- h.side];exact h.ok.side
 unfold NodeM.act;rw[if_neg (fun t=>t U),k1,if_neg (fun t=>t hf.bW)];have hl:=ha.num
 match sF:a.bJ with
 | []=>simp[NodeM.jP]
 | [f]=>
  have hc:=YT (kb:=n.kb) (hs f (by rw[sF];simp) n.side n.bg n.number vG he hn);simp[NodeM.jP,hc]
 | f::g::l=>rw[sF] at hl;simp at hl
theorem YW (s:cp)(x:List UInt8):((fo s x).1.b=s.b\/(fo s x).1.b=s.b++x)/\(fo s x).1.cF=s.cF:=by
 obtain⟨e1,e2,e3⟩:=pe s;unfold fo;split
 ·exact⟨.inl rfl,rfl⟩
 split
 ·exact⟨.inl rfl,rfl⟩
 split
 ·exact⟨.inr rfl,e2⟩
 ·exact⟨.inl e1,e2⟩
theorem YX (s:cp):(iJ s).1.b=s.b/\(iJ s).1.cF=s.cF:=by
 obtain⟨e1,e2,e3⟩:=pe s;unfold iJ;split
 ·exact⟨rfl,rfl⟩
 split
 ·exact⟨e1,e2⟩
 ·exact⟨e1,e2⟩
theorem YY (j:jO)(x:List UInt8):(j.put x).1.fs.b.length<=j.fs.b.length+(x.length+3)/\(j.put x).1.fs.cF=j.fs.cF:=by
 obtain⟨a1,a2⟩:=YW j.fs (dE x);obtain⟨b1,b2⟩:=YX (fo j.fs (dE x)).1;have ha:(fo j.fs (dE x)).1.b.length<=j.fs.b.length+(x.length+3):=by
  rcases a1 with t | t
  ·rw[t];omega
  ·rw[t,List.length_append,xI];omega
 unfold jO.put iw;dsimp only;split
 ·exact⟨by dsimp only;omega,rfl⟩
 split
 ·exact⟨by dsimp only;omega,rfl⟩
 split
 ·exact⟨ha,a2⟩
 split
 ·exact⟨by dsimp only;rw[b1];exact ha,by dsimp only;rw[b2,a2]⟩
 ·exact⟨by dsimp only;rw[b1];exact ha,by dsimp only;rw[b2,a2]⟩
theorem YZ {n:NodeM}{a:bV}(hf:Fits n.p a):(n.ag a).1.j.fs.b.length<=n.j.fs.b.length+1220/\(n.ag a).1.j.fs.cF=n.j.fs.cF/\(a.dc=false->a.cY=false->(n.ag a).1=n)/\(n.ag a).1.j.fs.b.length<=n.j.fs.b.length+((NodeM.dI a).1.length+3):=by
 rcases HU hf with⟨_,_,e⟩ | ⟨hb,_,hl,e⟩
 ·rw[e];exact⟨by dsimp only;omega,rfl,fun _ _=>rfl,by dsimp only;omega⟩
 ·rw[e]
  have:=YY n.j (NodeM.dI a).1;exact⟨by have:=this.1;dsimp only;omega,this.2,fun h1 h2=>by rw[h1,h2] at hb;simp at hb,this.1⟩
theorem Y0 {j:jO}{x:List UInt8}(hd:j.d=false)(hf:j.fs.dead=false)(hl:j.fs.lit=false)(hx:x.length<=4000)(hr:(x.length:Int)+3<=j.fs.cF - j.fs.b.length):
  (j.put x).2=0/\(j.put x).1.d=false/\(j.put x).1.rs=j.rs++[x]/\(j.put x).1.fs.b=j.fs.b++dE x/\(j.put x).1.fs.cF=j.fs.cF/\(j.put x).1.fs.lit=false/\(j.put x).1.fs.dead=false:=by
 obtain⟨a,b,c,d,e,f,g,i⟩:=XO hl hf hx hr;unfold jO.put;rw[hd];exact⟨a,c,by rw[b];rfl,d,e,g,i⟩
theorem Y1 {j:jO}{x:List UInt8}(hd:j.d=false)(hf:j.fs.dead=false)(hx:x.length<=4000)(hr:(x.length:Int)+3 > j.fs.cF - j.fs.b.length):j.put x=(j,10):=by
 have e:=XP hf hx hr;unfold jO.put;rw[hd,e];obtain⟨fs,d,rs⟩:=j;simp only at hd;subst hd;rfl
theorem Y2 {n:NodeM}(h:Live n)(hd:n.j.d=false)(hl:n.j.fs.lit=false){a:bV}(hf:Fits n.p a){L:Nat}(hL:L=1217\/(NodeM.dI a).1.length<=L)(hr:(n.j.fs.b.length:Int)+L+3<=n.j.fs.cF):(n.ag a).2=0/\(n.ag a).1.j.fs.lit=false/\(n.ag a).1.j.d=false:=by
 rcases HU hf with⟨_,_,e⟩ | ⟨_,_,hx,e⟩
 ·rw[e];exact⟨rfl,hl,hd⟩
 ·rw[e]
  obtain⟨p1,p2,p3,p4,p5,p6,p7⟩:=Y0 hd (h.live hd).1 hl (x:=(NodeM.dI a).1) (by omega) (by omega);exact⟨p1,p6,p2⟩
theorem OG:∀ l:List (List UInt8),3 * l.length<=(jh l).length
 | []=>Nat.zero_le _
 | x::l=>by
  have:=OG l;show 3 * (l.length+1)<=(dE x++jh l).length;rw[List.length_append,xI];omega
theorem Live.HW {n:NodeM}(h:Live n):n.j.rs.length<=1000000:=by
 obtain⟨y,hy⟩:∃ y,Holds n.j.fs n.j.rs y:=by
  cases hd:n.j.d with
  | false=>exact⟨[],(h.live hd).2⟩
  | true=>obtain⟨y,a,_⟩:=h.dead hd;exact⟨y,a⟩
 have h1:=h.xS.len;rw[hy.1,List.length_append] at h1;have:=OG n.j.rs;omega
theorem eu.eq {p q:PeerM}(h:eu p q)(h1:p.off=q.off)(h2:p.wanted=q.wanted)(h3:p.bG=q.bG)(h4:p.refused=q.refused):p=q:=by
 obtain⟨a1,a2,a3,a4,a5,a6⟩:=h;cases p;cases q;simp only at *;subst a1 a2 a3 a4 a5 a6 h1 h2 h3 h4;rfl
theorem Y3 {n:NodeM}(h:Live n)(hd:n.j.d=false):n.j.fs.b=jh n.j.rs:=by
 have:=(h.live hd).2.1;rwa[List.append_nil] at this
theorem Y4 (R:List (List UInt8)):(jh (R++[[1]])).length=(jh R).length+4:=by
 rw[HB,List.length_append,xI];rfl
theorem Y5 {kb:List UInt8}(U:kb.length=16){side:Int}(hs:side=0\/side=1){q:Int}(h4:4<=(pd q).cF):
  ∃ m,NodeM.open_ kb side (pd q)=(m.j.fs,some m,0)/\Live m/\m.kb=kb/\m.side=side/\m.p=mE kb side/\m.bg=1/\m.number=0/\m.w=vA/\m.j.rs=[[1]]/\m.j.d=false/\m.j.fs.lit=false/\m.j.fs.cF=(pd q).cF/\m.j.fs.b.length=4:=by
 have hP:pj (pd q).b [] []:=.stop (by
  show qo []=none;unfold qo;rw[if_pos (by simp)])
 have e0:(log kb side [])=(NodeM.fresh kb side vD [],true):=rfl;obtain⟨o1,o2,o3⟩:=YR U hs []
 rcases YO U hs (Nq q) rfl rfl hP rfl rfl (fun r hr=>nomatch hr) (by rw[e0]) o1 (by rw[e0];exact fun t=>by cases t) ⟨o2,o3⟩ with⟨m,m1,m2,m3,m4,m5,m6,m7,m8,m9,m10,m11,m12⟩ | ⟨s',_,h,hb,hq⟩
 ·refine⟨m,m1,m2,m3,m4,by rw[m5,e0];rfl,by rw[m6,e0];rfl,m7,m8,m9,m10,m11,m12,?_⟩
  rw[Y3 m2 m10,m9,Y4];rfl
 ·rw[hq] at h
  have:s'.b.length=0:=by rw[hb];rfl
  omega
namespace Vc
variable {P:Program}
inductive Pv where
 | i (n:Int)
 | s (l:List UInt8)
 | b (x:Bool)
 deriving DecidableEq
def Pv.v:Pv->Value
 | .i n=>.int .i64 n
 | .s l=>.string (str l)
 | .b x=>.bool x
def ow (P:Program)(t:TypeId):Pv->Prop
 | .i _=>P.underlying t=some (.int .i64)
 | .s _=>P.underlying t=some .string
 | .b _=>P.underlying t=some .bool
def Ar (P:Program):Nat->List Field->List Pv->Prop
 | _,[],[]=>True
 | n, f :: fs, p :: ps => f.name ≠ "_" /\ f.offset = n /\ ow P f.type p /\ Ar P (n + 1) fs ps
 | _,_,_=>False
theorem HX {t:TypeId}{p:Pv}(ht:ow P t p){cs:Array Value}{n:Nat}(hc:cs[n]? = some p.v)(w:World):(part t cs n).run P w=.ok p.v w:=by
 cases p<;>simp only[ow] at ht<;>simp[part,isAgg,run_underlying ht,hc]
theorem Y6 {t:TypeId}{p q:Pv}(hp:ow P t p)(hq:ow P t q)(d:Nat)(w:World):(Op.equalIn (d+1) t p.v q.v).run P w=.ok (decide (p=q)) w:=by
 cases p with
 | i n=>cases q with
  | i m=>
   refine(run_equalIn_int w d t .i64 .i64 n m hp).trans ?_
   congr 1
   by_cases h:n=m
   ·subst h;simp
   ·simp[h]
  | s m=>simp only[ow] at hp hq;rw[hp] at hq;cases hq
  | b m=>simp only[ow] at hp hq;rw[hp] at hq;cases hq
 | s l=>cases q with
  | i m=>simp only[ow] at hp hq;rw[hp] at hq;cases hq
  | s m=>
   refine(run_equalIn_string w d t _ _ hp).trans ?_;rw[iW]
   congr 1
   exact decide_eq_decide.2 ⟨fun h=>by rw[h],fun h=>by injection h⟩
  | b m=>simp only[ow] at hp hq;rw[hp] at hq;cases hq
 | b x=>cases q with
  | i m=>simp only[ow] at hp hq;rw[hp] at hq;cases hq
  | s m=>simp only[ow] at hp hq;rw[hp] at hq;cases hq
  | b y=>
   refine(run_equalIn_bool' w d t x y hp).trans ?_
   congr 1
   cases x<;>cases y<;>rfl
theorem OH (d:Nat)(w:World):∀ (fs:List Field) (ps qs pre As:List Pv) (n:Nat),pre.length=n->As.length=n->Ar P n fs ps->Ar P n fs qs ->
  (Op.eqFields (d+1) ((pre++ps).map Pv.v).toArray ((As++qs).map Pv.v).toArray fs).run P w=.ok (decide (ps=qs)) w
 | [],[],[],_,_,_,_,_,_,_=>by simp[Op.eqFields]
 | [],[],_::_,_,_,_,_,_,_,h=>h.elim
 | [],_::_,_,_,_,_,_,_,h,_=>h.elim
 | _::_,[],_,_,_,_,_,_,h,_=>h.elim
 | _::_,_::_,[],_,_,_,_,_,_,h=>h.elim
 | f::fs,p::ps,q::qs,pre,As,n,h1,h2,⟨hn,ho,hp,Y7⟩,⟨_,_,hq,Y8⟩=>by
  have c1:(((pre++p::ps).map Pv.v).toArray)[f.offset]? = some p.v:=by rw[ho];simp[<- h1]
  have c2:(((As++q::qs).map Pv.v).toArray)[f.offset]? = some q.v:=by rw[ho];simp[<- h2]
  simp only[Op.eqFields,ne_eq,hn,not_false_eq_true,if_true,Sem.run_bind,HX hp c1,HX hq c2,Result.andThen_ok,Y6 hp hq]
  by_cases h:p=q
  ·subst h
   have ih:=OH d w fs ps qs (pre++[p]) (As++[p]) (n+1) (by simp[h1]) (by simp[h2]) Y7 Y8;rw[List.append_assoc,List.append_assoc,List.singleton_append,List.singleton_append] at ih;simp only[decide_true,if_true];exact ih.trans (by simp)
  ·simp[h]
structure vH (P:Program)(t:TypeId)(ps:List Pv):Prop where
 und:P.underlying t=some (.struct (P.fieldsOf t))
 held:P.stoodInHeld t=false
 guard:P.eqGuardType P.depth t=false
 fits:Ar P 0 (P.fieldsOf t).toList ps
theorem OI {t:TypeId}{ps qs:List Pv}(h:vH P t ps)(h':vH P t qs)(d:Nat)(w:World):(Op.equalIn (d+2) t (.agg (ps.map Pv.v).toArray) (.agg (qs.map Pv.v).toArray)).run P w=.ok (decide (ps=qs)) w:=by
 rw[run_equalIn_agg w _ _ _ _ h.und h.held];exact OH d w _ ps qs [] [] 0 rfl rfl h.fits h'.fits
theorem Y9 {t:TypeId}{ps qs:List Pv}(h:vH P t ps)(h':vH P t qs)(o1 o2:Operand)(w:World):
  (do eqGuard .eql t o1 o2 (.agg (ps.map Pv.v).toArray) (.agg (qs.map Pv.v).toArray);binOp .eql t (.agg (ps.map Pv.v).toArray) (.agg (qs.map Pv.v).toArray):Sem Value).run P w=.ok (.bool (decide (ps=qs))) w:=by
 rw[Sem.run_bind,run_eqGuard_agg w _ _ _ _ _ _ h.guard,Result.andThen_ok,run_eql_struct,OI h h' 9998];rfl
structure tV (P:Program)(kt:TypeId){κ:Type}(enc:κ->List Pv):Prop where
 ty:∀ a,vH P kt (enc a)
 inj:∀ a b,enc a=enc b->a=b
def eT (ps:List Pv):Value:=.agg (ps.map Pv.v).toArray
def fY {κ ν:Type}(enc:κ->List Pv)(ev:ν->Value)(w:World)(g:Nat)(l:List (κ×ν)):Prop:=
 ∃ es clock,w.heap[g]? = some (.map es clock)/\es.toList.map (fun e=>(e.key,e.val))=l.map (fun x=>(eT (enc x.1),ev x.2))/\(∀ x∈es.toList,x.born<clock)/\(es.toList.map (·.born)).Nodup
theorem fY.ag {κ ν:Type}{enc:κ->List Pv}{ev:ν->Value}{w w':World}{g:Nat}{l:List (κ×ν)}(h:fY enc ev w g l){S:Nat->Prop}(f:Fr S w w')(hn:¬ S g):fY enc ev w' g l:=by
 obtain⟨es,c,hb,r⟩:=h;exact⟨es,c,f.ag hb hn,r⟩
theorem fY.af {κ ν:Type}{enc:κ->List Pv}{ev:ν->Value}{w w':World}{g:Nat}{l:List (κ×ν)}(h:fY enc ev w g l)(f:Fr none1 w w'):fY enc ev w' g l:=h.ag f fun t=>t
theorem fY.new {κ ν:Type}{enc:κ->List Pv}{ev:ν->Value}{w:World}{g c:Nat}(h:w.heap[g]? = some (.map #[] c)):fY enc ev w g ([]:List (κ×ν)):=⟨_,_,h,rfl,by simp,by simp⟩
theorem fY.len {κ ν:Type}{enc:κ->List Pv}{ev:ν->Value}{w:World}{g:Nat}{l:List (κ×ν)}(h:fY enc ev w g l):∃ es c,w.heap[g]? = some (.map es c)/\es.size=l.length:=by
 obtain⟨es,c,hb,he,_⟩:=h;refine⟨es,c,hb,?_⟩;have:=congrArg List.length he;simpa using this
theorem yo.Za {κ ν:Type}{enc:κ->List Pv}{ev:ν->Value}{w:World}{g:Nat}{l:List (κ×ν)}(h:fY enc ev w g l){K:Int->Prop}(k:K (l.length:Nat)):yo (some g) w K:=by
 obtain⟨es,c,hb,hs⟩:=h.len;exact⟨.inr ⟨g,es,c,rfl,hb,by rw[hs];exact k⟩⟩
theorem OJ {α:Type}(w:World)(F:α->PUnit->Sem (ForInStep PUnit)):∀ (l:List α),(∀ a∈l,(F a PUnit.unit).run P w=.ok (ForInStep.yield PUnit.unit) w)->(forIn l PUnit.unit F).run P w=.ok PUnit.unit w
 | [],_=>by simp
 | a::l,h=>by
  rw[List.forIn_cons,Sem.run_bind,h a (by simp),Result.andThen_ok];exact OJ w F l fun b hb=>h b (by simp[hb])
theorem OK : ∀ (fs : List Field) (ps pre : List Pv) (n : Nat), pre.length = n -> Ar P n fs ps -> ∀ f ∈ fs, ∃ q, f.name ≠ "_" /\ ow P f.type q /\ (((pre ++ ps).map Pv.v).toArray)[f.offset]? = some q.v
 | [],_,_,_,_,_,f,hf=>by cases hf
 | _::_,[],_,_,_,h,_,_=>h.elim
 | g::fs,p::ps,pre,n,hn,⟨h1,h2,h3,h4⟩,f,hf=>by
  rcases List.mem_cons.1 hf with rfl | hf
  ·exact⟨p,h1,h3,by rw[h2];simp[<- hn]⟩
  ·have:=OK fs ps (pre++[p]) (n+1) (by simp[hn]) h4 f hf
   rw[List.append_assoc,List.singleton_append] at this;exact this
theorem HY {t:TypeId}{ps:List Pv}(h:vH P t ps)(e:Bool)(w:World):(Instr.checkKey e 10000 t (eT ps)).run P w=.ok () w:=by
 show(Instr.checkKey e (9998+2) t (eT ps)).run P w=.ok () w;unfold Instr.checkKey eT;simp only[Sem.run_bind,run_underlying h.und,Result.andThen_ok];rw[<- Array.forIn_toList,OJ]
 ·rfl
 ·intro f hf
  obtain⟨q,h1,h3,hc⟩:=OK (P.fieldsOf t).toList ps [] 0 rfl h.fits f hf;rw[List.nil_append] at hc;have U:(Instr.checkKey e (9998+1) f.type q.v).run P w=.ok () w:=by
   unfold Instr.checkKey;cases q<;>simp only[ow] at h3<;>simp only[Pv.v,Sem.run_bind,run_underlying h3,Result.andThen_ok]<;>rfl
  simp only[ne_eq,h1,not_false_eq_true,if_true,Sem.run_bind,HX h3 hc,Result.andThen_ok,U,Sem.run_pure]
theorem OL {κ ν:Type}[DecidableEq κ]{kt:TypeId}{enc:κ->List Pv}{ev:ν->Value}(he:tV P kt enc)(k:κ)(w:World):∀ (es:List MapEntry) (l:List (κ×ν)) (i:Nat),es.map (fun e=>(e.key,e.val))=l.map (fun x=>(eT (enc x.1),ev x.2)) ->
  (∃ j v,(Instr.findAsking kt (eT (enc k)) es i).run P w=.ok (some (i+j,ev v)) w/\bq k l=some v/\l[j]? = some (k,v)/\∀ v',jL k v' l=l.set j (k,v')) \/
  ((Instr.findAsking kt (eT (enc k)) es i).run P w=.ok none w/\bq k l=none)
 | [],[],_,_=>.inr ⟨rfl,rfl⟩
 | [],_::_,_,h=>by simp at h
 | _::_,[],_,h=>by simp at h
 | e::es,(a,u)::l,i,h=>by
  simp only[List.map_cons,List.cons.injEq,Prod.mk.injEq] at h;obtain⟨⟨h1,h2⟩,h3⟩:=h;have hq:(Op.equal kt (eT (enc k)) e.key).run P w=.ok (decide (enc k=enc a)) w:=by rw[h1];exact OI (he.ty k) (he.ty a) 9998 w
  unfold Instr.findAsking;simp only[Sem.run_bind,hq,Result.andThen_ok]
  by_cases U:a=k
  ·subst U
   refine .inl ⟨0,u,?_,by simp[bq],rfl,fun v'=>by simp[jL]⟩;simp[h2]
  ·have ay:¬ enc k=enc a:=fun t=>U (he.inj _ _ t).symm
   simp only[ay,decide_false,Bool.false_eq_true,if_false]
   rcases OL he k w es l (i+1) h3 with⟨j,v,g1,g2,g3,g4⟩ | ⟨g1,g2⟩
   ·refine .inl ⟨j+1,v,?_,by simp[bq,U,g2],by simpa using g3,fun v'=>by simp[jL,U,g4]⟩
    rw[g1];congr 3;omega
   ·exact .inr ⟨g1,by simp[bq,U,g2]⟩
theorem HZ {κ ν:Type}[DecidableEq κ]{kt:TypeId}{enc:κ->List Pv}{ev:ν->Value}(he:tV P kt enc)(k:κ)(w:World)(es:List MapEntry)(l:List (κ×ν))(h:es.map (fun e=>(e.key,e.val))=l.map (fun x=>(eT (enc x.1),ev x.2))):
  (∃ j v,(Instr.findKey kt (eT (enc k)) es).run P w=.ok (some (j,ev v)) w/\bq k l=some v/\l[j]? = some (k,v)/\∀ v',jL k v' l=l.set j (k,v')) \/
  ((Instr.findKey kt (eT (enc k)) es).run P w=.ok none w/\bq k l=none):=by
 unfold Instr.findKey;simp only[Sem.run_bind,run_underlying (he.ty k).und,Result.andThen_ok];cases es with
 | nil=>
  cases l with
  | nil=>exact .inr ⟨rfl,rfl⟩
  | cons _ _=>simp at h
 | cons e es=>
  have:Instr.findNow (.struct (P.fieldsOf kt)) (eT (enc k)) (e::es) 0=none:=by unfold Instr.findNow;rfl
  simp only[this];have:=OL he k w (e::es) l 0 h;simpa only[Nat.zero_add] using this
theorem H0 {κ ν:Type}[DecidableEq κ]{t kt el:TypeId}{enc:κ->List Pv}{ev:ν->Value}{z:Value}(he:tV P kt enc)(ht:P.underlying t=some (.map kt el))(Au:(P.info? el).bind (·.zero)=some z){w:World}{g:Nat}{l:List (κ×ν)}(h:fY enc ev w g l)(k:κ)(ok:Bool):
  (Instr.lookup t (.map (some g)) (eT (enc k)) ok).run P w=.ok (if ok then .tuple #[((bq k l).map ev).getD z,.bool (bq k l).isSome] else((bq k l).map ev).getD z) w:=by
 obtain⟨es,c,hb,hl,_⟩:=h;obtain⟨i,hi,hz⟩:∃ i,P.info? el=some i/\i.zero=some z:=by
  cases hx:P.info? el with
  | none=>simp[hx] at Au
  | some i=>exact⟨i,rfl,by simpa[hx] using Au⟩
 unfold Instr.lookup;simp only[Sem.run_bind,run_underlying ht,Result.andThen_ok,wG hb,Sem.run_pure,HY (he.ty k)]
 rcases HZ he k w es.toList l hl with⟨j,v,h1,h2,_⟩ | ⟨h1,h2⟩
 ·rw[h1,h2]
  simp only[Result.andThen_ok];cases ok<;>rfl
 ·rw[h1,h2]
  simp only[Result.andThen_ok,Sem.run_bind,qC hi hz,Sem.run_pure];cases ok<;>rfl
theorem OM (ps:List Pv):Instr.sameBits 10000 (eT ps) (eT ps)=true:=by
 show Instr.sameBits (9999+1) (eT ps) (eT ps)=true;unfold eT Instr.sameBits;simp only[BEq.rfl,Bool.true_and]
 induction ps with
 | nil=>rfl
 | cons p ps ih=>
  simp only[List.map_cons,List.zip_cons_cons,List.all_cons,Bool.and_eq_true];refine⟨?_,by simpa using ih⟩;cases p<;>simp[Pv.v,Instr.sameBits,beq_toListBytes]
theorem ON {κ ν:Type}[DecidableEq κ]{t kt el:TypeId}{enc:κ->List Pv}{ev:ν->Value}(he:tV P kt enc)(ht:P.underlying t=some (.map kt el)){w:World}{g:Nat}{l:List (κ×ν)}(h:fY enc ev w g l)(k:κ)(v:ν):
  ∃ w',(Instr.mapUpdate t (.map (some g)) (eT (enc k)) (ev v)).run P w=.ok () w'/\Fr (only g) w w'/\w'.heap.size=w.heap.size/\fY enc ev w' g (jL k v l):=by
 obtain⟨es,c,hb,hl,aS,hnd⟩:=h;have hg:=bQ hb;unfold Instr.mapUpdate;simp only[Sem.run_bind,run_underlying ht,Result.andThen_ok,wG hb,HY (he.ty k)]
 rcases HZ he k w es.toList l hl with⟨j,u,h1,h2,h3,h4⟩ | ⟨h1,h2⟩
 ·rw[h1]
  obtain⟨e,hj,Av⟩:∃ e,es[j]? = some e/\e.key=eT (enc k):=by
   have hx:=congrArg (fun l=>l[j]?) hl;simp only[List.getElem?_map,h3,Option.map_some] at hx;cases he:es.toList[j]? with
   | none=>rw[he] at hx;simp at hx
   | some e=>rw[he] at hx;simp at hx;exact⟨e,by simpa using he,hx.1⟩
  have ft:(Instr.keyThatStays e.key (eT (enc k))).run P w=.ok (eT (enc k)) w:=by
   rw[Av];unfold Instr.keyThatStays;rw[if_pos (OM _)];rfl
  simp only[Result.andThen_ok,Sem.run_bind,hj,Option.map_some,Option.getD_some,ft,wH hb];have Aw:(es.modify j fun x=>{ key:=eT (enc k),val:=ev v,born:=x.born }).toList=es.toList.set j { key:=eT (enc k),val:=ev v,born:=e.born }:=by
   rw[Array.toList_modify];apply List.ext_getElem?;intro q;rw[List.getElem?_modify,List.getElem?_set]
   by_cases hq:j=q
   ·subst hq
    have ot:j<es.toList.length:=by simpa using(Array.getElem?_eq_some_iff.1 hj).1
    have jN:es.toList[j]? = some e:=by simpa using hj
    simp only[if_true,jN,ot];rfl
   ·simp[hq]
  have jN:es.toList[j]? = some e:=by simpa using hj
  refine⟨_,rfl,wJ _ _ _,by simp,_,_,heap_set hg _,?_,?_,?_⟩
  ·rw[Aw,List.map_set,hl,h4,List.map_set]
  ·rw[Aw]
   intro x hx
   rcases List.mem_or_eq_of_mem_set hx with hx | rfl
   ·exact aS x hx
   ·exact aS e (List.mem_of_getElem? jN)
  ·rw[Aw,List.map_set]
   have:(es.toList.map (·.born)).set j e.born=es.toList.map (·.born):=by
    apply List.ext_getElem?;intro q;rw[List.getElem?_set]
    by_cases hq:j=q
    ·subst hq
     have ot:j<es.toList.length:=(List.getElem?_eq_some_iff.1 jN).1;simp only[if_true,List.length_map,ot,List.getElem?_map,jN,Option.map_some]
    ·simp[hq]
   rw[this];exact hnd
 ·rw[h1]
  simp only[Result.andThen_ok,wH hb];refine⟨_,rfl,wJ _ _ _,by simp,_,_,heap_set hg _,?_,?_,?_⟩
  ·rw[Array.toList_push,List.map_append,hl,Ca k v l h2,List.map_append];rfl
  ·intro x hx
   rw[Array.toList_push,List.mem_append,List.mem_singleton] at hx
   rcases hx with hx | rfl
   ·exact Nat.lt_succ_of_lt (aS x hx)
   ·exact Nat.lt_succ_self _
  ·rw[Array.toList_push,List.map_append,List.nodup_append]
   refine⟨hnd,by simp,?_⟩;intro a ha b aK;simp at aK;subst aK;rw[List.mem_map] at ha;obtain⟨x,hx,rfl⟩:=ha;have:=aS x hx;omega
theorem C2 {es:Array MapEntry}{j:Nat}{e:MapEntry}(hj:es[j]? = some e)(f:MapEntry->MapEntry):(es.modify j f).toList=es.toList.set j (f e):=by
 rw[Array.toList_modify];apply List.ext_getElem?;intro q;rw[List.getElem?_modify,List.getElem?_set]
 by_cases hq:j=q
 ·subst hq
  have ot:j<es.toList.length:=by simpa using(Array.getElem?_eq_some_iff.1 hj).1
  have jN:es.toList[j]? = some e:=by simpa using hj
  simp only[if_true,jN,ot];rfl
 ·simp[hq]
theorem Zb {es:Array MapEntry}(hnd:(es.toList.map (·.born)).Nodup){j:Nat}{e:MapEntry}(hj:es[j]? = some e):es.findIdx? (fun x=>(x.born:Int)==(e.born:Int))=some j:=by
 rw[Array.findIdx?_eq_some_iff_getElem];obtain⟨h1,h2⟩:=Array.getElem?_eq_some_iff.1 hj;refine⟨h1,by rw[h2];simp,fun i hi=>?_⟩;simp only[beq_iff_eq,Int.natCast_inj];intro hc;have OO:=List.pairwise_iff_getElem.1 hnd i j (by simp;omega) (by simpa using h1) hi;simp only[List.getElem_map,Array.getElem_toList] at OO;exact OO (by rw[hc,h2])
theorem OP {κ ν:Type}[DecidableEq κ]{t:TypeId}{enc:κ->List Pv}{ev:ν->Value}{w:World}{g:Nat}{l:List (κ×ν)}{es:Array MapEntry}{c j:Nat}{e:MapEntry}{k:κ}{u:ν}(hb:w.heap[g]? = some (.map es c))
  (hl:es.toList.map (fun e=>(e.key,e.val))=l.map (fun x=>(eT (enc x.1),ev x.2))) (aS:∀ x∈es.toList,x.born<c) (hnd:(es.toList.map (·.born)).Nodup) (hj:es[j]? = some e) (U:l[j]? = some (k,u)) (v:ν) :
  ∃ w',(Instr.entryStore t (.map (some g)) (.int .i64 (e.born:Int)) (ev v)).run P w=.ok () w'/\Fr (only g) w w'/\w'.heap.size=w.heap.size/\fY enc ev w' g (l.set j (k,v)):=by
 have hg:=bQ hb;have jN:es.toList[j]? = some e:=by simpa using hj
 have Av:e.key=eT (enc k):=by
  have hx:=congrArg (fun l=>l[j]?) hl;simp only[List.getElem?_map,U,jN,Option.map_some,Option.some.injEq,Prod.mk.injEq] at hx;exact hx.1
 unfold Instr.entryStore;have ha:∀ w,(asInt (.int .i64 (e.born:Int))).run P w=.ok (e.born:Int) w:=fun w=>rfl;simp only[Sem.run_bind,Sem.run_pure,Result.andThen_ok,wG hb,ha,Zb hnd hj,wH hb];refine⟨_,rfl,wJ _ _ _,by simp,_,_,heap_set hg _,?_,?_,?_⟩
 ·rw[C2 hj,List.map_set,hl,List.map_set]
  congr 2
 ·rw[C2 hj]
  intro x hx
  rcases List.mem_or_eq_of_mem_set hx with hx | rfl
  ·exact aS x hx
  ·exact aS e (List.mem_of_getElem? jN)
 ·rw[C2 hj,List.map_set]
  have:(es.toList.map (·.born)).set j e.born=es.toList.map (·.born):=by
   apply List.ext_getElem?;intro q;rw[List.getElem?_set]
   by_cases hq:j=q
   ·subst hq
    have ot:j<es.toList.length:=(List.getElem?_eq_some_iff.1 jN).1;simp only[if_true,List.length_map,ot,List.getElem?_map,jN,Option.map_some]
   ·simp[hq]
  rw[this];exact hnd
theorem OQ {κ ν:Type}[DecidableEq κ]{t kt el:TypeId}{enc:κ->List Pv}{ev:ν->Value}{z:ν}(he:tV P kt enc)(ht:P.underlying t=some (.map kt el))(Au:(P.info? el).bind (·.zero)=some (ev z)){w:World}{g:Nat}{l:List (κ×ν)}(h:fY enc ev w g l)(k:κ):
  ∃ (w':World) (n:Int) (l2:List (κ×ν)),(Instr.mapEntry t (.map (some g)) (eT (enc k))).run P w=.ok (.tuple #[ev ((bq k l).getD z),.int .i64 n]) w'/\Fr (only g) w w'/\w'.heap.size=w.heap.size/\fY enc ev w' g l2/\(bq k l2).getD z=(bq k l).getD z /\
   ∀ v,∃ nN,(Instr.entryStore t (.map (some g)) (.int .i64 n) (ev v)).run P w'=.ok () nN/\Fr (only g) w' nN/\nN.heap.size=w'.heap.size/\fY enc ev nN g (jL k v l):=by
 obtain⟨i,hi,hz⟩:∃ i,P.info? el=some i/\i.zero=some (ev z):=by
  cases hx:P.info? el with
  | none=>simp[hx] at Au
  | some i=>exact⟨i,rfl,by simpa[hx] using Au⟩
 obtain⟨es,c,hb,hl,aS,hnd⟩:=h;have hg:=bQ hb;unfold Instr.mapEntry;simp only[Sem.run_bind,run_underlying ht,Result.andThen_ok,wG hb,HY (he.ty k)]
 rcases HZ he k w es.toList l hl with⟨j,u,h1,h2,h3,h4⟩ | ⟨h1,h2⟩
 ·rw[h1]
  obtain⟨e,hj,Av,xF⟩:∃ e,es[j]? = some e/\e.key=eT (enc k)/\e.val=ev u:=by
   have hx:=congrArg (fun l=>l[j]?) hl;simp only[List.getElem?_map,h3,Option.map_some] at hx;cases he:es.toList[j]? with
   | none=>rw[he] at hx;simp at hx
   | some e=>rw[he] at hx;simp at hx;exact⟨e,by simpa using he,hx.1,hx.2⟩
  have ft:(Instr.keyThatStays e.key (eT (enc k))).run P w=.ok (eT (enc k)) w:=by
   rw[Av];unfold Instr.keyThatStays;rw[if_pos (OM _)];rfl
  simp only[Result.andThen_ok,Sem.run_bind,hj,Option.map_some,Option.getD_some,ft,wH hb,Sem.run_pure];have Aw:=C2 hj (fun x=>{ x with key:=eT (enc k) })
  have jN:es.toList[j]? = some e:=by simpa using hj
  have Zc:es.toList.set j { e with key:=eT (enc k) }=es.toList:=by
   apply List.ext_getElem?;intro q;rw[List.getElem?_set]
   by_cases hq:j=q
   ·subst hq
    have ot:j<es.toList.length:=(List.getElem?_eq_some_iff.1 jN).1;rw[if_pos rfl,if_pos ot,jN,<- Av]
   ·simp[hq]
  have OR:es.modify j (fun x=>{ x with key:=eT (enc k) })=es:=Array.toList_inj.1 (by rw[Aw];exact Zc)
  have nz:bq k l=some u:=h2;have gJ:∀ o:Obj,({ w with heap:=w.heap.setIfInBounds g o }:World).heap[g]? = some o:=fun o=>heap_set hg o
  refine⟨_,(e.born:Int),l,by rw[nz];rfl,wJ _ _ _,by simp,⟨es,c,by rw[OR];exact gJ _,hl,aS,hnd⟩,rfl,fun v=>?_⟩;rw[h4];exact OP (by rw[OR];exact gJ _) hl aS hnd hj h3 v
 ·rw[h1]
  simp only[Result.andThen_ok,Sem.run_bind,qC hi hz,wH hb,Sem.run_pure];have nz:bq k l=none:=h2;have gJ:∀ o:Obj,({ w with heap:=w.heap.setIfInBounds g o }:World).heap[g]? = some o:=fun o=>heap_set hg o
  have vh:(es.push { key:=eT (enc k),val:=ev z,born:=c }).toList.map (fun e=>(e.key,e.val))=(l++[(k,z)]).map (fun x=>(eT (enc x.1),ev x.2)):=by
   rw[Array.toList_push,List.map_append,hl,List.map_append];rfl
  have vd:∀ x∈(es.push { key:=eT (enc k),val:=ev z,born:=c }).toList,x.born<c+1:=by
   intro x hx;rw[Array.toList_push,List.mem_append,List.mem_singleton] at hx
   rcases hx with hx | rfl
   ·exact Nat.lt_succ_of_lt (aS x hx)
   ·exact Nat.lt_succ_self _
  have OS:((es.push { key:=eT (enc k),val:=ev z,born:=c }).toList.map (·.born)).Nodup:=by
   rw[Array.toList_push,List.map_append,List.nodup_append];refine⟨hnd,by simp,?_⟩;intro a ha b aK;simp at aK;subst aK;rw[List.mem_map] at ha;obtain⟨x,hx,rfl⟩:=ha;have:=aS x hx;omega
  have hlen:es.size=l.length:=by have:=congrArg List.length hl;simpa using this
  have Zd:(bq k (l++[(k,z)])).getD z=(bq k l).getD z:=by rw[Me,nz];simp[bq]
  have Ze:ev ((bq k l).getD z)=ev z:=by rw[nz];rfl
  refine⟨_,(c:Int),l++[(k,z)],by rw[Ze];rfl,wJ _ _ _,by simp,⟨_,_,gJ _,vh,vd,OS⟩,Zd,fun v=>?_⟩;rw[Ca k v l nz,show l++[(k,v)]=(l++[(k,z)]).set l.length (k,v) by simp];exact OP (u:=z) (e:={ key:=eT (enc k),val:=ev z,born:=c }) (gJ _) vh vd OS (by rw[<- hlen,Array.getElem?_push_size]) (by simp) v
end Vc
def C147  (w:World) (K:Value->World->Prop):Prop:=
 ak (.map #[] 0) w (fun g1 w2=>ak (.map #[] 0) w2 (fun g3 w4=>ak (.cells #[.map (some g1),.map (some g3)] 327) w4 (fun g5 w6=>K (.pointer (some (ad g5))) w6)))
def pl147:aB:=.auto
theorem c147  (w:World) (K:Value->World->Prop) (h:C147  w K):Ret Tryz.prog 147 #[] w K:=aC (by kernel_rfl) Tryz.func147 (p:=pl147) (Eq.mpr (by kernel_rfl) h)
def C259 (p0:Int)(w:World)(K:Value->World->Prop):Prop:=
 aa (decide (p0 >= 0))
 (K (.bool (decide (p0<=10000))) w)
 (K (.bool false) w)
def pl259:aB:=.auto
theorem c259 (p0:Int)(w:World)(K:Value->World->Prop)(h:C259 p0 w K):Ret Tryz.prog 259 #[.int .i64 p0] w K:=aC (by kernel_rfl) Tryz.func259 (p:=pl259) (Eq.mpr (by kernel_rfl) h)
def C234 (p0:Addr)(p1:ByteArray)(p2:Int)(p3:Int)(w:World)(K:Value->World->Prop):Prop:=
 ak (.cells #[.string (⟨#[]⟩:ByteArray),.int .i64 0] 324) w (fun g1 w2=>ar (ad g1) [.string p1,.int .i64 p2] w2 (fun w3=>aD w3 (fun w4=>aV (fun S5=>av S5 (p0.add 0) (ae .map (p0.add 0) w4 (fun(x6:Option Nat)=>av S5 (ad g1) (aq [.str,.int .i64] (ad g1) w4 (fun(x7:ByteArray×Int×Unit)=>az Tryz.prog (Instr.lookup 321 (.map x6) (.agg #[.string x7.1,.int .i64 x7.2.1]) true) w4 (.aN [.one (.int .i64),.one .bool]) (fun(x8:Int×Bool×Unit) w9=>ai S5 w4 w9 (ab Tryz.prog 169 #[.string p1] w9 (.v (.one .bool)) (fun(aR:Bool) aO=>aa (!aR)
 (K (.int .i64 1) aO)
 (ab Tryz.prog 259 #[.int .i64 p2] aO (.v (.one .bool)) (fun(bt:Bool) aW=>aa (!bt)
 (K (.int .i64 1) aW)
 (ab Tryz.prog 131 #[.int .i64 p3] aW (.v (.one .bool)) (fun(bd:Bool) bL=>aa (!bd)
 (K (.int .i64 1) bL)
 (aa x8.2.1
 (K (.int .i64 4) bL)
 (ae .map (p0.add 0) bL (fun(aQ:Option Nat)=>yo aQ bL (fun aX=>aa (decide (aX >= 32))
 (K (.int .i64 5) bL)
 (aD bL (fun bz=>ae .map (p0.add 0) bz (fun(bu:Option Nat)=>aq [.str,.int .i64] (ad g1) bz (fun(cw:ByteArray×Int×Unit)=>jm Tryz.prog (Instr.mapUpdate 321 (.map bu) (.agg #[.string cw.1,.int .i64 cw.2.1]) (.int .i64 p3)) bz (fun bB=>K (.int .i64 0) bB))))))))))))))))))))))))
def pl234:aB:=(.seq .auto (.seq .auto (.seq (.held (.soft 0 (.soft 1 (.soft 2 (.soft 3 (.soft 4 (.pick 5 (.soft 6 (.soft 7 (.soft 8 (.soft 9 (.soft 10 .done))))) .stop))))))) (.seq .auto (.seq (.tail 6) .auto)))))
theorem c234 (p0:Addr)(p1:ByteArray)(p2:Int)(p3:Int)(w:World)(K:Value->World->Prop)(h:C234 p0 p1 p2 p3 w K):Ret Tryz.prog 234 #[.pointer (some p0),.string p1,.int .i64 p2,.int .i64 p3] w K:=aC (by kernel_rfl) Tryz.func234 (p:=pl234) (Eq.mpr (by kernel_rfl) h)
def C342 (p0:Addr)(p1:ByteArray)(p2:Int)(w:World)(K:Value->World->Prop):Prop:=
 ae .map (p0.add 0) w (fun(x1:Option Nat)=>az Tryz.prog (Instr.lookup 321 (.map x1) (.agg #[.string p1,.int .i64 p2]) true) w (.aN [.one (.int .i64),.one .bool]) (fun(x2:Int×Bool×Unit) w3=>K (.tuple #[.int .i64 x2.1,.bool x2.2.1]) w3))
def pl342:aB:=.auto
theorem c342 (p0:Addr)(p1:ByteArray)(p2:Int)(w:World)(K:Value->World->Prop)(h:C342 p0 p1 p2 w K):Ret Tryz.prog 342 #[.pointer (some p0),.string p1,.int .i64 p2] w K:=aC (by kernel_rfl) Tryz.func342 (p:=pl342) (Eq.mpr (by kernel_rfl) h)
def C240 (p0:Addr)(p1:ByteArray)(p2:ByteArray)(p3:Int)(p4:Int)(w:World)(K:Value->World->Prop):Prop:=
 ak (.cells #[.string (⟨#[]⟩:ByteArray),.string (⟨#[]⟩:ByteArray)] 330) w (fun g1 w2=>ar (ad g1) [.string p1,.string p2] w2 (fun w3=>aD w3 (fun w4=>aV (fun S5=>av S5 (p0.add 1) (ae .map (p0.add 1) w4 (fun(x6:Option Nat)=>av S5 (ad g1) (aq [.str,.str] (ad g1) w4 (fun(x7:ByteArray×ByteArray×Unit)=>kG (az Tryz.prog (Instr.lookup 325 (.map x6) (.agg #[.string x7.1,.string x7.2.1]) true) w4 (.aN [.agg [.int .i64,.int .i64],.one .bool]) (fun(x8:(Int×Int×Unit)×Bool×Unit) w9=>ai S5 w4 w9 (ak (.cells #[.int .i64 0,.int .i64 0] 332) w9 (fun g10 aO=>ai S5 w9 aO (ar (ad g10) [.int .i64 x8.1.1,.int .i64 x8.1.2.1] aO (fun aM=>ai S5 aO aM (cq (Bool×Unit) (fun Ax=>ab Tryz.prog 169 #[.string p1] aM (.v (.one .bool)) (fun(aQ:Bool) b9=>aa (!aQ)
 (Ax (true,()) b9)
 (ab Tryz.prog 169 #[.string p2] b9 (.v (.one .bool)) (fun(br:Bool) bx=>aa (!br)
 (Ax (true,()) bx)
 (aa (p3 != 0)
 (aa (p3 != 1)
 (Ax (true,()) bx)
 (ab Tryz.prog 259 #[.int .i64 p4] bx (.v (.one .bool)) (fun(cw:Bool) bB=>Ax ((!cw),()) bB)))
 (ab Tryz.prog 259 #[.int .i64 p4] bx (.v (.one .bool)) (fun(bR:Bool) cV=>Ax ((!bR),()) cV)))))))
 (fun _ OT bL=>aa OT.1
 (K (.int .i64 1) bL)
 (aa x8.2.1
 (K (.int .i64 4) bL)
 (aD bL (fun cm=>ae .map (p0.add 1) cm (fun(bC:Option Nat)=>aq [.str,.str] (ad g1) cm (fun(cZ:ByteArray×ByteArray×Unit)=>jm Tryz.prog (Instr.mapUpdate 325 (.map bC) (.agg #[.string cZ.1,.string cZ.2.1]) (.agg #[.int .i64 p3,.int .i64 p4])) cm (fun eJ=>K (.int .i64 0) eJ))))))))))))))
 (ak (.cells #[.int .i64 0,.int .i64 0] 332) w4 (fun G3 et=>ai S5 w4 et (az Tryz.prog (Instr.lookup 325 (.map x6) (.agg #[.string x7.1,.string x7.2.1]) true) et (.aN [.agg [.int .i64,.int .i64],.one .bool]) (fun(eg:(Int×Int×Unit)×Bool×Unit) fh=>ai S5 et fh (ar (ad G3) [.int .i64 eg.1.1,.int .i64 eg.1.2.1] fh (fun cL=>ai S5 fh cL (cq (Bool×Unit) (fun tW=>ab Tryz.prog 169 #[.string p1] cL (.v (.one .bool)) (fun(eF:Bool) dG=>aa (!eF)
 (tW (true,()) dG)
 (ab Tryz.prog 169 #[.string p2] dG (.v (.one .bool)) (fun(dF:Bool) eh=>aa (!dF)
 (tW (true,()) eh)
 (aa (p3 != 0)
 (aa (p3 != 1)
 (tW (true,()) eh)
 (ab Tryz.prog 259 #[.int .i64 p4] eh (.v (.one .bool)) (fun(iX:Bool) ll=>tW ((!iX),()) ll)))
 (ab Tryz.prog 259 #[.int .i64 p4] eh (.v (.one .bool)) (fun(iQ:Bool) kq=>tW ((!iQ),()) kq)))))))
 (fun _ CP dX=>aa CP.1
 (K (.int .i64 1) dX)
 (aa eg.2.1
 (K (.int .i64 4) dX)
 (aD dX (fun fw=>ae .map (p0.add 1) fw (fun(gQ:Option Nat)=>aq [.str,.str] (ad g1) fw (fun(jW:ByteArray×ByteArray×Unit)=>jm Tryz.prog (Instr.mapUpdate 325 (.map gQ) (.agg #[.string jW.1,.string jW.2.1]) (.agg #[.int .i64 p3,.int .i64 p4])) fw (fun gd=>K (.int .i64 0) gd))))))))))))))))))))))
def pl240:aB:=(.seq .auto (.seq .auto (.seq (.held (.soft 0 (.soft 1 (.soft 2 (.soft 3 (.soft 4 (.pick 5 (.soft 6 (.soft 7 (.soft 8 (.pick 9 (.pick 10 (.soft 11 .done) .stop) .stop)))) (.pick 9 (.pick 5 (.soft 6 (.soft 7 (.soft 8 (.pick 10 (.soft 11 .done) .stop)))) .stop) .stop)))))))) (.seq (.block (.join [(26,.one .bool)] .auto .auto)) (.seq (.tail 8) .auto)))))
theorem c240 (p0:Addr)(p1:ByteArray)(p2:ByteArray)(p3:Int)(p4:Int)(w:World)(K:Value->World->Prop)(h:C240 p0 p1 p2 p3 p4 w K):Ret Tryz.prog 240 #[.pointer (some p0),.string p1,.string p2,.int .i64 p3,.int .i64 p4] w K:=aC (by kernel_rfl) Tryz.func240 (p:=pl240) (Eq.mpr (by kernel_rfl) h)
def C308 (p0:Addr)(p1:ByteArray)(p2:ByteArray)(w:World)(K:Value->World->Prop):Prop:=
 ae .map (p0.add 1) w (fun(x1:Option Nat)=>az Tryz.prog (Instr.lookup 325 (.map x1) (.agg #[.string p1,.string p2]) true) w (.aN [.agg [.int .i64,.int .i64],.one .bool]) (fun(x2:(Int×Int×Unit)×Bool×Unit) w3=>ak (.cells #[.int .i64 0,.int .i64 0] 332) w3 (fun g4 w5=>ar (ad g4) [.int .i64 x2.1.1,.int .i64 x2.1.2.1] w5 (fun w6=>aD w6 (fun w7=>ae (.int .i64) ((ad g4).add 0) w7 (fun(x8:Int)=>ae (.int .i64) ((ad g4).add 1) w7 (fun(x9:Int)=>K (.tuple #[.int .i64 x8,.int .i64 x9,.bool x2.2.1]) w7)))))))
def pl308:aB:=(.seq .auto (.seq .auto (.seq .still .auto)))
theorem c308 (p0:Addr)(p1:ByteArray)(p2:ByteArray)(w:World)(K:Value->World->Prop)(h:C308 p0 p1 p2 w K):Ret Tryz.prog 308 #[.pointer (some p0),.string p1,.string p2] w K:=aC (by kernel_rfl) Tryz.func308 (p:=pl308) (Eq.mpr (by kernel_rfl) h)
def C141 (p0:Addr)(w:World)(K:Value->World->Prop):Prop:=
 aD w (fun w1=>aV (fun S2=>av S2 (p0.add 0) (ae .map (p0.add 0) w1 (fun(x3:Option Nat)=>av S2 (p0.add 1) (ae .map (p0.add 1) w1 (fun(x4:Option Nat)=>ab Tryz.prog 184 #[.map x3] w1 (.v (.one .map)) (fun(x5:Option Nat) w6=>ai S2 w1 w6 (ab Tryz.prog 185 #[.map x4] w6 (.v (.one .map)) (fun(x7:Option Nat) w8=>ai S2 w6 w8 (ak (.cells #[.map x5,.map x7] 327) w8 (fun g9 aG=>ai S2 w8 aG (K (.pointer (some (ad g9))) aG))))))))))))
def pl141:aB:=(.seq .auto (.seq (.held (.soft 0 (.soft 1 (.soft 2 (.soft 3 (.soft 5 (.soft 6 (.soft 7 (.soft 8 (.pick 4 (.pick 9 (.soft 10 (.pick 11 (.soft 12 .done) .stop)) .stop) .stop)))))))))) .auto))
theorem c141 (p0:Addr)(w:World)(K:Value->World->Prop)(h:C141 p0 w K):Ret Tryz.prog 141 #[.pointer (some p0)] w K:=aC (by kernel_rfl) Tryz.func141 (p:=pl141) (Eq.mpr (by kernel_rfl) h)
def Ay (k:List UInt8×Int):List Pv:=[.s k.1,.i k.2]
def Az (k:List UInt8×List UInt8):List Pv:=[.s k.1,.s k.2]
def sG (n:Int):Value:=.int .i64 n
def AA (p:Int×Int):Value:=.agg #[.int .i64 p.1,.int .i64 p.2]
theorem OU:tV Tryz.prog 324 Ay where
 ty a:=by
  have hf:∃ fs,Tryz.prog.underlying 324=some (.struct fs)/\Tryz.prog.fieldsOf 324=fs:=by
   unfold Program.fieldsOf;rw[Tryz.underlying324];exact⟨_,rfl,rfl⟩
  refine⟨by obtain⟨fs,h1,h2⟩:=hf;rw[h1,h2],by kernel_rfl,by kernel_rfl,?_⟩;unfold Program.fieldsOf;rw[Tryz.underlying324];exact⟨by decide,rfl,Tryz.underlying9,by decide,rfl,Tryz.underlying3,trivial⟩
 inj a b h:=by
  injection h with h1 h2;injection h2 with h2 _;injection h1 with h1;injection h2 with h2
  exact Prod.ext h1 h2
theorem OV:tV Tryz.prog 330 Az where
 ty a:=by
  have hf:∃ fs,Tryz.prog.underlying 330=some (.struct fs)/\Tryz.prog.fieldsOf 330=fs:=by
   unfold Program.fieldsOf;rw[Tryz.underlying330];exact⟨_,rfl,rfl⟩
  refine⟨by obtain⟨fs,h1,h2⟩:=hf;rw[h1,h2],by kernel_rfl,by kernel_rfl,?_⟩;unfold Program.fieldsOf;rw[Tryz.underlying330];exact⟨by decide,rfl,Tryz.underlying9,by decide,rfl,Tryz.underlying9,trivial⟩
 inj a b h:=by
  injection h with h1 h2;injection h2 with h2 _;injection h1 with h1;injection h2 with h2
  exact Prod.ext h1 h2
structure ig (w:World)(F:Nat->Prop)(b:Nat)(m:da):Prop where
 out:∃ g1 g2:Nat,w.heap[b]? = some (.cells #[.map (some g1),.map (some g2)] 327 (0,0))/\fY Ay sG w g1 m.fx/\fY Az AA w g2 m.ch/\F g1/\F g2/\g1≠g2/\b≠g1/\b≠g2
 mem:F b
theorem ig.ag {w w':World}{F T:Nat->Prop}{b:Nat}{m:da}(h:ig w F b m)(f:Fr T w w')(hT:∀ k,F k->¬ T k):ig w' F b m:=by
 obtain⟨⟨g1,g2,h1,h2,h3,h4,h5,h6⟩,hm⟩:=h;exact⟨⟨g1,g2,f.ag h1 (hT b hm),h2.ag f (hT g1 h4),h3.ag f (hT g2 h5),h4,h5,h6⟩,hm⟩
theorem ig.af {w w':World}{F:Nat->Prop}{b:Nat}{m:da}(h:ig w F b m)(f:Fr none1 w w'):ig w' F b m:=h.ag f fun _ _ t=>t
theorem OW {w:World}{g:Nat}{l:List ((List UInt8×Int)×Int)}(h:fY Ay sG w g l)(s:List UInt8)(d:Int){K:Int×Bool×Unit->World->Prop}(k:K ((bq (s,d) l).getD 0,(bq (s,d) l).isSome,()) w):
  az Tryz.prog (Instr.lookup 321 (.map (some g)) (.agg #[.string (str s),.int .i64 d]) true) w (.aN [.one (.int .i64),.one .bool]) K:=by
 have:=H0 (z:=.int .i64 0) OU Tryz.underlying321 (by kernel_rfl) h (s,d) true;refine⟨((bq (s,d) l).getD 0,(bq (s,d) l).isSome,()),w,this.trans ?_,k⟩;cases bq (s,d) l<;>rfl
theorem H2 {w:World}{g:Nat}{l:List ((List UInt8×List UInt8)×Int×Int)}(h:fY Az AA w g l)(s t:List UInt8){K:(Int×Int×Unit)×Bool×Unit->World->Prop}(k:K ((((bq (s,t) l).getD (0,0)).1,((bq (s,t) l).getD (0,0)).2,()),(bq (s,t) l).isSome,()) w):
  az Tryz.prog (Instr.lookup 325 (.map (some g)) (.agg #[.string (str s),.string (str t)]) true) w (.aN [.agg [.int .i64,.int .i64],.one .bool]) K:=by
 have:=H0 (z:=AA (0,0)) OV Tryz.underlying325 (by kernel_rfl) h (s,t) true;refine⟨((((bq (s,t) l).getD (0,0)).1,((bq (s,t) l).getD (0,0)).2,()),(bq (s,t) l).isSome,()),w,this.trans ?_,k⟩;cases bq (s,t) l<;>rfl
theorem Zf {w:World}{g:Nat}{l:List ((List UInt8×Int)×Int)}(h:fY Ay sG w g l)(s:List UInt8)(d v:Int){K:World->Prop}(k:∀ w',fY Ay sG w' g (jL (s,d) v l)->Fr (only g) w w'->K w'):
  jm Tryz.prog (Instr.mapUpdate 321 (.map (some g)) (.agg #[.string (str s),.int .i64 d]) (.int .i64 v)) w K:=by
 obtain⟨w',hr,f,_,hm⟩:=ON OU Tryz.underlying321 h (s,d) v;exact⟨w',hr,k w' hm f⟩
theorem Zg {w:World}{g:Nat}{l:List ((List UInt8×List UInt8)×Int×Int)}(h:fY Az AA w g l)(s t:List UInt8)(v d:Int){K:World->Prop}(k:∀ w',fY Az AA w' g (jL (s,t) (v,d) l)->Fr (only g) w w'->K w'):
  jm Tryz.prog (Instr.mapUpdate 325 (.map (some g)) (.agg #[.string (str s),.string (str t)]) (.agg #[.int .i64 v,.int .i64 d])) w K:=by
 obtain⟨w',hr,f,_,hm⟩:=ON OV Tryz.underlying325 h (s,t) (v,d);exact⟨w',hr,k w' hm f⟩
theorem Zh (w:World):Ret Tryz.prog 147 #[] w fun r w'=>∃ b,r=.pointer (some ⟨b,0,none⟩)/\ig w' (fun k=>w.heap.size<=k/\k<w'.heap.size) b ⟨[],[]⟩/\Fr none1 w w':=by
 refine c147 w _ ?_;unfold C147;refine ak.of fun g1 w1 df au f1 ka=>ak.of fun g2 w2 mz aK f2 gk=>ak.of fun g3 w3 qe aU f3 o6=>?_;exact⟨g3,rfl,⟨⟨g1,g2,aU,(fY.new au).af (f2.trans f3),(fY.new aK).af f3,by omega,by omega,by omega,by omega,by omega⟩,by omega⟩,(f1.trans f2).trans f3⟩
theorem OX (d:Int)(w:World):Ret Tryz.prog 259 #[.int .i64 d] w fun r w'=>r=.bool (tB d)/\w=w':=by
 refine c259 d w _ ?_;unfold tB;refine aa.dec (fun h=>?_) (fun h=>?_)
 ·rw[decide_eq_true (p:=0<=d) (by omega)];exact⟨rfl,rfl⟩
 ·rw[decide_eq_false (p:=0<=d) (by omega)];exact⟨rfl,rfl⟩
theorem OY {w:World}{F:Nat->Prop}{b:Nat}{m:da}(h:ig w F b m)(s:List UInt8)(d:Int):Ret Tryz.prog 342 #[.pointer (some ⟨b,0,none⟩),.string (str s),.int .i64 d] w fun r w'=>
  r=.tuple #[.int .i64 ((bq (s,d) m.fx).getD 0),.bool (bq (s,d) m.fx).isSome]/\w=w':=by
 obtain⟨⟨g1,g2,h1,h2,h3,_⟩,_⟩:=h;refine c342 _ (str s) d w _ ?_;exact ae.ah h1 (x:=some g1) rfl (OW h2 s d ⟨rfl,rfl⟩)
theorem Zi {w:World}{F:Nat->Prop}{b:Nat}{m:da}(h:ig w F b m)(s t:List UInt8):Ret Tryz.prog 308 #[.pointer (some ⟨b,0,none⟩),.string (str s),.string (str t)] w fun r w'=>
  r=.tuple #[.int .i64 ((bq (s,t) m.ch).getD (0,0)).1,.int .i64 ((bq (s,t) m.ch).getD (0,0)).2,.bool (bq (s,t) m.ch).isSome]/\Fr none1 w w':=by
 obtain⟨⟨g1,g2,h1,h2,h3,_⟩,_⟩:=h;refine c308 _ (str s) (str t) w _ ?_;refine ae.ah h1 (x:=some g2) rfl (H2 h3 s t ?_);refine cK (zs:=[.int .i64 0,.int .i64 0]) (vs:=[.int .i64 ((bq (s,t) m.ch).getD (0,0)).1,.int .i64 ((bq (s,t) m.ch).getD (0,0)).2]) rfl rfl fun g w2 hg hb f2=>?_;refine aD.of fun w3 _ f3=>ae.ah (f3.af hb) (x:=((bq (s,t) m.ch).getD (0,0)).1) rfl (ae.ah (f3.af hb) (x:=((bq (s,t) m.ch).getD (0,0)).2) rfl ⟨rfl,f2.trans f3⟩)
theorem H3 (w:World)(o:Obj):(w.alloc o).heap[w.heap.size]? = some o:=by
 show(w.heap.push o)[w.heap.size]? = some o;simp
theorem H4 (w:World)(o:Obj):(w.alloc o).heap.size=w.heap.size+1:=by
 show(w.heap.push o).size=_;simp
theorem Zj {w:World}{F:Nat->Prop}{b:Nat}{m:da}(h:ig w F b m):Ret Tryz.prog 141 #[.pointer (some ⟨b,0,none⟩)] w fun r w'=>∃ c,r=.pointer (some ⟨c,0,none⟩)/\ig w' (fun k=>w.heap.size<=k/\k<w'.heap.size) c m/\Fr none1 w w':=by
 obtain⟨⟨g1,g2,h1,h2,h3,_⟩,_⟩:=h;refine c141 _ w _ ?_;unfold C141;refine aD.of fun w1 _ f1=>aV.all ?_;refine av.all (ae.ah (f1.af h1) (x:=some g1) rfl (av.all (ae.ah (f1.af h1) (x:=some g2) rfl ?_)));obtain⟨vI,c1,au,nO⟩:=h2.af f1;have mc:Ret Tryz.prog 184 #[.map (some g1)] w1 fun r w'=>r=.map (some w1.heap.size)/\w'=w1.alloc (.map vI c1):=Calls.mono (Tryz.Sn g1 vI c1 w1 au) fun e w' ⟨a,b⟩=>⟨_,a,rfl,b⟩;refine ab.of mc ?_;clear mc;rintro _ w2 ⟨rfl,rfl⟩;have f2:Fr none1 w1 (w1.alloc (.map vI c1)):=mf w1 _;have n2:=H3 w1 (.map vI c1);have s2:=H4 w1 (.map vI c1);generalize w1.alloc (.map vI c1)=w2 at *;refine⟨some w1.heap.size,rfl,ai.of f2 ?_⟩;obtain⟨vJ,c2,aK,j6⟩:=(h3.af f1).af f2;have mc:Ret Tryz.prog 185 #[.map (some g2)] w2 fun r w'=>r=.map (some w2.heap.size)/\w'=w2.alloc (.map vJ c2):=Calls.mono (Tryz.Sq g2 vJ c2 w2 aK) fun e w' ⟨a,b⟩=>⟨_,a,rfl,b⟩;refine ab.of mc ?_;clear mc;rintro _ w3 ⟨rfl,rfl⟩;have f3:Fr none1 w2 (w2.alloc (.map vJ c2)):=mf w2 _;have n3:=H3 w2 (.map vJ c2);have s3:=H4 w2 (.map vJ c2);generalize w2.alloc (.map vJ c2)=w3 at *;refine⟨some w2.heap.size,rfl,ai.of f3 ?_⟩;refine ak.of fun g w4 hg hb f4 sq=>ai.of f4 ?_;have s1:=f1.size;refine⟨g,rfl,⟨⟨w1.heap.size,w2.heap.size,hb,⟨vI,c1,f4.af (f3.af n2),nO⟩,⟨vJ,c2,f4.af n3,j6⟩,by omega,by omega,by omega,by omega,by omega⟩,by omega⟩,((f1.trans f2).trans f3).trans f4⟩
theorem Zk {w:World}{F:Nat->Prop}{b:Nat}{m:da}(h:ig w F b m)(hF:∀ k,F k->k<w.heap.size)(s:List UInt8)(d v:Int):Ret Tryz.prog 234 #[.pointer (some ⟨b,0,none⟩),.string (str s),.int .i64 d,.int .i64 v] w fun r w'=>
  r=.int .i64 (q7 m s d v).2/\ig w' F b (q7 m s d v).1/\Fr F w w':=by
 have h0:=h;obtain⟨⟨g1,g2,h1,h2,h3,h4,h5,h6,h7,h8⟩,hm⟩:=h;refine c234 _ (str s) d v w _ ?_;unfold C234;refine cK (zs:=[.string (⟨#[]⟩:ByteArray),.int .i64 0]) (vs:=[.string (str s),.int .i64 d]) rfl rfl fun g w1 hg hb f1=>aD.of fun w2 _ f2=>aV.all ?_;have f12:=f1.trans f2;refine av.all (ae.ah (f12.af h1) (x:=some g1) rfl (av.all (aq.aE (cks:=[.str,.int .i64]) (x:=(str s,d,())) (f2.af hb) (OW (h2.af f12) s d (ai.of (Fr.refl _ _) ?_)))));have no:∀ {w':World},Fr none1 w w'->ig w' F b m/\Fr F w w':=fun f=>⟨h0.af f,f.mono fun _ _ t=>t.elim⟩;unfold q7;refine ab.of (uK s w2) ?_;rintro _ w3 ⟨rfl,f3⟩;have f13:=f12.trans f3;refine⟨_,rfl,aa.not (aa.by (fun hn=>?_) (fun hn=>?_))⟩
 rotate_left
 ·rw[if_pos (.inl hn)];exact⟨rfl,no f13⟩
 refine ab.of (OX d w3) ?_;rintro _ _ ⟨rfl,rfl⟩;refine⟨_,rfl,aa.not (aa.by (fun hd=>?_) (fun hd=>?_))⟩
 rotate_left
 ·rw[if_pos (.inr (.inl hd))];exact⟨rfl,no f13⟩
 refine ab.of (rL v w3) ?_;rintro _ _ ⟨rfl,rfl⟩;refine⟨_,rfl,aa.not (aa.by (fun hv=>?_) (fun hv=>?_))⟩
 rotate_left
 ·rw[if_pos (.inr (.inr hv))];exact⟨rfl,no f13⟩
 have hn:eZ s=true:=hn;rw[if_neg (by rw[hn,hd,hv];simp)];refine aa.by (fun hi=>?_) (fun hi=>?_)
 ·rw[if_pos hi];exact⟨rfl,no f13⟩
 rw[if_neg (fun t=>by have hi:(bq (s,d) m.fx).isSome=false:=hi;rw[hi] at t;cases t)];refine ae.ah (f13.af h1) (x:=some g1) rfl (yo.Za (h2.af f13) (aa.dec (fun hl=>?_) (fun hl=>?_)))
 ·rw[if_pos (by omega)];exact⟨rfl,no f13⟩
 rw[if_neg (by omega)];refine aD.of fun w4 _ f4=>?_;have f14:=f13.trans f4;refine ae.ah (f14.af h1) (x:=some g1) rfl (aq.aE (cks:=[.str,.int .i64]) (x:=(str s,d,())) ((f3.trans f4).af (f2.af hb)) (Zf (h2.af f14) s d v fun w5 EH f5=>?_));have f15:Fr F w w5:=(f14.mono fun _ _ t=>t.elim).comp f5 fun k U t=>by have:k=g1:=t;rw[this];exact h4
 refine⟨rfl,⟨⟨g1,g2,f5.ag (f14.af h1) (fun t=>h7 t),EH,(h3.af f14).ag f5 (fun t=>h6 (Eq.symm t)),h4,h5,h6,h7,h8⟩,hm⟩,f15⟩
theorem Zl {w:World}{F:Nat->Prop}{b:Nat}{m:da}(h:ig w F b m)(s t:List UInt8)(v d:Int):Ret Tryz.prog 240 #[.pointer (some ⟨b,0,none⟩),.string (str s),.string (str t),.int .i64 v,.int .i64 d] w fun r w'=>
  r=.int .i64 (lu m s t v d).2/\ig w' F b (lu m s t v d).1/\Fr F w w':=by
 have h0:=h;obtain⟨⟨g1,g2,h1,h2,h3,h4,h5,h6,h7,h8⟩,hm⟩:=h;refine c240 _ (str s) (str t) v d w _ ?_;unfold C240;have lj:=bQ h1;refine cK (zs:=[.string (⟨#[]⟩:ByteArray),.string (⟨#[]⟩:ByteArray)]) (vs:=[.string (str s),.string (str t)]) rfl rfl fun g w1 hg hb f1=>aD.of fun w2 _ f2=>aV.of (fun k=>k<w2.heap.size) ?_;have f12:=f1.trans f2;have aK:=f2.af hb;have nz:=bQ aK;refine⟨by rw[dP];show b<_;have:=f12.size;omega,ae.ah (f12.af h1) (x:=some g2) rfl ⟨nz,aq.aE (cks:=[.str,.str]) (x:=(str s,str t,())) aK ⟨?a,?b⟩⟩⟩
 case' a=>
  refine H2 (h3.af f12) s t (ai.of (Fr.refl _ _) (ak.of fun g9 w3 OZ mB f3 o6=>ai.of f3 (ar.aE (cs:=[.int .i64 0,.int .i64 0]) mB rfl rfl fun w4 dw f4 sq=>ai.on f4 (fun k U q=>by have:k=g9:=q;omega) ?_)))
 case' b=>
  refine ak.of fun g9 w3 OZ mB f3 o6=>ai.of f3 (H2 ((h3.af f12).af f3) s t (ai.of (Fr.refl _ _) (ar.aE (cs:=[.int .i64 0,.int .i64 0]) mB rfl rfl fun w4 dw f4 sq=>ai.on f4 (fun k U q=>by have:k=g9:=q;omega) ?_)))
 all_goals
  have f24:Fr none1 w2 w4:=f3.fresh f4 (by omega);have f14:=f12.trans f24;have no:∀ {w':World},Fr none1 w w'->ig w' F b m/\Fr F w w':=fun f=>⟨h0.af f,f.mono fun _ _ t=>t.elim⟩;refine cq.of (fun st w'=>st.1=decide (eZ s=false\/eZ t=false\/(v≠0/\v≠1)\/tB d=false)/\Fr none1 w4 w') ?_ ?_
  ·refine ab.of (uK s w4) ?_
   rintro _ w5 ⟨rfl,f5⟩;refine⟨_,rfl,aa.not (aa.by (fun hn=>?_) (fun hn=>⟨(decide_eq_true (.inl hn)).symm,f5⟩))⟩;refine ab.of (uK t w5) ?_;rintro _ w6 ⟨rfl,f6⟩;refine⟨_,rfl,aa.not (aa.by (fun ht=>?_) (fun ht=>⟨(decide_eq_true (.inr (.inl ht))).symm,f5.trans f6⟩))⟩;have hn:eZ s=true:=hn;have ht:eZ t=true:=ht;have fin:(v≠0/\v≠1)\/¬ (v≠0/\v≠1):=Classical.em _;refine aa.ne (fun q=>aa.ne (fun q2=>⟨(decide_eq_true (.inr (.inr (.inl ⟨q,q2⟩)))).symm,f5.trans f6⟩) (fun q2=>?_)) (fun q=>?_)
   all_goals
    refine ab.of (OX d w6) ?_;rintro _ _ ⟨rfl,rfl⟩;refine⟨_,rfl,?_,f5.trans f6⟩;dsimp only;cases hr:tB d with
    | false=>rw[decide_eq_true (.inr (.inr (.inr rfl)))];rfl
    | true=>rw[decide_eq_false (by rw[hn,ht];simp;omega)];rfl
  rintro _ ⟨st,_⟩ w5 ⟨dz,f5⟩;dsimp only at dz ⊢;subst dz;have f15:=f14.trans f5;unfold lu;refine aa.dec (fun hc=>?_) (fun hc=>?_)
  ·rw[if_pos hc];exact⟨rfl,no f15⟩
  rw[if_neg hc];refine aa.by (fun hi=>?_) (fun hi=>?_)
  ·rw[if_pos hi];exact⟨rfl,no f15⟩
  rw[if_neg (fun q=>by rw[hi] at q;cases q)];refine aD.of fun w6 _ f6=>?_;have f16:=f15.trans f6;refine ae.ah (f16.af h1) (x:=some g2) rfl (aq.aE (cks:=[.str,.str]) (x:=(str s,str t,())) ((f24.trans (f5.trans f6)).af aK) (Zg (h3.af f16) s t v d fun w7 AB f7=>?_));have f17:Fr F w w7:=(f16.mono fun _ _ t=>t.elim).comp f7 fun k U q=>by have:k=g2:=q;rw[this];exact h5
  exact⟨rfl,⟨⟨g1,g2,f7.ag (f16.af h1) (fun q=>h8 q),(h2.af f16).ag f7 (fun q=>h6 q),AB,h4,h5,h6,h7,h8⟩,hm⟩,f17⟩
def C326 (p0:Int)(p1:Bool)(w:World)(K:Value->World->Prop):Prop:=
 aa (!p1)
 (K (.tuple #[.int .i64 0,.bool false]) w)
 (ab Tryz.prog 131 #[.int .i64 p0] w (.v (.one .bool)) (fun(x1:Bool) w2=>aa (!x1)
 (K (.tuple #[.int .i64 0,.bool false]) w2)
 (K (.tuple #[.int .i64 p0,.bool true]) w2)))
def pl326:aB:=.auto
theorem c326 (p0:Int)(p1:Bool)(w:World)(K:Value->World->Prop)(h:C326 p0 p1 w K):Ret Tryz.prog 326 #[.int .i64 p0,.bool p1] w K:=aC (by kernel_rfl) Tryz.func326 (p:=pl326) (Eq.mpr (by kernel_rfl) h)
def C354 (p0:Int)(p1:Int)(w:World)(K:Value->World->Prop):Prop:=
 cq (Bool×Unit) (fun J1=>ab Tryz.prog 131 #[.int .i64 p0] w (.v (.one .bool)) (fun(x4:Bool) w5=>aa x4
 (ab Tryz.prog 131 #[.int .i64 p1] w5 (.v (.one .bool)) (fun(x6:Bool) w7=>J1 (x6,()) w7))
 (J1 (false,()) w5)))
 (fun _ s2 w3=>aa (!s2.1)
 (K (.tuple #[.int .i64 0,.bool false]) w3)
 (ab Tryz.prog 326 #[.int .i64 (IntKind.i64.wrap (p0+p1)),.bool s2.1] w3 (.aN [.one (.int .i64),.one .bool]) (fun(x8:Int×Bool×Unit) w9=>K (.tuple #[.int .i64 x8.1,.bool x8.2.1]) w9)))
def pl354:aB:=(.seq .auto (.join [(6,.one .bool)] .auto .auto))
theorem c354 (p0:Int)(p1:Int)(w:World)(K:Value->World->Prop)(h:C354 p0 p1 w K):Ret Tryz.prog 354 #[.int .i64 p0,.int .i64 p1] w K:=aC (by kernel_rfl) Tryz.func354 (p:=pl354) (Eq.mpr (by kernel_rfl) h)
def C325 (p0:Int)(w:World)(K:Value->World->Prop):Prop:=
 K (.int .i64 (if IntKind.i64.wrap (0 - p0) > p0 then IntKind.i64.wrap (0 - p0) else p0)) w
def pl325:aB:=.auto
theorem c325 (p0:Int)(w:World)(K:Value->World->Prop)(h:C325 p0 w K):Ret Tryz.prog 325 #[.int .i64 p0] w K:=aC (by kernel_rfl) Tryz.func325 (p:=pl325) (Eq.mpr (by kernel_rfl) h)
def C307 (p0:Int)(p1:Int)(w:World)(K:Value->World->Prop):Prop:=
 cq (Bool×Unit) (fun J1=>ab Tryz.prog 131 #[.int .i64 p0] w (.v (.one .bool)) (fun(x4:Bool) w5=>aa (!x4)
 (J1 (true,()) w5)
 (ab Tryz.prog 131 #[.int .i64 p1] w5 (.v (.one .bool)) (fun(x6:Bool) w7=>aa (!x6)
 (J1 (true,()) w7)
 (aa (p1 != 0)
 (ab Tryz.prog 325 #[.int .i64 p0] w7 (.v (.one (.int .i64))) (fun(x8:Int) w9=>ab Tryz.prog 325 #[.int .i64 p1] w9 (.v (.one (.int .i64))) (fun(aR:Int) aO=>uh aR (J1 (decide (x8 > (IntKind.i64.wrap (Int.tdiv 1000000000000 aR))),()) aO))))
 (J1 (false,()) w7))))))
 (fun _ s2 w3=>aa s2.1
 (K (.tuple #[.int .i64 0,.bool false]) w3)
 (ab Tryz.prog 326 #[.int .i64 (IntKind.i64.wrap (p0 * p1)),.bool true] w3 (.aN [.one (.int .i64),.one .bool]) (fun(bt:Int×Bool×Unit) aW=>K (.tuple #[.int .i64 bt.1,.bool bt.2.1]) aW)))
def pl307:aB:=(.seq .auto (.seq (.join [(25,.one .bool)] .auto .auto) .auto))
theorem c307 (p0:Int)(p1:Int)(w:World)(K:Value->World->Prop)(h:C307 p0 p1 w K):Ret Tryz.prog 307 #[.int .i64 p0,.int .i64 p1] w K:=aC (by kernel_rfl) Tryz.func307 (p:=pl307) (Eq.mpr (by kernel_rfl) h)
def C357 (p0:Int)(w:World)(K:Value->World->Prop):Prop:=
 ab Tryz.prog 131 #[.int .i64 p0] w (.v (.one .bool)) (fun(x1:Bool) w2=>aa (!x1)
 (K (.tuple #[.int .i64 0,.bool false]) w2)
 (K (.tuple #[.int .i64 (IntKind.i64.wrap (0 - p0)),.bool true]) w2))
def pl357:aB:=.auto
theorem c357 (p0:Int)(w:World)(K:Value->World->Prop)(h:C357 p0 w K):Ret Tryz.prog 357 #[.int .i64 p0] w K:=aC (by kernel_rfl) Tryz.func357 (p:=pl357) (Eq.mpr (by kernel_rfl) h)
def C356 (p0:Int)(p1:Bool)(w:World)(K:Value->World->Prop):Prop:=
 ak (.cells #[.int .i64 0,.bool false] 479) w (fun g1 w2=>aa (!p1)
 (ar (ad g1) [.int .i64 0,.bool false] w2 (fun w3=>aq [.int .i64,.bool] (ad g1) w3 (fun(x4:Int×Bool×Unit)=>K (.tuple #[.agg #[.int .i64 x4.1,.bool x4.2.1],.int .i64 6]) w3)))
 (ar (ad g1) [.int .i64 p0,.bool true] w2 (fun w5=>aq [.int .i64,.bool] (ad g1) w5 (fun(x6:Int×Bool×Unit)=>K (.tuple #[.agg #[.int .i64 x6.1,.bool x6.2.1],.int .i64 0]) w5))))
def pl356:aB:=.auto
theorem c356 (p0:Int)(p1:Bool)(w:World)(K:Value->World->Prop)(h:C356 p0 p1 w K):Ret Tryz.prog 356 #[.int .i64 p0,.bool p1] w K:=aC (by kernel_rfl) Tryz.func356 (p:=pl356) (Eq.mpr (by kernel_rfl) h)
def C353 (p0:Value)(p1:Value)(p2:Int)(p3:Addr)(p4:Value)(w:World)(K:Value->World->Prop):Prop:=
 ak (.cells #[.int .i64 0,.bool false] 479) w (fun g1 w2=>ab Tryz.prog 339 #[p0,.int .i64 p2,.pointer (some p3)] w2 (.aN [.agg [.int .i64,.bool],.one (.int .i64)]) (fun(x3:(Int×Bool×Unit)×Int×Unit) w4=>ak (.cells #[.int .i64 0,.bool false] 479) w4 (fun g5 w6=>ar (ad g5) [.int .i64 x3.1.1,.bool x3.1.2.1] w6 (fun w7=>aa (x3.2.1 != 0)
 (ar (ad g1) [.int .i64 0,.bool false] w7 (fun w8=>aq [.int .i64,.bool] (ad g1) w8 (fun(x9:Int×Bool×Unit)=>K (.tuple #[.agg #[.int .i64 x9.1,.bool x9.2.1],.int .i64 x3.2.1]) w8)))
 (ab Tryz.prog 339 #[p1,.int .i64 p2,.pointer (some p3)] w7 (.aN [.agg [.int .i64,.bool],.one (.int .i64)]) (fun(aR:(Int×Bool×Unit)×Int×Unit) aO=>ak (.cells #[.int .i64 0,.bool false] 479) aO (fun g12 aW=>ar (ad g12) [.int .i64 aR.1.1,.bool aR.1.2.1] aW (fun bm=>aa (aR.2.1 != 0)
 (ar (ad g1) [.int .i64 0,.bool false] bm (fun bL=>aq [.int .i64,.bool] (ad g1) bL (fun(aQ:Int×Bool×Unit)=>K (.tuple #[.agg #[.int .i64 aQ.1,.bool aQ.2.1],.int .i64 aR.2.1]) bL)))
 (ae .bool ((ad g5).add 1) bm (fun(aX:Bool)=>aa (!aX)
 (ar (ad g1) [.int .i64 0,.bool false] bm (fun bz=>aq [.int .i64,.bool] (ad g1) bz (fun(bu:Int×Bool×Unit)=>K (.tuple #[.agg #[.int .i64 bu.1,.bool bu.2.1],.int .i64 aR.2.1]) bz)))
 (ae .bool ((ad g12).add 1) bm (fun(cw:Bool)=>aa (!cw)
 (ar (ad g1) [.int .i64 0,.bool false] bm (fun bB=>aq [.int .i64,.bool] (ad g1) bB (fun(bR:Int×Bool×Unit)=>K (.tuple #[.agg #[.int .i64 bR.1,.bool bR.2.1],.int .i64 aR.2.1]) bB)))
 (ae (.int .i64) ((ad g5).add 0) bm (fun(cr:Int)=>ae (.int .i64) ((ad g12).add 0) bm (fun(cj:Int)=>kI Tryz.prog p4 [.int .i64 cr,.int .i64 cj] (.aN [.one (.int .i64),.one .bool]) bm (fun(bC:Int×Bool×Unit) ct=>ab Tryz.prog 356 #[.int .i64 bC.1,.bool bC.2.1] ct (.aN [.agg [.int .i64,.bool],.one (.int .i64)]) (fun(cz:(Int×Bool×Unit)×Int×Unit) bS=>ar (ad g1) [.int .i64 cz.1.1,.bool cz.1.2.1] bS (fun et=>aq [.int .i64,.bool] (ad g1) et (fun(eg:Int×Bool×Unit)=>K (.tuple #[.agg #[.int .i64 eg.1,.bool eg.2.1],.int .i64 cz.2.1]) et)))))))))))))))))))
def pl353:aB:=.auto
theorem c353 (p0:Value)(p1:Value)(p2:Int)(p3:Addr)(p4:Value)(w:World)(K:Value->World->Prop)(h:C353 p0 p1 p2 p3 p4 w K):Ret Tryz.prog 353 #[p0,p1,.int .i64 p2,.pointer (some p3),p4] w K:=aC (by kernel_rfl) Tryz.func353 (p:=pl353) (Eq.mpr (by kernel_rfl) h)
def C355 (p0:Int)(p1:Int)(w:World)(K:Value->World->Prop):Prop:=
 K (.tuple #[.int .i64 (if p1 > p0 then p1 else p0),.bool true]) w
def pl355:aB:=.auto
theorem c355 (p0:Int)(p1:Int)(w:World)(K:Value->World->Prop)(h:C355 p0 p1 w K):Ret Tryz.prog 355 #[.int .i64 p0,.int .i64 p1] w K:=aC (by kernel_rfl) Tryz.func355 (p:=pl355) (Eq.mpr (by kernel_rfl) h)
def C339 (p0:Value)(p1:Int)(p2:Addr)(w:World)(K:Value->World->Prop):Prop:=
 ak (.cells #[.int .i64 0,.bool false] 479) w (fun g1 w2=>ao p0 222 (.agg [.int .i64]) (fun(x3:Int×Unit)=>ak (.cells #[.int .i64 0] 222) w2 (fun g4 w5=>ar (ad g4) [.int .i64 x3.1] w5 (fun w6=>ae (.int .i64) ((ad g4).add 0) w6 (fun(x7:Int)=>ar (ad g1) [.int .i64 x7,.bool true] w6 (fun w8=>aq [.int .i64,.bool] (ad g1) w8 (fun(x9:Int×Bool×Unit)=>K (.tuple #[.agg #[.int .i64 x9.1,.bool x9.2.1],.int .i64 0]) w8))))))
 (ao p0 300 (.agg [.str]) (fun(aR:ByteArray×Unit)=>ak (.cells #[.string (⟨#[]⟩:ByteArray)] 300) w2 (fun g11 aM=>ar (ad g11) [.string aR.1] aM (fun aW=>ae .str ((ad g11).add 0) aW (fun(bd:ByteArray)=>ab Tryz.prog 342 #[.pointer (some p2),.string bd,.int .i64 p1] aW (.aN [.one (.int .i64),.one .bool]) (fun(bj:Int×Bool×Unit) bn=>ar (ad g1) [.int .i64 bj.1,.bool bj.2.1] bn (fun b9=>aq [.int .i64,.bool] (ad g1) b9 (fun(br:Int×Bool×Unit)=>K (.tuple #[.agg #[.int .i64 br.1,.bool br.2.1],.int .i64 0]) b9)))))))
 (ao p0 302 (.agg [.raw,.raw]) (fun(bu:Value×Value×Unit)=>ak (.cells #[.nilIface,.nilIface] 302) w2 (fun g20 bB=>ar (ad g20) [bu.1,bu.2.1] bB (fun bN=>ae .raw ((ad g20).add 0) bN (fun(cr:Value)=>ae .raw ((ad g20).add 1) bN (fun(cj:Value)=>ab Tryz.prog 353 #[cr,cj,.int .i64 p1,.pointer (some p2),.func (.func 354) #[] #[]] bN (.aN [.agg [.int .i64,.bool],.one (.int .i64)]) (fun(bC:(Int×Bool×Unit)×Int×Unit) ct=>ar (ad g1) [.int .i64 bC.1.1,.bool bC.1.2.1] ct (fun eJ=>aq [.int .i64,.bool] (ad g1) eJ (fun(eN:Int×Bool×Unit)=>K (.tuple #[.agg #[.int .i64 eN.1,.bool eN.2.1],.int .i64 bC.2.1]) eJ))))))))
 (ao p0 305 (.agg [.raw,.raw]) (fun(cx:Value×Value×Unit)=>ak (.cells #[.nilIface,.nilIface] 305) w2 (fun rO fh=>ar (ad rO) [cx.1,cx.2.1] fh (fun cL=>ae .raw ((ad rO).add 0) cL (fun(dp:Value)=>ae .raw ((ad rO).add 1) cL (fun(dj:Value)=>ab Tryz.prog 353 #[dp,dj,.int .i64 p1,.pointer (some p2),.func (.func 307) #[] #[]] cL (.aN [.agg [.int .i64,.bool],.one (.int .i64)]) (fun(de:(Int×Bool×Unit)×Int×Unit) cQ=>ar (ad g1) [.int .i64 de.1.1,.bool de.1.2.1] cQ (fun dG=>aq [.int .i64,.bool] (ad g1) dG (fun(dF:Int×Bool×Unit)=>K (.tuple #[.agg #[.int .i64 dF.1,.bool dF.2.1],.int .i64 de.2.1]) dG))))))))
 (ao p0 306 (.agg [.raw,.raw]) (fun(eP:Value×Value×Unit)=>ak (.cells #[.nilIface,.nilIface] 306) w2 (fun y9 ll=>ar (ad y9) [eP.1,eP.2.1] ll (fun fM=>ae .raw ((ad y9).add 0) fM (fun(jo:Value)=>ae .raw ((ad y9).add 1) fM (fun(jq:Value)=>ab Tryz.prog 353 #[jo,jq,.int .i64 p1,.pointer (some p2),.func (.func 355) #[] #[]] fM (.aN [.agg [.int .i64,.bool],.one (.int .i64)]) (fun(gQ:(Int×Bool×Unit)×Int×Unit) iq=>ar (ad g1) [.int .i64 gQ.1.1,.bool gQ.1.2.1] iq (fun gd=>aq [.int .i64,.bool] (ad g1) gd (fun(gY:Int×Bool×Unit)=>K (.tuple #[.agg #[.int .i64 gY.1,.bool gY.2.1],.int .i64 gQ.2.1]) gd))))))))
 (ao p0 304 (.agg [.raw]) (fun(fu:Value×Unit)=>ab Tryz.prog 339 #[fu.1,.int .i64 p1,.pointer (some p2)] w2 (.aN [.agg [.int .i64,.bool],.one (.int .i64)]) (fun(gW:(Int×Bool×Unit)×Int×Unit) jZ=>ak (.cells #[.int .i64 0,.bool false] 479) jZ (fun xU ng=>ar (ad xU) [.int .i64 gW.1.1,.bool gW.1.2.1] ng (fun iu=>aa (gW.2.1 != 0)
 (ar (ad g1) [.int .i64 0,.bool false] iu (fun gr=>aq [.int .i64,.bool] (ad g1) gr (fun(kO:Int×Bool×Unit)=>K (.tuple #[.agg #[.int .i64 kO.1,.bool kO.2.1],.int .i64 gW.2.1]) gr)))
 (ae .bool ((ad xU).add 1) iu (fun(oM:Bool)=>aa (!oM)
 (ar (ad g1) [.int .i64 0,.bool false] iu (fun qM=>aq [.int .i64,.bool] (ad g1) qM (fun(kj:Int×Bool×Unit)=>K (.tuple #[.agg #[.int .i64 kj.1,.bool kj.2.1],.int .i64 gW.2.1]) qM)))
 (ae (.int .i64) ((ad xU).add 0) iu (fun(nT:Int)=>ab Tryz.prog 357 #[.int .i64 nT] iu (.aN [.one (.int .i64),.one .bool]) (fun(lS:Int×Bool×Unit) iP=>ab Tryz.prog 356 #[.int .i64 lS.1,.bool lS.2.1] iP (.aN [.agg [.int .i64,.bool],.one (.int .i64)]) (fun(mW:(Int×Bool×Unit)×Int×Unit) jt=>ar (ad g1) [.int .i64 mW.1.1,.bool mW.1.2.1] jt (fun vK=>aq [.int .i64,.bool] (ad g1) vK (fun(qS:Int×Bool×Unit)=>K (.tuple #[.agg #[.int .i64 qS.1,.bool qS.2.1],.int .i64 mW.2.1]) vK)))))))))))) False))))))
def pl339:aB:=.auto
theorem c339 (p0:Value)(p1:Int)(p2:Addr)(w:World)(K:Value->World->Prop)(h:C339 p0 p1 p2 w K):Ret Tryz.prog 339 #[p0,.int .i64 p1,.pointer (some p2)] w K:=aC (by kernel_rfl) Tryz.func339 (p:=pl339) (Eq.mpr (by kernel_rfl) h)
def C322 (p0:Value)(p1:Int)(p2:Addr)(w:World)(K:Value->World->Prop):Prop:=
 ab Tryz.prog 244 #[p0] w (.v (.one (.int .i64))) (fun(x1:Int) w2=>aa (x1 != 0)
 (K (.tuple #[.int .i64 0,.bool false,.int .i64 2]) w2)
 (ab Tryz.prog 339 #[p0,.int .i64 p1,.pointer (some p2)] w2 (.aN [.agg [.int .i64,.bool],.one (.int .i64)]) (fun(x3:(Int×Bool×Unit)×Int×Unit) w4=>ak (.cells #[.int .i64 0,.bool false] 479) w4 (fun g5 w6=>ar (ad g5) [.int .i64 x3.1.1,.bool x3.1.2.1] w6 (fun w7=>aD w7 (fun w8=>ae (.int .i64) ((ad g5).add 0) w8 (fun(x9:Int)=>ae .bool ((ad g5).add 1) w8 (fun(aR:Bool)=>K (.tuple #[.int .i64 x9,.bool aR,.int .i64 x3.2.1]) w8))))))))
def pl322:aB:=(.seq .auto (.seq .auto (.seq .auto (.seq .still .auto))))
theorem c322 (p0:Value)(p1:Int)(p2:Addr)(w:World)(K:Value->World->Prop)(h:C322 p0 p1 p2 w K):Ret Tryz.prog 322 #[p0,.int .i64 p1,.pointer (some p2)] w K:=aC (by kernel_rfl) Tryz.func322 (p:=pl322) (Eq.mpr (by kernel_rfl) h)
def C324 (p0:Value)(p1:Int)(p2:Addr)(w:World)(K:Value->World->Prop):Prop:=
 ab Tryz.prog 244 #[p0] w (.v (.one (.int .i64))) (fun(x1:Int) w2=>aa (x1 != 0)
 (K (.slice none 0 0) w2)
 (ab Tryz.prog 341 #[p0] w2 (.v (.one .aj)) (fun(x3:an) w4=>bw (an×Int×Unit) (fun _ s5 w6 tk=>aa (decide (s5.2.1<(x3.2.1:Int)))
 (bK x3.1 x3.2.1 s5.2.1 1 (fun a8=>ae .str a8 w6 (fun(x9:ByteArray)=>ab Tryz.prog 342 #[.pointer (some p2),.string x9,.int .i64 p1] w6 (.aN [.one (.int .i64),.one .bool]) (fun(aR:Int×Bool×Unit) aO=>aa (!aR.2.1)
 (az Tryz.prog (Instr.buildSlice 51 1 #[(0,.string x9)]) aO (.v (.one .aj)) (fun(bt:an) aW=>az Tryz.prog (Builtin.append_ #[51,51] 51 #[.slice s5.1.1 s5.1.2.1 s5.1.2.2,.slice bt.1 bt.2.1 bt.2.2]) aW (.v (.one .aj)) (fun(bd:an) bL=>tk ((bd.1,bd.2.1,bd.2.2),IntKind.i64.wrap (s5.2.1+1),()) bL)))
 (tk ((s5.1.1,s5.1.2.1,s5.1.2.2),IntKind.i64.wrap (s5.2.1+1),()) aO)))))
 (K (.slice s5.1.1 s5.1.2.1 s5.1.2.2) w6))
 ((none,0,0),0,()) w4)))
def pl324:aB:=(.seq .auto (.seq .auto (.seq .auto (.seq (.seq .auto (.block (.loop [(7,.one .aj),(18,.one (.int .i64))] .auto))) .auto))))
theorem c324 (p0:Value)(p1:Int)(p2:Addr)(w:World)(K:Value->World->Prop)(h:C324 p0 p1 p2 w K):Ret Tryz.prog 324 #[p0,.int .i64 p1,.pointer (some p2)] w K:=aC (by kernel_rfl) Tryz.func324 (p:=pl324) (Eq.mpr (by kernel_rfl) h)
def C341 (p0:Value)(w:World)(K:Value->World->Prop):Prop:=
 ao p0 300 (.agg [.str]) (fun(x1:ByteArray×Unit)=>ak (.cells #[.string (⟨#[]⟩:ByteArray)] 300) w (fun g2 w3=>ar (ad g2) [.string x1.1] w3 (fun w4=>ae .str ((ad g2).add 0) w4 (fun(x5:ByteArray)=>az Tryz.prog (Instr.buildSlice 51 1 #[(0,.string x5)]) w4 (.v (.one .aj)) (fun(x6:an) w7=>K (.slice x6.1 x6.2.1 x6.2.2) w7)))))
 (ak (.cells #[.string (⟨#[]⟩:ByteArray)] 300) w (fun g8 w9=>ar (ad g8) [.string (⟨#[]⟩:ByteArray)] w9 (fun aG=>ab Tryz.prog 254 #[p0] aG (.v (.one .aj)) (fun(ba:an) aM=>bw (an×Int×Unit) (fun _ ju bm BD=>aa (decide (ju.2.1<(ba.2.1:Int)))
 (bK ba.1 ba.2.1 ju.2.1 1 (fun yR=>ae .raw yR bm (fun(aX:Value)=>ab Tryz.prog 341 #[aX] bm (.v (.one .aj)) (fun(br:an) bx=>bw (an×Int×Unit) (fun _ lV bB O0=>aa (decide (lV.2.1<(br.2.1:Int)))
 (bK br.1 br.2.1 lV.2.1 1 (fun a23=>ae .str a23 bB (fun(cj:ByteArray)=>ab Tryz.prog 217 #[.slice lV.1.1 lV.1.2.1 lV.1.2.2,.string cj] bB (.v (.one .bool)) (fun(bC:Bool) ct=>aa (!bC)
 (az Tryz.prog (Instr.buildSlice 51 1 #[(0,.string cj)]) ct (.v (.one .aj)) (fun(cz:an) bS=>az Tryz.prog (Builtin.append_ #[51,51] 51 #[.slice lV.1.1 lV.1.2.1 lV.1.2.2,.slice cz.1 cz.2.1 cz.2.2]) bS (.v (.one .aj)) (fun(cx:an) bO=>O0 ((cx.1,cx.2.1,cx.2.2),IntKind.i64.wrap (lV.2.1+1),()) bO)))
 (O0 ((lV.1.1,lV.1.2.1,lV.1.2.2),IntKind.i64.wrap (lV.2.1+1),()) ct)))))
 (BD ((lV.1.1,lV.1.2.1,lV.1.2.2),IntKind.i64.wrap (ju.2.1+1),()) bB))
 ((ju.1.1,ju.1.2.1,ju.1.2.2),0,()) bx))))
 (K (.slice ju.1.1 ju.1.2.1 ju.1.2.2) bm))
 ((none,0,0),0,()) aM))))
def pl341:aB:=(.seq .auto (.seq .auto (.seq .auto (.seq (.seq .auto (.block (.loop [(3,.one .aj),(22,.one (.int .i64))] (.seq .auto (.seq .auto (.seq (.block (.seq .auto (.seq .auto (.block (.loop [(3,.one .aj),(29,.one (.int .i64))] .auto))))) .auto)))))) .auto))))
theorem c341 (p0:Value)(w:World)(K:Value->World->Prop)(h:C341 p0 w K):Ret Tryz.prog 341 #[p0] w K:=aC (by kernel_rfl) Tryz.func341 (p:=pl341) (Eq.mpr (by kernel_rfl) h)
theorem O1 (n:Int)(ok:Bool)(w:World):Ret Tryz.prog 326 #[.int .i64 n,.bool ok] w fun r w'=>r=.tuple #[.int .i64 (if ok&&cH n then n else 0),.bool (ok&&cH n)]/\w=w':=by
 refine c326 n ok w _ ?_;refine aa.not (aa.by (fun h=>?_) (fun h=>?_))
 ·subst h
  refine ab.of (rL n w) ?_;rintro _ _ ⟨rfl,rfl⟩;refine⟨_,rfl,aa.not (aa.by (fun h=>?_) (fun h=>?_))⟩
  ·rw[h];exact⟨rfl,rfl⟩
  ·rw[h];exact⟨rfl,rfl⟩
 ·subst h;exact⟨rfl,rfl⟩
theorem Zm (a b:Int)(w:World):Ret Tryz.prog 354 #[.int .i64 a,.int .i64 b] w fun r w'=>r=.tuple #[.int .i64 (ve a b).1,.bool (ve a b).2]/\w=w':=by
 refine c354 a b w _ ?_;refine cq.of (fun s w'=>s.1=(cH a&&cH b)/\w=w') ?_ ?_
 ·refine ab.of (rL a w) ?_
  rintro _ _ ⟨rfl,rfl⟩;refine⟨_,rfl,aa.by (fun h=>?_) (fun h=>⟨by rw[h];rfl,rfl⟩)⟩;refine ab.of (rL b w) ?_;rintro _ _ ⟨rfl,rfl⟩;exact⟨_,rfl,by rw[h];rfl,rfl⟩
 rintro _ ⟨s,_⟩ _ ⟨hs,rfl⟩;dsimp only at hs ⊢;subst hs;unfold ve;refine aa.not (aa.by (fun h=>?_) (fun h=>?_))
 ·have h2:=h
  rw[Bool.and_eq_true,rl,rl] at h2;rw[h,wI (x:=a+b) (by omega) (by omega)];refine ab.of (O1 (a+b) true w) ?_;rintro _ _ ⟨rfl,rfl⟩;refine⟨(if true&&cH (a+b) then a+b else 0,true&&cH (a+b),()),rfl,?_,rfl⟩;cases cH (a+b)<;>rfl
 ·rw[h];exact⟨rfl,rfl⟩
theorem Zn {a b A B:Int}(hA:A=a/\0<=a\/A=-a/\a<=0)(hB:B=b/\0<=b\/B=-b/\b<=0):(A * B=a * b\/A * B=-(a * b))/\0<=A * B:=by
 have h0:0<=A:=by omega
 have h1:0<=B:=by omega
 refine⟨?_,Int.mul_nonneg h0 h1⟩
 rcases hA with⟨rfl,_⟩ | ⟨rfl,_⟩<;>rcases hB with⟨rfl,_⟩ | ⟨rfl,_⟩
 ·exact .inl rfl
 ·exact .inr (Int.mul_neg _ _)
 ·exact .inr (Int.neg_mul _ _)
 ·exact .inl (Int.neg_mul_neg _ _)
theorem O2 (a:Int)(h:cH a=true)(w:World):Ret Tryz.prog 325 #[.int .i64 a] w fun r w'=>∃ A,r=.int .i64 A/\(A=a/\0<=a\/A=-a/\a<=0)/\w=w':=by
 rw[rl] at h;refine c325 a w _ ?_;unfold C325;rw[wI (x:=0 - a) (by omega) (by omega)];refine⟨_,rfl,?_,rfl⟩;split<;>omega
theorem O3 (a b:Int)(w:World):Ret Tryz.prog 307 #[.int .i64 a,.int .i64 b] w fun r w'=>r=.tuple #[.int .i64 (kS a b).1,.bool (kS a b).2]/\w=w':=by
 refine c307 a b w _ ?_;refine cq.of (fun s w'=>s.1=!((cH a&&cH b)&&cH (a * b))/\w=w') ?_ ?_
 ·refine ab.of (rL a w) ?_
  rintro _ _ ⟨rfl,rfl⟩;refine⟨_,rfl,aa.not (aa.by (fun ha=>?_) (fun ha=>⟨by rw[ha];rfl,rfl⟩))⟩;refine ab.of (rL b w) ?_;rintro _ _ ⟨rfl,rfl⟩;refine⟨_,rfl,aa.not (aa.by (fun hb=>?_) (fun hb=>⟨by rw[ha,hb];rfl,rfl⟩))⟩;refine aa.ne (fun ay=>?_) (fun he=>⟨by rw[ha,hb,he,Int.mul_zero];rfl,rfl⟩);refine ab.of (O2 a ha w) ?_;rintro _ _ ⟨A,rfl,hA,rfl⟩;refine⟨A,rfl,?_⟩;refine ab.of (O2 b hb w) ?_;rintro _ _ ⟨B,rfl,hB,rfl⟩;refine⟨B,rfl,⟨by omega,?_,rfl⟩⟩;have Zo:0<B:=by omega
  have hd:Int.tdiv 1000000000000 B=1000000000000 / B:=Int.tdiv_eq_ediv_of_nonneg (by decide);have zE:0<=1000000000000 / B:=Int.ediv_nonneg (by decide) (by omega);have C3:1000000000000 / B<=1000000000000:=Int.ediv_le_self _ (by decide);rw[ha,hb,hd,wI (x:=1000000000000 / B) (by omega) (by omega)];have U:A<=1000000000000 / B↔A * B<=1000000000000:=Int.le_ediv_iff_mul_le Zo;obtain⟨m1,m2⟩:=Zn hA hB;dsimp only;cases hv:cH (a * b) with
  | true=>
   rw[rl] at hv;have:A * B<=1000000000000:=by omega
   rw[decide_eq_false (by have:=U.2 this;omega)];rfl
  | false=>
   have:¬ A * B<=1000000000000:=fun t=>by
    have:cH (a * b)=true:=by rw[rl];omega
    rw[this] at hv;cases hv
   rw[decide_eq_true (by have:=mt U.1 this;omega)];rfl
 rintro _ ⟨s,_⟩ _ ⟨hs,rfl⟩;dsimp only at hs ⊢;subst hs;unfold kS;refine aa.not (aa.by (fun h=>?_) (fun h=>?_))
 ·have h2:=h
  rw[Bool.and_eq_true,rl] at h2;rw[h,wI (x:=a * b) (by omega) (by omega)];refine ab.of (O1 (a * b) true w) ?_;rintro _ _ ⟨rfl,rfl⟩;refine⟨(if true&&cH (a * b) then a * b else 0,true&&cH (a * b),()),rfl,?_,rfl⟩;rw[Bool.and_eq_true] at h;rw[h.2];rfl
 ·rw[h];exact⟨rfl,rfl⟩
theorem Zp (a:Int)(w:World):Ret Tryz.prog 357 #[.int .i64 a] w fun r w'=>r=.tuple #[.int .i64 (if cH a then(-a,true) else((0:Int),false)).1,.bool (if cH a then(-a,true) else((0:Int),false)).2]/\w=w':=by
 refine c357 a w _ ?_;refine ab.of (rL a w) ?_;rintro _ _ ⟨rfl,rfl⟩;refine⟨_,rfl,aa.not (aa.by (fun h=>?_) (fun h=>?_))⟩
 ·rw[if_pos h]
  rw[rl] at h;rw[wI (x:=0 - a) (by omega) (by omega),Int.zero_sub];exact⟨rfl,rfl⟩
 ·rw[h];exact⟨rfl,rfl⟩
abbrev O4:List Ck:=[.int .i64,.bool]
def xV (n:Int×Bool×Int):Value:=.tuple #[.agg #[.int .i64 n.1,.bool n.2.1],.int .i64 n.2.2]
theorem mG {w wc:World}{g:Nat}{T:TypeId}{a:Int}{b:Bool}(f:Fr none1 w wc)(hg:w.heap.size<=g)(hb:wc.heap[g]? = some (.cells #[.int .i64 a,.bool b] T (0,0)))(n:Int×Bool×Int):
  ar ⟨g,0,none⟩ [.int .i64 n.1,.bool n.2.1] wc (fun w2=>aq O4 ⟨g,0,none⟩ w2 (fun(x:Int×Bool×Unit)=>(Value.tuple #[.agg #[.int .i64 x.1,.bool x.2.1],.int .i64 n.2.2])=xV n/\Fr none1 w w2)):=
 ar.aE (cs:=[.int .i64 a,.bool b]) hb rfl rfl fun w2 aK f2 _=>aq.aE (cks:=O4) (x:=(n.1,n.2.1,())) aK ⟨rfl,f.fresh f2 hg⟩
theorem O5 (n:Int)(ok:Bool)(w:World):Ret Tryz.prog 356 #[.int .i64 n,.bool ok] w fun r w'=>r=xV (oZ (n,ok))/\Fr none1 w w':=by
 refine c356 n ok w _ ?_;unfold C356 oZ;refine ak.of fun g w1 hg hb f1 _=>aa.not (aa.by (fun h=>?_) (fun h=>?_))
 ·rw[if_pos h];exact mG f1 (by omega) hb (n,true,0)
 ·rw[if_neg (by simp[h])];exact mG f1 (by omega) hb (0,false,6)
theorem Zq (a b:Int)(w:World):Ret Tryz.prog 355 #[.int .i64 a,.int .i64 b] w fun r w'=>r=.tuple #[.int .i64 (vg a b).1,.bool (vg a b).2]/\w=w':=by
 refine c355 a b w _ ?_;refine⟨?_,rfl⟩;unfold vg;dsimp only
 congr 4
 rw[Int.max_def];split<;>split<;>omega
theorem Zr (d:Int)(o:Ob):cX o=true->∀ {w:World} {F:Nat->Prop} {b:Nat} {m:da},ig w F b m->Ret Tryz.prog 339 #[o.v,.int .i64 d,.pointer (some ⟨b,0,none⟩)] w fun r w'=>r=xV (eG m d o)/\Fr none1 w w':=by
 have pair:∀ (l r:Ob) (fn:FuncId) (put:Int->Int->Int×Bool),(∀ (a b:Int) (w:World) {K:Int×Bool×Unit->World->Prop},K ((put a b).1,(put a b).2,()) w->kI Tryz.prog (.func (.func fn) #[] #[]) [.int .i64 a,.int .i64 b] (.aN [.one (.int .i64),.one .bool]) w K) ->
   (∀ {w:World} {F:Nat->Prop} {b:Nat} {m:da},ig w F b m->Ret Tryz.prog 339 #[l.v,.int .i64 d,.pointer (some ⟨b,0,none⟩)] w fun r w'=>r=xV (eG m d l)/\Fr none1 w w') ->
   (∀ {w:World} {F:Nat->Prop} {b:Nat} {m:da},ig w F b m->Ret Tryz.prog 339 #[r.v,.int .i64 d,.pointer (some ⟨b,0,none⟩)] w fun q w'=>q=xV (eG m d r)/\Fr none1 w w') ->
   ∀ {w:World} {F:Nat->Prop} {b:Nat} {m:da},ig w F b m->Ret Tryz.prog 353 #[l.v,r.v,.int .i64 d,.pointer (some ⟨b,0,none⟩),.func (.func fn) #[] #[]] w fun q w'=>q=xV (zJ (eG m d l) (eG m d r) put)/\Fr none1 w w':=by
  intro l r fn put Zs hl hr w F b m h;refine c353 l.v r.v d _ _ w _ ?_;unfold C353 zJ;refine ak.of fun g w1 hg hb f1 _=>?_;refine ab.of (hl (h.af f1)) ?_;rintro _ w2 ⟨rfl,f2⟩;generalize eG m d l=X;refine⟨((X.1,X.2.1,()),X.2.2,()),rfl,?_⟩;refine cK (zs:=[.int .i64 0,.bool false]) (vs:=[.int .i64 X.1,.bool X.2.1]) rfl rfl fun g5 w3 xy cW f3=>?_;have f13:=f2.trans f3;have F3:=f1.trans f13;refine aa.ne (fun ay=>?_) (fun he=>?_)
  ·rw[if_pos ay];exact mG F3 (by omega) (f13.af hb) (0,false,X.2.2)
  rw[if_neg (fun t=>t he)];refine ab.of (hr (h.af F3)) ?_;rintro _ w4 ⟨rfl,f4⟩;generalize eG m d r=Y;refine⟨((Y.1,Y.2.1,()),Y.2.2,()),rfl,?_⟩;refine cK (zs:=[.int .i64 0,.bool false]) (vs:=[.int .i64 Y.1,.bool Y.2.1]) rfl rfl fun g12 w5 acn O6 f5=>?_;have f35:=f4.trans f5;have F5:=F3.trans f35;have au:=f35.af (f13.af hb);refine aa.ne (fun ay=>?_) (fun j6=>?_)
  ·rw[if_pos (.inl ay)];exact mG F5 (by omega) au (0,false,Y.2.2)
  refine ae.ah (f35.af cW) (x:=X.2.1) rfl (aa.not (aa.by (fun hx=>?_) (fun hx=>?_)))
  rotate_left
  ·rw[if_pos (.inr (.inl hx))];exact mG F5 (by omega) au (0,false,Y.2.2)
  refine ae.ah O6 (x:=Y.2.1) rfl (aa.not (aa.by (fun hy=>?_) (fun hy=>?_)))
  rotate_left
  ·rw[if_pos (.inr (.inr hy))];exact mG F5 (by omega) au (0,false,Y.2.2)
  have j6:Y.2.2=0:=j6;have hx:X.2.1=true:=hx;have hy:Y.2.1=true:=hy;rw[if_neg (by rintro(t | t | t)<;>simp_all)]
  refine ae.ah (f35.af cW) (x:=X.1) rfl (ae.ah O6 (x:=Y.1) rfl (Zs X.1 Y.1 w5 ?_));refine ab.of (O5 _ _ w5) ?_;rintro _ w6 ⟨rfl,f6⟩;refine⟨(((oZ (put X.1 Y.1)).1,(oZ (put X.1 Y.1)).2.1,()),(oZ (put X.1 Y.1)).2.2,()),rfl,?_⟩;exact mG (F5.trans f6) (by omega) (f6.af au) (oZ (put X.1 Y.1))
 induction o with
 | none=>intro h;cases h
 | const n=>
  intro _ w F b m h;refine c339 _ d _ w _ ?_;unfold C339;refine ak.of fun g w1 hg hb f1 _=>ao.hit (n,()) rfl (cK (zs:=[.int .i64 0]) (vs:=[.int .i64 n]) rfl rfl fun g4 w2 _ aK f2=>ae.ah aK (x:=n) rfl ?_);exact mG (f1.trans f2) (by omega) (f2.af hb) (n,true,0)
 | fix s=>
  intro _ w F b m h;refine c339 _ d _ w _ ?_;unfold C339;refine ak.of fun g w1 hg hb f1 _=>ao.aL rfl (by decide) (ao.hit (str s,()) rfl (cK (zs:=[.string (⟨#[]⟩:ByteArray)]) (vs:=[.string (str s)]) rfl rfl fun g4 w2 _ aK f2=>ae.ah aK (x:=str s) rfl ?_));refine ab.of (OY (h.af (f1.trans f2)) s d) ?_;rintro _ _ ⟨rfl,rfl⟩;refine⟨((bq (s,d) m.fx).getD 0,(bq (s,d) m.fx).isSome,()),rfl,?_⟩;have e:eG m d (.fix s)=((bq (s,d) m.fx).getD 0,(bq (s,d) m.fx).isSome,0):=by
   unfold eG;cases bq (s,d) m.fx<;>rfl
  rw[e];exact mG (f1.trans f2) (by omega) (f2.af hb) ((bq (s,d) m.fx).getD 0,(bq (s,d) m.fx).isSome,0)
 | add l r a b=>
  intro hf w F b' m h;unfold cX at hf;rw[Bool.and_eq_true] at hf;refine c339 _ d _ w _ ?_;unfold C339;refine ak.of fun g w1 hg hb f1 _=>ao.aL rfl (by decide) (ao.aL rfl (by decide) (ao.hit (l.v,r.v,()) rfl (cK (zs:=[.nilIface,.nilIface]) (vs:=[l.v,r.v]) rfl (by simp[Ob.bU]) fun g4 w2 _ aK f2=>ae.ah (c:=.raw) aK (x:=l.v) rfl (ae.ah (c:=.raw) aK (x:=r.v) rfl ?_))));refine ab.of (pair l r _ ve (fun x y w K k=>l0 (by kernel_rfl) Tryz.func354 (by kernel_rfl) ((Zm x y w).mono fun v w' ⟨e,e2⟩=>⟨((ve x y).1,(ve x y).2,()),e,e2 ▸ k⟩)) (a hf.1) (b hf.2) (h.af (f1.trans f2))) ?_;rintro _ w3 ⟨rfl,f3⟩;refine⟨(((eG m d (.add l r)).1,(eG m d (.add l r)).2.1,()),(eG m d (.add l r)).2.2,()),rfl,?_⟩;exact mG ((f1.trans f2).trans f3) (by omega) ((f2.trans f3).af hb) (eG m d (.add l r))
 | mul l r a b=>
  intro hf w F b' m h;unfold cX at hf;rw[Bool.and_eq_true] at hf;refine c339 _ d _ w _ ?_;unfold C339;refine ak.of fun g w1 hg hb f1 _=>ao.aL rfl (by decide) (ao.aL rfl (by decide) (ao.aL rfl (by decide) (ao.hit (l.v,r.v,()) rfl (cK (zs:=[.nilIface,.nilIface]) (vs:=[l.v,r.v]) rfl (by simp[Ob.bU]) fun g4 w2 _ aK f2=>ae.ah (c:=.raw) aK (x:=l.v) rfl (ae.ah (c:=.raw) aK (x:=r.v) rfl ?_)))));refine ab.of (pair l r _ kS (fun x y w K k=>l0 (by kernel_rfl) Tryz.func307 (by kernel_rfl) ((O3 x y w).mono fun v w' ⟨e,e2⟩=>⟨((kS x y).1,(kS x y).2,()),e,e2 ▸ k⟩)) (a hf.1) (b hf.2) (h.af (f1.trans f2))) ?_;rintro _ w3 ⟨rfl,f3⟩;refine⟨(((eG m d (.mul l r)).1,(eG m d (.mul l r)).2.1,()),(eG m d (.mul l r)).2.2,()),rfl,?_⟩;exact mG ((f1.trans f2).trans f3) (by omega) ((f2.trans f3).af hb) (eG m d (.mul l r))
 | max l r a b=>
  intro hf w F b' m h;unfold cX at hf;rw[Bool.and_eq_true] at hf;refine c339 _ d _ w _ ?_;unfold C339;refine ak.of fun g w1 hg hb f1 _=>ao.aL rfl (by decide) (ao.aL rfl (by decide) (ao.aL rfl (by decide) (ao.aL rfl (by decide) (ao.hit (l.v,r.v,()) rfl (cK (zs:=[.nilIface,.nilIface]) (vs:=[l.v,r.v]) rfl (by simp[Ob.bU]) fun g4 w2 _ aK f2=>ae.ah (c:=.raw) aK (x:=l.v) rfl (ae.ah (c:=.raw) aK (x:=r.v) rfl ?_))))));refine ab.of (pair l r _ vg (fun x y w K k=>l0 (by kernel_rfl) Tryz.func355 (by kernel_rfl) ((Zq x y w).mono fun v w' ⟨e,e2⟩=>⟨((vg x y).1,(vg x y).2,()),e,e2 ▸ k⟩)) (a hf.1) (b hf.2) (h.af (f1.trans f2))) ?_;rintro _ w3 ⟨rfl,f3⟩;refine⟨(((eG m d (.max l r)).1,(eG m d (.max l r)).2.1,()),(eG m d (.max l r)).2.2,()),rfl,?_⟩;exact mG ((f1.trans f2).trans f3) (by omega) ((f2.trans f3).af hb) (eG m d (.max l r))
 | neg o ih=>
  intro hf w F b' m h;refine c339 _ d _ w _ ?_;unfold C339;refine ak.of fun g w1 hg hb f1 _=>ao.aL rfl (by decide) (ao.aL rfl (by decide) (ao.aL rfl (by decide) (ao.aL rfl (by decide) (ao.aL rfl (by decide) (ao.hit (o.v,()) rfl ?_)))));refine ab.of (ih hf (h.af f1)) ?_;rintro _ w2 ⟨rfl,f2⟩;have e:eG m d (.neg o)=FV (eG m d o):=rfl;rw[e];generalize eG m d o=X;refine⟨((X.1,X.2.1,()),X.2.2,()),rfl,?_⟩;unfold FV;refine cK (zs:=[.int .i64 0,.bool false]) (vs:=[.int .i64 X.1,.bool X.2.1]) rfl rfl fun g5 w3 xy cW f3=>?_;have F3:=(f1.trans f2).trans f3;have au:=(f2.trans f3).af hb;refine aa.ne (fun ay=>?_) (fun he=>?_)
  ·rw[if_pos (.inl ay)];exact mG F3 (by omega) au (0,false,X.2.2)
  refine ae.ah cW (x:=X.2.1) rfl (aa.not (aa.by (fun hx=>?_) (fun hx=>?_)))
  rotate_left
  ·rw[if_pos (.inr hx)];exact mG F3 (by omega) au (0,false,X.2.2)
  have he:X.2.2=0:=he;have hx:X.2.1=true:=hx;rw[if_neg (by rintro(t | t)<;>simp_all)]
  refine ae.ah cW (x:=X.1) rfl ?_;refine ab.of (Zp X.1 w3) ?_;rintro _ _ ⟨rfl,rfl⟩;generalize(if cH X.1 then(-X.1,true) else((0:Int),false))=Z;refine⟨(Z.1,Z.2,()),rfl,?_⟩;refine ab.of (O5 Z.1 Z.2 w3) ?_;rintro _ w4 ⟨rfl,f4⟩;refine⟨(((oZ Z).1,(oZ Z).2.1,()),(oZ Z).2.2,()),rfl,?_⟩;exact mG (F3.trans f4) (by omega) (f4.af au) (oZ Z)
theorem Zt (d:Int)(o:Ob)(hn:bA o<=1000000){w:World}{F:Nat->Prop}{b:Nat}{m:da}(h:ig w F b m):Ret Tryz.prog 322 #[o.v,.int .i64 d,.pointer (some ⟨b,0,none⟩)] w fun r w'=>r=.tuple #[.int .i64 (fj m d o).1,.bool (fj m d o).2.1,.int .i64 (fj m d o).2.2]/\Fr none1 w w':=by
 refine c322 _ d _ w _ ?_;unfold C322 fj;refine ab.of (E3 o hn w) ?_;rintro _ w1 ⟨rfl,f1⟩;refine⟨_,rfl,aa.ne (fun ay=>?_) (fun he=>?_)⟩
 ·rw[if_pos ay];exact⟨rfl,f1⟩
 rw[if_neg (fun t=>t he)];have hf:cX o=true:=by
  unfold uT at he
  by_cases hf:cX o=false
  ·rw[if_pos hf] at he;cases he
  ·simpa using hf
 refine ab.of (Zr d o hf (h.af f1)) ?_;rintro _ w2 ⟨rfl,f2⟩;generalize eG m d o=X;refine⟨((X.1,X.2.1,()),X.2.2,()),rfl,?_⟩;refine cK (zs:=[.int .i64 0,.bool false]) (vs:=[.int .i64 X.1,.bool X.2.1]) rfl rfl fun g5 w3 xy cW f3=>aD.of fun w4 _ f4=>?_;exact ae.ah (f4.af cW) (x:=X.1) rfl (ae.ah (f4.af cW) (x:=X.2.1) rfl ⟨rfl,((f1.trans f2).trans f3).trans f4⟩)
theorem AD {α β:Type}(g:β->α->β)(l:List α)(i:Nat){x:α}(h:l[i]? = some x)(a:β):(l.take (i+1)).foldl g a=g ((l.take i).foldl g a) x:=by
 rw[List.take_add_one,h,List.foldl_append];rfl
theorem Zu (o:List (List UInt8))(s:List UInt8):(gw o s).length<=o.length+1:=by unfold gw;split<;>simp
theorem rm:∀ (l o:List (List UInt8)),(l.foldl gw o).length<=o.length+l.length
 | [],o=>by simp
 | s::l,o=>by
  have:=rm l (gw o s);have:=Zu o s;rw[List.foldl_cons,List.length_cons];omega
theorem Zv (o:Ob)(h:∀ s,o≠.fix s):cv o=(cS o).foldl (fun a k=>(cv k).foldl gw a) []:=by cases o<;>first | rfl | exact absurd rfl (h _)
theorem H5 (o:Ob):(cv o).length<=bA o:=by
 induction o with
 | none=>exact Nat.le_refl _
 | const=>exact Nat.zero_le _
 | fix=>exact Nat.le_refl _
 | neg o ih=>have:=rm (cv o) [];simp only[cv,bA];simp only[List.length_nil] at this;omega
 | add l r a b=>have:=rm (cv r) ((cv l).foldl gw []);have:=rm (cv l) [];simp only[cv,bA];simp only[List.length_nil] at this;omega
 | mul l r a b=>have:=rm (cv r) ((cv l).foldl gw []);have:=rm (cv l) [];simp only[cv,bA];simp only[List.length_nil] at this;omega
 | max l r a b=>have:=rm (cv r) ((cv l).foldl gw []);have:=rm (cv l) [];simp only[cv,bA];simp only[List.length_nil] at this;omega
theorem Zw (o:Ob)(i:Nat):(((cS o).take i).foldl (fun a k=>(cv k).foldl gw a) []).length<=jv (((cS o).take i).map bA):=by
 have h:∀ (l:List Ob) (a:List (List UInt8)) (n:Nat),a.length<=n->(l.foldl (fun a k=>(cv k).foldl gw a) a).length<=(l.map bA).foldl (·+·) n:=by
  intro l
  induction l with
  | nil=>intro a n h;exact h
  | cons k l ih=>
   intro a n h;have:=rm (cv k) a;have:=H5 k;refine ih _ _ ?_;show((cv k).foldl gw a).length<=n+bA k;omega
 exact h _ _ _ (Nat.le_refl _)
theorem Ob.Zx {o:Ob}(h:∀ s,o≠.fix s){K:ByteArray×Unit->Prop}{M:Prop}(m:M):ao o.v 300 (.agg [.str]) K M:=by
 cases o<;>first | exact ao.nil rfl m | exact absurd rfl (h _) | exact ao.aL rfl (by decide) m
theorem O7 (o:Ob)(hn:bA o<=1000000)(w:World):Ret Tryz.prog 341 #[o.v] w fun r w'=>∃ u:Sl,r=.slice u.1 u.2.1 u.2.2/\gE w' u (cv o)/\Fr none1 w w'/\∀ k,aw u k->w.heap.size<=k:=by
 refine c341 o.v w _ ?_;have ih:∀ k∈cS o,bA k<=1000000->∀ w,Ret Tryz.prog 341 #[k.v] w fun r w'=>∃ u:Sl,r=.slice u.1 u.2.1 u.2.2/\gE w' u (cv k)/\Fr none1 w w'/\∀ k,aw u k->w.heap.size<=k:=fun k U hn w=>O7 k hn w
 by_cases h2:∃ s,o=.fix s
 ·obtain⟨s,rfl⟩:=h2
  refine ao.hit (str s,()) rfl (cK (zs:=[.string (⟨#[]⟩:ByteArray)]) (vs:=[.string (str s)]) rfl rfl fun g w2 _ hb f2=>ae.ah hb (x:=str s) rfl ?_);obtain⟨u,w3,hr,hu,dm,f3,uf⟩:=lH (P:=Tryz.prog) (w:=w2) wS (sv s) rfl;exact⟨u,w3,hr,u,rfl,hu,f2.trans f3,fun k U=>by have:=uf k U;have:=f2.size;omega⟩
 have h2:∀ s,o≠.fix s:=fun s e=>h2 ⟨s,e⟩;refine Ob.Zx h2 (mq (zs:=[.string (⟨#[]⟩:ByteArray)]) rfl rfl fun w1 f1=>?_);refine ab.of (wU o w1) ?_;rintro _ w2 ⟨u,rfl,hu,f2⟩;refine⟨u,rfl,?_⟩;have dm:=hu.len;have y8:=BJ o;rw[Zv o h2];refine bw.of (fun s w'=>∃ i:Nat,s.2.1=i/\i<=(cS o).length/\gE w' s.1 (((cS o).take i).foldl (fun a k=>(cv k).foldl gw a) [])/\Fr none1 w w'/\lK w' u (cS o)/\(∀ k,aw s.1 k->w.heap.size<=k/\¬ aw u k)) (fun s _=>(2 - s.2.1).toNat)
  ⟨0,rfl,Nat.zero_le _,zd _,f1.trans f2,hu,fun k t=>(ko k t).elim⟩ ?_
 rintro _ ⟨v,i',_⟩ w3 ⟨i,hi,ja,hv,f3,kL,vf⟩;dsimp only at hi hv vf ⊢;subst hi;refine aa.dec (fun aS=>?_) (fun dQ=>?_)
 rotate_left
 ·have:i=(cS o).length:=by omega
  subst this;rw[List.take_length] at hv;exact⟨v,rfl,hv,f3,fun k U=>(vf k U).1⟩
 have fB:i<(cS o).length:=by omega
 obtain⟨k,U⟩:∃ k,(cS o)[i]? = some k:=⟨_,List.getElem?_eq_getElem fB⟩;have nV:=List.mem_of_getElem? U;have nW:jv (((cS o).take (i+1)).map bA)<=bA o:=by
  have gS:nU o=false:=by cases o<;>first | rfl | (simp[cS] at fB)
  have:=KX o gS;rw[List.map_take];have:=wT ((cS o).map bA) (i+1);omega
 rw[rN _ _ _ U,uV] at nW;have hA:=Zw o i;have aco:=H5 k;refine kL.ld U ?_;refine ab.of (ih k nV (by omega) w3) ?_;rintro _ w4 ⟨x,rfl,hx,f4,xf⟩;refine⟨x,rfl,?_⟩;have kN:=hx.len;generalize Zy:((cS o).take i).foldl (fun a k=>(cv k).foldl gw a) []=A at hv hA;have ult:∀ b,aw u b->b<w3.heap.size:=fun b hb=>aF.lt kL hb;refine bw.of (fun s w'=>∃ j:Nat,s.2.1=j/\j<=(cv k).length/\gE w' s.1 (((cv k).take j).foldl gw A)/\Fr none1 w w'/\lK w' u (cS o)/\gE w' x (cv k)/\(∀ b,aw s.1 b->w.heap.size<=b/\¬ aw u b/\¬ aw x b)) (fun s _=>(x.2.1 - s.2.1).toNat)
  ⟨0,rfl,Nat.zero_le _,hv.af f4,f3.trans f4,kL.af f4,hx,fun b hb=>⟨(vf b hb).1,(vf b hb).2,fun t=>by have:=xf b t;have:=aF.lt hv hb;omega⟩⟩ ?_
 rintro _ ⟨v5,j',_⟩ w5 ⟨j,hj,CI,jH,f5,qR,sH,mH⟩;dsimp only at hj jH mH ⊢;subst hj;have hB:=rm ((cv k).take j) A;rw[List.length_take] at hB;refine aa.dec (fun ot=>?_) (fun Zz=>?_)
 rotate_left
 ·have:j=(cv k).length:=by omega
  subst this;rw[List.take_length] at jH;exact⟨⟨i+1,by rw[wI (by omega) (by omega)];omega,by omega,by rw[AD _ _ _ U,Zy];exact jH,f5,qR,fun b hb=>⟨(mH b hb).1,(mH b hb).2.1⟩⟩,by rw[wI (by omega) (by omega)];omega⟩
 have jN:j<(cv k).length:=by omega
 obtain⟨s,hs⟩:∃ s,(cv k)[j]? = some s:=⟨_,List.getElem?_eq_getElem jN⟩;refine sH.ld hs ?_;refine ab.of (Ld (aF.rd jH) (by omega) s) ?_;rintro _ _ ⟨rfl,rfl⟩;have H6:=jH.len;refine⟨_,rfl,aa.not (aa.dec (fun hm=>?_) (fun hm=>?_))⟩
 ·refine⟨⟨j+1,by rw[wI (by omega) (by omega)];omega,by omega,?_,f5,qR,sH,mH⟩,by rw[wI (by omega) (by omega)];omega⟩
  rw[AD _ _ _ hs,gw,if_pos hm];exact jH
 ·refine Eo wS 51 jH (sv s) rfl rfl (by rw[H6];omega) fun y w6 hy gT f6 yf=>?_
  have ZA:∀ b,w5.heap.size<=b->w.heap.size<=b/\¬ aw u b/\¬ aw x b:=fun b hb=>⟨by have:=f5.size;omega,fun t=>by have:=aF.lt qR t;omega,fun t=>by have:=aF.lt sH t;omega⟩;refine⟨⟨j+1,by rw[wI (by omega) (by omega)];omega,by omega,?_,f5.comp f6 (fun b _ t=>by have:=(mH b t).1;omega),aF.ag qR f6 (fun b hb t=>(mH b t).2.1 hb),aF.ag sH f6 (fun b hb t=>(mH b t).2.2 hb),fun b hb=>?_⟩,by rw[wI (by omega) (by omega)];omega⟩
  ·rw[AD _ _ _ hs,gw,if_neg hm]
   unfold gE;rw[List.map_append];exact hy
  ·rcases yf b hb with t | t
   ·exact mH b t
   ·exact ZA b t
termination_by SizeOf.sizeOf o
decreasing_by exact BG U
theorem ZB (d:Int)(o:Ob)(hn:bA o<=1000000){w:World}{F:Nat->Prop}{b:Nat}{m:da}(h:ig w F b m):Ret Tryz.prog 324 #[o.v,.int .i64 d,.pointer (some ⟨b,0,none⟩)] w fun r w'=>∃ u:Sl,r=.slice u.1 u.2.1 u.2.2/\gE w' u (np m d o)/\Fr none1 w w'/\∀ k,aw u k->w.heap.size<=k:=by
 refine c324 o.v d _ w _ ?_;unfold C324 np;refine ab.of (E3 o hn w) ?_;rintro _ w1 ⟨rfl,f1⟩;refine⟨_,rfl,aa.ne (fun ay=>?_) (fun he=>?_)⟩
 ·rw[if_pos ay];exact⟨(none,0,0),rfl,zd _,f1,fun k t=>(ko k t).elim⟩
 rw[if_neg (fun t=>t he)];refine ab.of (O7 o hn w1) ?_;rintro _ w2 ⟨x,rfl,hx,f2,xf⟩;refine⟨x,rfl,?_⟩;have kN:=hx.len;have hol:=H5 o;refine bw.of (fun s w'=>∃ j:Nat,s.2.1=j/\j<=(cv o).length/\gE w' s.1 (((cv o).take j).filter fun s=>(bq (s,d) m.fx).isNone)/\Fr none1 w w'/\gE w' x (cv o)/\(∀ b,aw s.1 b->w.heap.size<=b/\¬ aw x b)) (fun s _=>(x.2.1 - s.2.1).toNat)
  ⟨0,rfl,Nat.zero_le _,zd _,f1.trans f2,hx,fun k t=>(ko k t).elim⟩ ?_
 rintro _ ⟨v5,j',_⟩ w5 ⟨j,hj,CI,jH,f5,sH,mH⟩;dsimp only at hj jH mH ⊢;subst hj;have hB:=List.length_filter_le (fun s=>(bq (s,d) m.fx).isNone) ((cv o).take j);rw[List.length_take] at hB;have H6:=jH.len;refine aa.dec (fun ot=>?_) (fun Zz=>?_)
 rotate_left
 ·have:j=(cv o).length:=by omega
  subst this;rw[List.take_length] at jH;exact⟨v5,rfl,jH,f5,fun b hb=>(mH b hb).1⟩
 have jN:j<(cv o).length:=by omega
 obtain⟨s,hs⟩:∃ s,(cv o)[j]? = some s:=⟨_,List.getElem?_eq_getElem jN⟩;refine sH.ld hs ?_;refine ab.of (OY (h.af f5) s d) ?_;rintro _ _ ⟨rfl,rfl⟩;refine⟨((bq (s,d) m.fx).getD 0,(bq (s,d) m.fx).isSome,()),rfl,aa.not (aa.by (fun hm=>?_) (fun hm=>?_))⟩
 ·refine⟨⟨j+1,by rw[wI (by omega) (by omega)];omega,by omega,?_,f5,sH,mH⟩,by rw[wI (by omega) (by omega)];omega⟩
  have hm:(bq (s,d) m.fx).isSome=true:=hm;rw[List.take_add_one,hs,List.filter_append];have:([s].filter fun s=>(bq (s,d) m.fx).isNone)=[]:=by
   cases hg:bq (s,d) m.fx with
   | none=>rw[hg] at hm;cases hm
   | some x=>simp[hg]
  simp only[Option.toList_some,this,List.append_nil];exact jH
 ·have hm:(bq (s,d) m.fx).isSome=false:=hm
  refine Eo wS 51 jH (sv s) rfl rfl (by rw[H6];omega) fun y w6 hy gT f6 yf=>?_;refine⟨⟨j+1,by rw[wI (by omega) (by omega)];omega,by omega,?_,f5.comp f6 (fun b _ t=>by have:=(mH b t).1;omega),aF.ag sH f6 (fun b hb t=>(mH b t).2 hb),fun b hb=>?_⟩,by rw[wI (by omega) (by omega)];omega⟩
  ·have:([s].filter fun s=>(bq (s,d) m.fx).isNone)=[s]:=by
    cases hg:bq (s,d) m.fx with
    | none=>simp[hg]
    | some x=>rw[hg] at hm;cases hm
   rw[List.take_add_one,hs,List.filter_append];simp only[Option.toList_some,this];unfold gE;rw[List.map_append];exact hy
  ·rcases yf b hb with t | t
   ·exact mH b t
   ·exact⟨by have:=f5.size;omega,fun q=>by have:=aF.lt sH q;omega⟩
def C323 (p0:Addr)(p1:Int)(p2:Option Addr)(AE H7:Nat)(w:World)(K:Value->World->Prop):Prop:=
 bw (Int×Unit) (fun _ s1 w2 gm=>aa (decide (s1.1<(AE:Int)))
 (bK p2 AE s1.1 1 (fun a4=>ae .str a4 w2 (fun(x5:ByteArray)=>ak (.cells #[.bool false,.string (⟨#[]⟩:ByteArray),.string (⟨#[]⟩:ByteArray),.int .i64 0,.int .i64 0] 154) w2 (fun g6 w7=>ar (ad g6) [.bool false,.string x5,.string (⟨#[]⟩:ByteArray),.int .i64 p1,.int .i64 0] w7 (fun w8=>aD w8 (fun w9=>ae .aj (p0.add 3) w9 (fun(aR:an)=>aq wE (ad g6) w9 (fun(ba:nR)=>ab Tryz.prog 340 #[.slice aR.1 aR.2.1 aR.2.2,.agg (mS ba).toArray] w9 (.v (.one .bool)) (fun(bt:Bool) aW=>aa (!bt)
 (aD aW (fun bm=>aV (fun nD=>av nD (p0.add 3) (ae .aj (p0.add 3) bm (fun(aQ:an)=>av nD (ad g6) (aq wE (ad g6) bm (fun(aX:nR)=>az Tryz.prog (Instr.buildSlice 151 1 #[(0,.agg (mS aX).toArray)]) bm (.v (.one .aj)) (fun(br:an) bx=>ai nD bm bx (az Tryz.prog (Builtin.append_ #[151,151] 151 #[.slice aQ.1 aQ.2.1 aQ.2.2,.slice br.1 br.2.1 br.2.2]) bx (.v (.one .aj)) (fun(cw:an) bB=>aA (p0.add 3) (.slice cw.1 cw.2.1 cw.2.2) bB (fun bN=>gm (IntKind.i64.wrap (s1.1+1),()) bN)))))))))))
 (gm (IntKind.i64.wrap (s1.1+1),()) aW))))))))))
 (K (.tuple #[]) w2))
 (0,()) w
def pl323:aB:=(.seq .auto (.block (.loop [(11,.one (.int .i64))] (.seq .auto (.seq .auto (.seq (.block (.seq .auto (.seq .auto (.seq (.tail 5) (.cond (.held (.soft 0 (.soft 1 (.soft 2 (.soft 3 (.soft 4 (.soft 5 (.pick 6 (.last 7 (.soft 8 (.soft 9 (.last 10 .done)))) .stop)))))))) .auto))))) .auto))))))
theorem c323 (p0:Addr)(p1:Int)(p2:Option Addr)(AE H7:Nat)(w:World)(K:Value->World->Prop)(h:C323 p0 p1 p2 AE H7 w K):Ret Tryz.prog 323 #[.pointer (some p0),.int .i64 p1,.slice p2 AE H7] w K:=aC (by kernel_rfl) Tryz.func323 (p:=pl323) (Eq.mpr (by kernel_rfl) h)
def C306 (p0:Addr)(p1:Value)(p2:Int)(w:World)(K:Value->World->Prop):Prop:=
 ae .ptr (p0.add 1) w (fun(x1:Option Addr)=>ab Tryz.prog 322 #[p1,.int .i64 p2,.pointer x1] w (.aN [.one (.int .i64),.one .bool,.one (.int .i64)]) (fun(x2:Int×Bool×Int×Unit) w3=>aa (x2.2.2.1==0)
 (aa (!x2.2.1)
 (ae .ptr (p0.add 1) w3 (fun(x4:Option Addr)=>ab Tryz.prog 324 #[p1,.int .i64 p2,.pointer x4] w3 (.v (.one .aj)) (fun(x5:an) w6=>ab Tryz.prog 323 #[.pointer (some p0),.int .i64 p2,.slice x5.1 x5.2.1 x5.2.2] w6 (.aN []) (fun(x7:Unit) w8=>K (.tuple #[.int .i64 x2.1,.bool x2.2.1,.int .i64 x2.2.2.1]) w8))))
 (K (.tuple #[.int .i64 x2.1,.bool x2.2.1,.int .i64 x2.2.2.1]) w3))
 (K (.tuple #[.int .i64 x2.1,.bool x2.2.1,.int .i64 x2.2.2.1]) w3)))
def pl306:aB:=.auto
theorem c306 (p0:Addr)(p1:Value)(p2:Int)(w:World)(K:Value->World->Prop)(h:C306 p0 p1 p2 w K):Ret Tryz.prog 306 #[.pointer (some p0),p1,.int .i64 p2] w K:=aC (by kernel_rfl) Tryz.func306 (p:=pl306) (Eq.mpr (by kernel_rfl) h)
def C282 (p0:Addr)(p1:Value)(p2:Value)(p3:Int)(p4:Int)(w:World)(K:Value->World->Prop):Prop:=
 ab Tryz.prog 258 #[.pointer (some p0),p1,.int .i64 p3,.int .i64 p4] w (.v (.one (.int .i64))) (fun(x1:Int) w2=>aa (x1 != 0)
 (K (.int .i64 x1) w2)
 (ab Tryz.prog 258 #[.pointer (some p0),p2,.int .i64 p3,.int .i64 p4] w2 (.v (.one (.int .i64))) (fun(x3:Int) w4=>K (.int .i64 x3) w4)))
def pl282:aB:=.auto
theorem c282 (p0:Addr)(p1:Value)(p2:Value)(p3:Int)(p4:Int)(w:World)(K:Value->World->Prop)(h:C282 p0 p1 p2 p3 p4 w K):Ret Tryz.prog 282 #[.pointer (some p0),p1,p2,.int .i64 p3,.int .i64 p4] w K:=aC (by kernel_rfl) Tryz.func282 (p:=pl282) (Eq.mpr (by kernel_rfl) h)
def C283 (p0:Addr)(p1:Value×Value×Unit)(p2:Int)(p3:Int)(w:World)(K:Value->World->Prop):Prop:=
 ak (.cells #[p1.1,p1.2.1] 245) w (fun g1 w2=>ae .raw ((ad g1).add 0) w2 (fun(x3:Value)=>ab Tryz.prog 306 #[.pointer (some p0),x3,.int .i64 p2] w2 (.aN [.one (.int .i64),.one .bool,.one (.int .i64)]) (fun(x4:Int×Bool×Int×Unit) w5=>aa (x4.2.2.1 != 0)
 (K (.int .i64 x4.2.2.1) w5)
 (aa (!x4.2.1)
 (K (.int .i64 x4.2.2.1) w5)
 (ab Tryz.prog 307 #[.int .i64 p3,.int .i64 x4.1] w5 (.aN [.one (.int .i64),.one .bool]) (fun(x6:Int×Bool×Unit) w7=>aa (!x6.2.1)
 (K (.int .i64 6) w7)
 (aa (x6.1==0)
 (K (.int .i64 0) w7)
 (ae .raw ((ad g1).add 1) w7 (fun(x8:Value)=>ab Tryz.prog 258 #[.pointer (some p0),x8,.int .i64 p2,.int .i64 x6.1] w7 (.v (.one (.int .i64))) (fun(x9:Int) aG=>K (.int .i64 x9) aG))))))))))
def pl283:aB:=.auto
theorem c283 (p0:Addr)(p1:Value×Value×Unit)(p2:Int)(p3:Int)(w:World)(K:Value->World->Prop)(h:C283 p0 p1 p2 p3 w K):Ret Tryz.prog 283 #[.pointer (some p0),.agg #[p1.1,p1.2.1],.int .i64 p2,.int .i64 p3] w K:=aC (by kernel_rfl) Tryz.func283 (p:=pl283) (Eq.mpr (by kernel_rfl) h)
def C284 (p0:Addr)(p1:Value×Value×Value×Unit)(p2:Int)(p3:Int)(w:World)(K:Value->World->Prop):Prop:=
 ak (.cells #[p1.1,p1.2.1,p1.2.2.1] 249) w (fun g1 w2=>ae .raw ((ad g1).add 0) w2 (fun(x3:Value)=>ab Tryz.prog 306 #[.pointer (some p0),x3,.int .i64 p2] w2 (.aN [.one (.int .i64),.one .bool,.one (.int .i64)]) (fun(x4:Int×Bool×Int×Unit) w5=>aa (x4.2.2.1 != 0)
 (K (.int .i64 x4.2.2.1) w5)
 (aa (!x4.2.1)
 (K (.int .i64 x4.2.2.1) w5)
 (aa (decide (x4.1 > 0))
 (ae .raw ((ad g1).add 1) w5 (fun(x6:Value)=>ab Tryz.prog 258 #[.pointer (some p0),x6,.int .i64 p2,.int .i64 p3] w5 (.v (.one (.int .i64))) (fun(x7:Int) w8=>K (.int .i64 x7) w8)))
 (ae .raw ((ad g1).add 2) w5 (fun(x9:Value)=>ab Tryz.prog 258 #[.pointer (some p0),x9,.int .i64 p2,.int .i64 p3] w5 (.v (.one (.int .i64))) (fun(aR:Int) aO=>K (.int .i64 aR) aO))))))))
def pl284:aB:=.auto
theorem c284 (p0:Addr)(p1:Value×Value×Value×Unit)(p2:Int)(p3:Int)(w:World)(K:Value->World->Prop)(h:C284 p0 p1 p2 p3 w K):Ret Tryz.prog 284 #[.pointer (some p0),.agg #[p1.1,p1.2.1,p1.2.2.1],.int .i64 p2,.int .i64 p3] w K:=aC (by kernel_rfl) Tryz.func284 (p:=pl284) (Eq.mpr (by kernel_rfl) h)
def C285 (p0:Addr)(p1:ByteArray×Value×Value×Unit)(p2:Int)(p3:Int)(w:World)(K:Value->World->Prop):Prop:=
 ak (.cells #[.string p1.1,p1.2.1,p1.2.2.1] 241) w (fun g1 w2=>aD w2 (fun w3=>aV (fun S4=>av S4 (p0.add 1) (ae .ptr (p0.add 1) w3 (fun(x5:Option Addr)=>av S4 (p0.add 0) (ae .str (p0.add 0) w3 (fun(x6:ByteArray)=>av S4 ((ad g1).add 0) (ae .str ((ad g1).add 0) w3 (fun(x7:ByteArray)=>ab Tryz.prog 308 #[.pointer x5,.string x6,.string x7] w3 (.aN [.one (.int .i64),.one (.int .i64),.one .bool]) (fun(x8:Int×Int×Bool×Unit) w9=>cq (Bool×Unit) (fun vL=>aa (!x8.2.2.1)
 (vL (decide (p3 > 0),()) w9)
 (vL (false,()) w9))
 (fun _ xW aM=>aa xW.1
 (aD aM (fun aW=>aV (fun tX=>av tX (p0.add 3) (ae .aj (p0.add 3) aW (fun(bj:an)=>av tX ((ad g1).add 0) (ae .str ((ad g1).add 0) aW (fun(aQ:ByteArray)=>az Tryz.prog (Instr.buildSlice 151 1 #[(0,.agg #[.bool true,.string (⟨#[]⟩:ByteArray),.string aQ,.int .i64 p2,.int .i64 0])]) aW (.v (.one .aj)) (fun(aX:an) bz=>ai tX aW bz (az Tryz.prog (Builtin.append_ #[151,151] 151 #[.slice bj.1 bj.2.1 bj.2.2,.slice aX.1 aX.2.1 aX.2.2]) bz (.v (.one .aj)) (fun(bu:an) bo=>aA (p0.add 3) (.slice bu.1 bu.2.1 bu.2.2) bo (fun bB=>K (.int .i64 0) bB)))))))))))
 (aa (!x8.2.2.1)
 (aD aM (fun bN=>aV (fun H8=>av H8 (p0.add 3) (ae .aj (p0.add 3) bN (fun(cj:an)=>av H8 ((ad g1).add 0) (ae .str ((ad g1).add 0) bN (fun(bC:ByteArray)=>az Tryz.prog (Instr.buildSlice 151 1 #[(0,.agg #[.bool true,.string (⟨#[]⟩:ByteArray),.string bC,.int .i64 p2,.int .i64 1])]) bN (.v (.one .aj)) (fun(cZ:an) eJ=>ai H8 bN eJ (az Tryz.prog (Builtin.append_ #[151,151] 151 #[.slice cj.1 cj.2.1 cj.2.2,.slice cZ.1 cZ.2.1 cZ.2.2]) eJ (.v (.one .aj)) (fun(eN:an) et=>aA (p0.add 3) (.slice eN.1 eN.2.1 eN.2.2) et (fun bO=>K (.int .i64 0) bO)))))))))))
 (aa (x8.1==0)
 (ae .raw ((ad g1).add 1) aM (fun(bZ:Value)=>ab Tryz.prog 258 #[.pointer (some p0),bZ,.int .i64 (if x8.2.1 > p2 then x8.2.1 else p2),.int .i64 p3] aM (.v (.one (.int .i64))) (fun(dK:Int) dS=>K (.int .i64 dK) dS)))
 (ae .raw ((ad g1).add 2) aM (fun(dj:Value)=>ab Tryz.prog 258 #[.pointer (some p0),dj,.int .i64 (if x8.2.1 > p2 then x8.2.1 else p2),.int .i64 p3] aM (.v (.one (.int .i64))) (fun(de:Int) cQ=>K (.int .i64 de) cQ))))))))))))))))
def pl285:aB:=(.seq .auto (.seq (.held (.soft 0 (.soft 1 (.soft 2 (.soft 3 (.soft 4 (.soft 5 (.soft 6 (.soft 7 (.soft 8 (.soft 9 (.last 10 (.soft 11 (.soft 12 (.soft 13 (.soft 14 (.soft 15 (.soft 16 (.soft 17 .done))))))))))))))))))) (.seq (.block (.join [(27,.one .bool)] .auto (.cond (.seq (.held (.soft 0 (.soft 1 (.soft 2 (.soft 3 (.soft 4 (.soft 5 (.soft 6 (.soft 7 (.soft 8 (.pick 9 (.last 10 (.soft 11 (.soft 12 (.last 13 .done)))) .stop))))))))))) .auto) (.seq .auto (.cond (.seq (.held (.soft 0 (.soft 1 (.soft 2 (.soft 3 (.soft 4 (.soft 5 (.soft 6 (.soft 7 (.soft 8 (.pick 9 (.last 10 (.soft 11 (.soft 12 (.last 13 .done)))) .stop))))))))))) .auto) .auto))))) .auto)))
theorem c285 (p0:Addr)(p1:ByteArray×Value×Value×Unit)(p2:Int)(p3:Int)(w:World)(K:Value->World->Prop)(h:C285 p0 p1 p2 p3 w K):Ret Tryz.prog 285 #[.pointer (some p0),.agg #[.string p1.1,p1.2.1,p1.2.2.1],.int .i64 p2,.int .i64 p3] w K:=aC (by kernel_rfl) Tryz.func285 (p:=pl285) (Eq.mpr (by kernel_rfl) h)
def C258 (p0:Addr)(p1:Value)(p2:Int)(p3:Int)(w:World)(K:Value->World->Prop):Prop:=
 ao p1 216 (.agg [.str]) (fun(x1:ByteArray×Unit)=>ak (.cells #[.string (⟨#[]⟩:ByteArray)] 216) w (fun g2 w3=>ar (ad g2) [.string x1.1] w3 (fun w4=>aD w4 (fun w5=>aV (fun S6=>av S6 (p0.add 2) (ae .aj (p0.add 2) w5 (fun(x7:an)=>av S6 ((ad g2).add 0) (ae .str ((ad g2).add 0) w5 (fun(x8:ByteArray)=>az Tryz.prog (Instr.buildSlice 163 1 #[(0,.agg #[.int .i64 p2,.string x8,.int .i64 p3])]) w5 (.v (.one .aj)) (fun(x9:an) aG=>ai S6 w5 aG (az Tryz.prog (Builtin.append_ #[163,163] 163 #[.slice x7.1 x7.2.1 x7.2.2,.slice x9.1 x9.2.1 x9.2.2]) aG (.v (.one .aj)) (fun(ba:an) aM=>aA (p0.add 2) (.slice ba.1 ba.2.1 ba.2.2) aM (fun aW=>K (.int .i64 0) aW)))))))))))))
 (ao p1 237 (.agg [.raw]) (fun(bd:Value×Unit)=>ak (.cells #[.nilIface] 237) w (fun g15 bn=>ar (ad g15) [bd.1] bn (fun b9=>ae .raw ((ad g15).add 0) b9 (fun(br:Value)=>ab Tryz.prog 258 #[.pointer (some p0),br,.int .i64 p2,.int .i64 (IntKind.i64.wrap (0 - p3))] b9 (.v (.one (.int .i64))) (fun(bu:Int) bo=>K (.int .i64 bu) bo)))))
 (ao p1 239 (.agg [.raw,.raw]) (fun(bT:Value×Value×Unit)=>ak (.cells #[.nilIface,.nilIface] 239) w (fun g22 cV=>ar (ad g22) [bT.1,bT.2.1] cV (fun cm=>ae .raw ((ad g22).add 0) cm (fun(bC:Value)=>ae .raw ((ad g22).add 1) cm (fun(cZ:Value)=>ab Tryz.prog 282 #[.pointer (some p0),bC,cZ,.int .i64 p2,.int .i64 p3] cm (.v (.one (.int .i64))) (fun(cz:Int) bS=>K (.int .i64 cz) bS))))))
 (ao p1 247 (.agg [.int .i64,.raw]) (fun(cx:Int×Value×Unit)=>ak (.cells #[.int .i64 0,.nilIface] 247) w (fun rO fh=>ar (ad rO) [.int .i64 cx.1,cx.2.1] fh (fun cL=>ae .raw ((ad rO).add 1) cL (fun(dp:Value)=>ae (.int .i64) ((ad rO).add 0) cL (fun(dj:Int)=>ab Tryz.prog 258 #[.pointer (some p0),dp,.int .i64 (if dj > p2 then dj else p2),.int .i64 p3] cL (.v (.one (.int .i64))) (fun(de:Int) cQ=>K (.int .i64 de) cQ))))))
 (ao p1 245 (.agg [.raw,.raw]) (fun(gn:Value×Value×Unit)=>ak (.cells #[.nilIface,.nilIface] 245) w (fun O8 eh=>ar (ad O8) [gn.1,gn.2.1] eh (fun dD=>aq [.raw,.raw] (ad O8) dD (fun(ek:Value×Value×Unit)=>ab Tryz.prog 283 #[.pointer (some p0),.agg #[ek.1,ek.2.1],.int .i64 p2,.int .i64 p3] dD (.v (.one (.int .i64))) (fun(iQ:Int) kq=>K (.int .i64 iQ) kq)))))
 (ao p1 249 (.agg [.raw,.raw,.raw]) (fun(jq:Value×Value×Value×Unit)=>ak (.cells #[.nilIface,.nilIface,.nilIface] 249) w (fun tq iq=>ar (ad tq) [jq.1,jq.2.1,jq.2.2.1] iq (fun gd=>aq [.raw,.raw,.raw] (ad tq) gd (fun(gY:Value×Value×Value×Unit)=>ab Tryz.prog 284 #[.pointer (some p0),.agg #[gY.1,gY.2.1,gY.2.2.1],.int .i64 p2,.int .i64 p3] gd (.v (.one (.int .i64))) (fun(fu:Int) mA=>K (.int .i64 fu) mA)))))
 (ao p1 241 (.agg [.str,.raw,.raw]) (fun(js:ByteArray×Value×Value×Unit)=>ak (.cells #[.string (⟨#[]⟩:ByteArray),.nilIface,.nilIface] 241) w (fun xU ng=>ar (ad xU) [.string js.1,js.2.1,js.2.2.1] ng (fun iu=>aq [.str,.raw,.raw] (ad xU) iu (fun(sI:ByteArray×Value×Value×Unit)=>ab Tryz.prog 285 #[.pointer (some p0),.agg #[.string sI.1,sI.2.1,sI.2.2.1],.int .i64 p2,.int .i64 p3] iu (.v (.one (.int .i64))) (fun(kO:Int) mv=>K (.int .i64 kO) mv)))))
 (K (.int .i64 0) w)))))))
def pl258:aB:=(.seq .auto (.seq (.seq .auto (.block (.seq .auto (.cond (.seq .auto (.held (.soft 0 (.soft 1 (.soft 2 (.soft 3 (.soft 4 (.soft 5 (.soft 6 (.soft 7 (.soft 8 (.soft 9 (.pick 10 (.last 11 (.soft 12 (.soft 13 (.last 14 .done)))) .stop))))))))))))) .auto)))) .auto))
theorem c258 (p0:Addr)(p1:Value)(p2:Int)(p3:Int)(w:World)(K:Value->World->Prop)(h:C258 p0 p1 p2 p3 w K):Ret Tryz.prog 258 #[.pointer (some p0),p1,.int .i64 p2,.int .i64 p3] w K:=aC (by kernel_rfl) Tryz.func258 (p:=pl258) (Eq.mpr (by kernel_rfl) h)
def C233 (p0:ByteArray)(p1:Value)(p2:Int)(p3:Addr)(w:World)(K:Value->World->Prop):Prop:=
 ab Tryz.prog 170 #[p1] w (.v (.one (.int .i64))) (fun(x1:Int) w2=>aa (x1 != 0)
 (K (.tuple #[.slice none 0 0,.slice none 0 0,.int .i64 1]) w2)
 (aa (decide (p2<0))
 (K (.tuple #[.slice none 0 0,.slice none 0 0,.int .i64 1]) w2)
 (aa (decide (p2 > 10000))
 (K (.tuple #[.slice none 0 0,.slice none 0 0,.int .i64 1]) w2)
 (ak (.cells #[.string p0,.pointer (some p3),.slice none 0 0,.slice none 0 0] 413) w2 (fun g3 w4=>ab Tryz.prog 258 #[.pointer (some (ad g3)),p1,.int .i64 p2,.int .i64 1] w4 (.v (.one (.int .i64))) (fun(x5:Int) w6=>aa (x5 != 0)
 (K (.tuple #[.slice none 0 0,.slice none 0 0,.int .i64 x5]) w6)
 (aD w6 (fun w7=>ae .aj ((ad g3).add 2) w7 (fun(x8:an)=>ae .aj ((ad g3).add 3) w7 (fun(x9:an)=>K (.tuple #[.slice x8.1 x8.2.1 x8.2.2,.slice x9.1 x9.2.1 x9.2.2,.int .i64 0]) w7))))))))))
def pl233:aB:=(.seq .auto (.seq .auto (.seq .auto (.seq .auto (.seq .still .auto)))))
theorem c233 (p0:ByteArray)(p1:Value)(p2:Int)(p3:Addr)(w:World)(K:Value->World->Prop)(h:C233 p0 p1 p2 p3 w K):Ret Tryz.prog 233 #[.string p0,p1,.int .i64 p2,.pointer (some p3)] w K:=aC (by kernel_rfl) Tryz.func233 (p:=pl233) (Eq.mpr (by kernel_rfl) h)
def C340 (p0:Option Addr)(aH aP:Nat)(p1:nR)(w:World)(K:Value->World->Prop):Prop:=
 ak (.cells ((mS p1).toArray) 154) w (fun g1 w2=>aq wE (ad g1) w2 (fun(x3:nR)=>ab Tryz.prog 358 #[.slice p0 aH aP,.agg (mS x3).toArray] w2 (.v (.one (.int .i64))) (fun(x4:Int) w5=>K (.bool (decide (x4 >= 0))) w5)))
def pl340:aB:=.auto
theorem c340 (p0:Option Addr)(aH aP:Nat)(p1:nR)(w:World)(K:Value->World->Prop)(h:C340 p0 aH aP p1 w K):Ret Tryz.prog 340 #[.slice p0 aH aP,.agg (mS p1).toArray] w K:=aC (by kernel_rfl) Tryz.func340 (p:=pl340) (Eq.mpr (by kernel_rfl) h)
def C358 (p0:Option Addr)(aH aP:Nat)(p1:nR)(w:World)(K:Value->World->Prop):Prop:=
 ak (.cells ((mS p1).toArray) 154) w (fun g1 w2=>bw (Int×Unit) (fun _ s3 w4 kM=>aa (decide (s3.1<(aH:Int)))
 (aD w4 (fun w6=>aq wE (ad g1) w6 (fun(x7:nR)=>bK p0 aH s3.1 5 (fun a8=>aq wE a8 w6 (fun(x9:nR)=>az Tryz.prog (do eqGuard .eql 154 (.tmp 11) (.tmp 15) (.agg (mS x7).toArray) (.agg (mS x9).toArray);binOp .eql 154 (.agg (mS x7).toArray) (.agg (mS x9).toArray)) w6 (.v (.one .bool)) (fun(aR:Bool) aO=>aa aR
 (K (.int .i64 s3.1) aO)
 (kM (IntKind.i64.wrap (s3.1+1),()) aO)))))))
 (K (.int .i64 (-1)) w4))
 (0,()) w2)
def pl358:aB:=(.seq .auto (.seq (.seq .auto (.block (.loop [(8,.one (.int .i64))] (.seq .auto (.seq .auto (.seq (.block (.seq .auto (.seq (.tail 5) .auto))) .auto)))))) .auto))
theorem c358 (p0:Option Addr)(aH aP:Nat)(p1:nR)(w:World)(K:Value->World->Prop)(h:C358 p0 aH aP p1 w K):Ret Tryz.prog 358 #[.slice p0 aH aP,.agg (mS p1).toArray] w K:=aC (by kernel_rfl) Tryz.func358 (p:=pl358) (Eq.mpr (by kernel_rfl) h)
end Go.Proofs.YtmkehncgjnhhcaaGreatDoor
