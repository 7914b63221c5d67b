/-
  Texts of this claim, put together.
  Conditions: those of each theorem.
-/
import Derived.Test.YtfolkckcakndkaaGreatDoorQDS0
import Derived.Test.YtfolkckcakndkaaGreatDoorQDS1
import Derived.Test.YtfolkckcakndkaaGreatDoorQDS2
import Derived.Test.YtfolkckcakndkaaGreatDoorQDS3
import Derived.Test.YtfolkckcakndkaaGreatDoorQDS4
import Derived.KernelRfl
import Derived.Laws.StructEq
import Derived.Test.YtfolkckcakndkaaGreatDoorProg
set_option linter.unusedVariables false
set_option maxRecDepth 100000
namespace Go.Proofs.YtfolkckcakndkaaGreatDoor
open Vc
set_option maxRecDepth 100000
set_option maxHeartbeats 2000000
variable {w w':ah}{b g N fb fg c g1 j:Nat}{F S A:bz}{p q:PeerM}{kb bs x:ai}{d:DuoM}{l:fE}{E:Int}{a:cE}{T:TypeId}
def PeerM.add (p:PeerM)(x:dS):PeerM:={ p with es:=p.es++[x],hs:=p.hs++[(dF p.kb p.head x).1],bX:=if x.2=true then p.bX else(jo p.bX x.1 (PeerM.owner p.len)).1,aW:=(bH,false),wanted:=false }
theorem qg (p:PeerM)(l:List bS):(p.bx { bq with bg:=l }).1=p:=by
 cases p;simp[PeerM.bx,PeerM.ended,PeerM.lg,PeerM.oI,bq]
theorem VH (p:PeerM)(b:Bool)(l:List bS):(p.bx { bq with wanted:=b,bg:=l }).1={ p with wanted:=p.wanted||b }:=by
 cases p;simp[PeerM.bx,PeerM.ended,PeerM.lg,PeerM.oI,bq]
theorem aeW (p:PeerM):(p.bx { bq with drop:=true }).1={ p with off:=(bH,false) }:=by
 cases p;simp[PeerM.bx,PeerM.ended,PeerM.lg,PeerM.oI,bq]
theorem Ot {x:dS}(h:(p.entry x).2=0)(l:List bS):(p.bx { bq with cP:=true,bB:=x,bg:=l }).1=p.add x:=by
 have e:=AW h;have e2:(p.entry x).1=p.add x:=e;unfold PeerM.bx;rw[if_pos rfl,if_neg (λ t=>t h)];show(p.entry x).1.ended _=_;rw[e2];cases p;simp[PeerM.ended,PeerM.lg,PeerM.oI,bq,PeerM.add]
theorem Jr {h:Int}{x:dS}(hx:ik x.1=0):(dF kb h x).2=0:=by
 have:(iz x).2=0:=by rw[Dc];exact hx
 unfold dF;rw[if_neg (λ t=>t this)]
theorem aeX (h:p.hs.length=p.es.length+1):p.at_ p.len=(p.head,true):=by
 unfold PeerM.at_ PeerM.head PeerM.len;rw[if_neg ab];rfl
theorem A8 (h:p.es.length<64):¬ p.full=true:=by
 unfold PeerM.full;rw[decide_eq_true_eq];omega
theorem VI (h:p.hs.length=p.es.length+1):p.kN p.len p.head=false:=by
 unfold PeerM.kN;rw[aeX h,decide_eq_false ab];simp
theorem aeY {y:PeerM}(hl:y.hs.length=y.es.length+1)(hq:y.bD=false)(hn:y.es.length<64)(ho:PeerM.owner y.len≠y.side){m:bu}(hm:ik m=0):
  gv y (PeerM.fr 1 y.len y.head false m)={ bq with cP:=true,bB:=(m,y.cu m),bg:=[PeerM.fr 2 y.len (dF y.kb y.head (m,y.cu m)).1 (y.cu m) bH] }:=by
 have h1:gv y (PeerM.fr 1 y.len y.head false m)=y.la (PeerM.fr 1 y.len y.head false m):=by
  unfold gv;rw[if_neg (by show ¬ (1:Int)=4;decide),if_neg (by rw[hq];simp),if_neg (by show ¬ (1:Int)=3;decide),if_pos (by show(1:Int)=1;rfl)]
 rw[h1];unfold PeerM.la;rw[if_neg (by
  show ¬ (PeerM.owner y.len=y.side\/y.kN y.len y.head=true);rw[VI hl];simp;exact ho),if_neg (by show ¬ y.len<y.len;omega),if_neg (by
  show ¬ (y.len<y.len\/y.full=true);rintro(t | t)
  ·omega
  ·exact A8 hn t),if_neg (λ t=>t (Jr hm))]
 rfl
theorem aeZ {y:PeerM}(hs:y.side=0\/y.side=1)(hn:y.es.length<64)(ho:PeerM.owner y.len≠y.side){m:bu}(hm:ik m=0):(y.entry (m,y.cu m)).2=0:=by
 refine Jc hn (Jr hm) λ t=>?_;have t:y.cu m=false:=t;unfold PeerM.cu at t;rw[Bool.or_eq_false_iff] at t;have e:PeerM.owner y.len=1 - y.side:=by have:=Jb y.len;omega
 show gT y.bX m (PeerM.owner y.len)=0;rw[e];have:=t.1;simpa using this
theorem VJ (hq:p.bD=false)(ho:PeerM.owner p.len=p.side){m:bu}(hp:p.aW=(m,true))(hm:ik m=0)(r:Bool){h:Int}(hh:h=(dF p.kb p.head (m,r)).1):
  gv p (PeerM.fr 2 p.len h r bH)={ bq with cP:=true,bB:=(m,r) }:=by
 have h1:gv p (PeerM.fr 2 p.len h r bH)=p.mS (PeerM.fr 2 p.len h r bH):=by
  unfold gv;rw[if_neg (by show ¬ (2:Int)=4;decide),if_neg (by rw[hq];simp),if_neg (by show ¬ (2:Int)=3;decide),if_neg (by show ¬ (2:Int)=1;decide)]
 rw[h1];unfold PeerM.mS;rw[if_neg (by
  show ¬ (PeerM.owner p.len≠p.side\/p.len<p.len);rintro(t | t)
  ·exact t ho
  ·omega),if_neg (by show ¬ p.len<p.len;omega),if_neg (by rw[hp];simp)]
 rw[if_neg (by
  show ¬ ((dF p.kb p.head (p.aW.1,r)).2≠0\/(dF p.kb p.head (p.aW.1,r)).1≠h);rw[hp];rintro(t | t)
  ·exact t (Jr hm)
  ·exact t hh.symm)]
 rw[hp];rfl
theorem VK (hn:p.es.length<64)(ho:PeerM.owner p.len=p.side){m:bu}(hm:gT p.bX m p.side=0)(r:Bool):(p.entry (m,r)).2=0:=
 Jc hn (Jr (pe hm)) λ _=>by rw[ho];exact hm
theorem VL (hl:p.hs.length=p.es.length+1)(hq:p.bD=false)(ho:PeerM.owner p.len=p.side):gv p (PeerM.fr 3 p.len p.head false bH)={ bq with wanted:=true }:=by
 have h1:gv p (PeerM.fr 3 p.len p.head false bH)=p.want (PeerM.fr 3 p.len p.head false bH):=by
  unfold gv;rw[if_neg (by show ¬ (3:Int)=4;decide),if_neg (by rw[hq];simp),if_pos (by show(3:Int)=3;rfl)]
 rw[h1];unfold PeerM.want;rw[if_neg (by show ¬ p.kN p.len p.head=true;rw[VI hl];simp)];show({ bq with wanted:=p.len==p.len&&PeerM.owner p.len==p.side }:cE)=_
 rw[ho];simp
theorem ae0 {y:PeerM}(hq:y.bD=false){n h:Int}(ho:PeerM.owner n≠y.side)(dH:y.kN n h=false)(hn:n<y.len)(m:bu):
  gv y (PeerM.fr 1 n h false m)={ bq with bg:=[PeerM.fr 2 n (y.at_ (n+1)).1 (y.es.getD n.toNat (bH,false)).2 bH] }:=by
 have h1:gv y (PeerM.fr 1 n h false m)=y.la (PeerM.fr 1 n h false m):=by
  unfold gv;rw[if_neg (by show ¬ (1:Int)=4;decide),if_neg (by rw[hq];simp),if_neg (by show ¬ (1:Int)=3;decide),if_pos (by show(1:Int)=1;rfl)]
 rw[h1];unfold PeerM.la;rw[if_neg (by
  show ¬ (PeerM.owner n=y.side\/y.kN n h=true);rw[dH];simp;exact ho),if_pos (by show n<y.len;exact hn)]
 rfl
theorem ae1 {x:PeerM}(hl:x.hs.length=x.es.length+1)(hq:x.bD=false){h:Int}(ho:PeerM.owner (x.len+1)≠x.side)(m:bu):gv x (PeerM.fr 1 (x.len+1) h false m)=bq:=by
 have h1:gv x (PeerM.fr 1 (x.len+1) h false m)=x.la (PeerM.fr 1 (x.len+1) h false m):=by
  unfold gv;rw[if_neg (by show ¬ (1:Int)=4;decide),if_neg (by rw[hq];simp),if_neg (by show ¬ (1:Int)=3;decide),if_pos (by show(1:Int)=1;rfl)]
 rw[h1];have dH:x.kN (x.len+1) h=false:=by
  unfold PeerM.kN PeerM.at_;rw[if_pos (.inr (by unfold PeerM.len;omega)),decide_eq_false ab];rfl
 unfold PeerM.la;rw[if_neg (by
  show ¬ (PeerM.owner (x.len+1)=x.side\/x.kN (x.len+1) h=true);rw[dH];simp;exact ho),if_neg (by show ¬ x.len+1<x.len;omega),if_pos (.inl (by show x.len<x.len+1;omega))]
theorem uu (n:Nat)(r:ju)(g:bS)(q:List (Int×bS)):qd (n+1) r ((0,g)::q)=qd n ⟨((r.x.1.bx (gv r.x.1 g)).1,r.x.2),r.c0+dA (gv r.x.1 g),r.c1⟩ (q++(gv r.x.1 g).bg.map λ h=>(1,h)):=rfl
theorem uv (n:Nat)(r:ju)(g:bS)(q:List (Int×bS)):qd (n+1) r ((1,g)::q)=qd n ⟨(r.x.1,(r.x.2.bx (gv r.x.2 g)).1),r.c0,r.c1+dA (gv r.x.2 g)⟩ (q++(gv r.x.2 g).bg.map λ h=>(0,h)):=rfl
theorem rY (n:Nat)(r:ju):qd n r []=r:=by cases n<;>rfl
theorem qY (l:List bS):dA { bq with bg:=l }=0:=by simp[dA,bq]
theorem vv:dA bq=0:=by simp[dA,bq]
theorem Js (b:Bool):dA { bq with wanted:=b }=0:=by simp[dA,bq]
theorem ae2:dA { bq with drop:=true }=0:=by simp[dA,bq]
def jD (x:dS):Int:=((iz x).1.length:Int)+4
def Gb (m:bu):Int:=((dZ m).1.length:Int)+4
theorem Ou (x:dS)(l:List bS):dA { bq with cP:=true,bB:=x,bg:=l }=jD x:=by
 unfold dA jD;rw[if_pos (.inl rfl)];show((((2:UInt8)::(iz x).1).length:Nat):Int)+3=_;rw[cY];omega
theorem rZ (l r:PeerM):eV (l,r)=qd 8 ⟨((l.bx l.tick).1,(r.bx r.tick).1),0+dA l.tick,0+dA r.tick⟩ (l.tick.bg.map (λ h=>(1,h))++r.tick.bg.map λ h=>(0,h)):=rfl
structure Ba (o y:PeerM):Prop where
 es:o.es=y.es
 hs:o.hs=y.hs
 bX:o.bX=y.bX
 kb:o.kb=y.kb
 side:o.side=1 - y.side
 vw:y.side=0\/y.side=1
 hl:y.hs.length=y.es.length+1
 oq:o.bD=false
 yq:y.bD=false
theorem Ba.len {o y:PeerM}(h:Ba o y):o.len=y.len:=by unfold PeerM.len;rw[h.es]
theorem Ba.head {o y:PeerM}(h:Ba o y):o.head=y.head:=by unfold PeerM.head;rw[h.es,h.hs]
theorem VM {y:PeerM}(hq:y.bD=false)(hp:y.aW.2=false)(ho:PeerM.owner y.len≠y.side)(hn:y.es.length<64):
  y.tick=if y.off.2=true then{ bq with bg:=[PeerM.fr 3 y.len y.head false bH] } else bq:=by
 unfold PeerM.tick;rw[if_neg (by rw[hq];simp),if_neg (A8 hn),if_neg (by rw[hp];simp),if_neg (λ t=>ho t.1),if_neg (λ t=>ho t.1)]
 by_cases c:y.off.2=true
 ·rw[if_pos ⟨ho,c⟩,if_pos c];rfl
 ·rw[if_neg (λ t=>c t.2),if_neg c]
theorem tj (p:PeerM):(p.bx bq).1=p:=qg p []
theorem Jt {x:kx}{s:Int}(hs:s=0\/s=1){o y:PeerM}(ho:cx x s=o)(hy:cx x (1 - s)=y)(I:Ba o y)(hn:y.es.length<64)(own:PeerM.owner o.len=o.side){m:bu}(hm:gT o.bX m o.side=0)
  (je:o.tick.bg=[o.fG 1 false m]) {o1:PeerM} (h1:(o.bx o.tick).1=o1) (c:cC { o with aW:=(m,true) } o1) (cq:o1.bD=false) (hyp:y.aW.2=false) :
  cx (eV x).x s=o1.add (m,y.cu m)/\cx (eV x).x (1 - s)=y.add (m,y.cu m)/\(eV x).cost s=dA o.tick+jD (m,y.cu m)/\(eV x).cost (1 - s)=jD (m,y.cu m):=by
 have ll:=pe hm;have Gc:PeerM.owner y.len≠y.side:=by rw[<- I.len,own,I.side];have:=I.vw;omega
 have e1:o1.len=y.len:=by rw[<- c.len,<- I.len];rfl
 have e2:o1.head=y.head:=by rw[<- c.head,<- I.head];rfl
 have e3:o1.kb=y.kb:=by rw[<- c.kb,<- I.kb]
 have e4:o1.side=o.side:=c.side.symm;have e5:o1.hs.length=o1.es.length+1:=by rw[<- c.hs,<- c.es];show o.hs.length=o.es.length+1;rw[I.hs,I.es];exact I.hl
 have e6:o1.aW=(m,true):=c.aW.symm;have e7:PeerM.owner o1.len=o1.side:=by rw[e1,<- I.len,own,e4]
 have e8:o1.es.length<64:=by rw[<- c.es];show o.es.length<64;rw[I.es];exact hn
 have e9:gT o1.bX m o1.side=0:=by rw[<- c.bX,e4];exact hm
 have Ju:o.fG 1 false m=PeerM.fr 1 y.len y.head false m:=by unfold PeerM.fG;rw[I.len,I.head]
 have oN:=VM I.yq hyp Gc hn;have bp:=aeY I.hl I.yq hn Gc ll;have hE:=aeZ I.vw hn Gc ll
 -- the decision, as the owner Vu it, aiC it is wanted or not
 have bd:∀ b:Bool,gv { o1 with wanted:=b } (PeerM.fr 2 y.len (dF y.kb y.head (m,y.cu m)).1 (y.cu m) bH)={ bq with cP:=true,bB:=(m,y.cu m) }:=λ b=>by
  have:=VJ (p:={ o1 with wanted:=b }) cq e7 e6 ll (y.cu m) (h:=(dF y.kb y.head (m,y.cu m)).1) (by show _=(dF o1.kb o1.head _).1;rw[e2,e3])
  rw[show({ o1 with wanted:=b }:PeerM).len=y.len from e1] at this
  exact this
 have cd:∀ b:Bool,(({ o1 with wanted:=b }:PeerM).bx { bq with cP:=true,bB:=(m,y.cu m) }).1=o1.add (m,y.cu m):=λ b=>
  Ot (p:={ o1 with wanted:=b }) (VK (p:={ o1 with wanted:=b }) e8 e7 e9 _) []
 have VN:gv o1 (PeerM.fr 2 y.len (dF y.kb y.head (m,y.cu m)).1 (y.cu m) bH)={ bq with cP:=true,bB:=(m,y.cu m) }:=bd o1.wanted
 have VO:(o1.bx { bq with cP:=true,bB:=(m,y.cu m) }).1=o1.add (m,y.cu m):=cd o1.wanted
 have cy:(y.bx { bq with cP:=true,bB:=(m,y.cu m),bg:=[PeerM.fr 2 y.len (dF y.kb y.head (m,y.cu m)).1 (y.cu m) bH] }).1=y.add (m,y.cu m):=Ot hE _
 have bw:gv o1 (PeerM.fr 3 y.len y.head false bH)={ bq with wanted:=true }:=by
  have:=VL e5 cq e7;rw[e1,e2] at this;exact this
 have cw:(o1.bx { bq with wanted:=true }).1={ o1 with wanted:=o1.wanted||true }:=VH o1 true []
 have ce:=Ou (m,y.cu m);have Dt:=Ou (m,y.cu m) [];have Dt:dA { bq with cP:=true,bB:=(m,y.cu m) }=jD (m,y.cu m):=Dt
 obtain⟨l,r⟩:=x
 rcases hs with rfl | rfl
 ·have ho:l=o:=ho
  have hy:r=y:=hy;subst ho hy
  by_cases w:r.off.2=true
  ·rw[if_pos w] at oN
   have e:eV (l,r)=⟨(o1.add (m,r.cu m),r.add (m,r.cu m)),0+dA l.tick+0+jD (m,r.cu m),0+0+jD (m,r.cu m)⟩:=by
    rw[rZ,h1,je,Ju,oN,qg,qY];simp only[gU,gb,kW,iR];rw[uv];dsimp only;rw[bp,cy,ce];simp only[gU,gb,kW,iR];rw[uu];dsimp only;rw[bw,cw,Js];simp only[show bq.bg=[] from rfl,gb,dV];rw[uu];dsimp only;rw[bd,cd,Dt];simp only[show bq.bg=[] from rfl,gb,dV];rw[rY]
   rw[e];refine⟨rfl,rfl,?_,?_⟩
   ·show 0+dA l.tick+0+_=_;omega
   ·show 0+0+jD _=_;omega
  ·rw[if_neg w] at oN
   have e:eV (l,r)=⟨(o1.add (m,r.cu m),r.add (m,r.cu m)),0+dA l.tick+jD (m,r.cu m),0+0+jD (m,r.cu m)⟩:=by
    rw[rZ,h1,je,Ju,oN,tj,vv];simp only[show bq.bg=[] from rfl,gU,gb,kW,iR];rw[uv];dsimp only;rw[bp,cy,ce];simp only[gU,gb,kW,iR];rw[uu];dsimp only;rw[VN,VO,Dt];simp only[show bq.bg=[] from rfl,gb,dV];rw[rY]
   rw[e];refine⟨rfl,rfl,?_,?_⟩
   ·show 0+dA l.tick+_=_;omega
   ·show 0+0+jD _=_;omega
 ·have ho:r=o:=ho
  have hy:l=y:=hy;subst ho hy
  by_cases w:l.off.2=true
  ·rw[if_pos w] at oN
   have e:eV (l,r)=⟨(l.add (m,l.cu m),o1.add (m,l.cu m)),0+0+jD (m,l.cu m),0+dA r.tick+0+jD (m,l.cu m)⟩:=by
    rw[rZ,h1,je,Ju,oN,qg,qY];simp only[gU,gb,kW,iR];rw[uv];dsimp only;rw[bw,cw,Js];simp only[show bq.bg=[] from rfl,gb,dV];rw[uu];dsimp only;rw[bp,cy,ce];simp only[gU,gb,kW,iR];rw[uv];dsimp only;rw[bd,cd,Dt];simp only[show bq.bg=[] from rfl,gb,dV];rw[rY]
   rw[e];refine⟨rfl,rfl,?_,?_⟩
   ·show 0+dA r.tick+0+_=_;omega
   ·show 0+0+jD _=_;omega
  ·rw[if_neg w] at oN
   have e:eV (l,r)=⟨(l.add (m,l.cu m),o1.add (m,l.cu m)),0+0+jD (m,l.cu m),0+dA r.tick+jD (m,l.cu m)⟩:=by
    rw[rZ,h1,je,Ju,oN,tj,vv];simp only[show bq.bg=[] from rfl,gU,gb,kW,iR];rw[uu];dsimp only;rw[bp,cy,ce];simp only[gU,gb,kW,iR];rw[uv];dsimp only;rw[VN,VO,Dt];simp only[show bq.bg=[] from rfl,gb,dV];rw[rY]
   rw[e];refine⟨rfl,rfl,?_,?_⟩
   ·show 0+dA r.tick+_=_;omega
   ·show 0+0+jD _=_;omega
theorem ae3 {y:PeerM}(hq:y.bD=false)(ho:PeerM.owner y.len=y.side):(y.tick.bg=[]\/∃ m,y.tick.bg=[PeerM.fr 1 y.len y.head false m])/\y.tick.cP=false/\y.tick.bD=false/\y.tick.calm=false:=by
 have hb:∀ m2,((y.fH m2).bg=[]\/∃ m,(y.fH m2).bg=[PeerM.fr 1 y.len y.head false m])/\(y.fH m2).cP=false/\(y.fH m2).bD=false/\(y.fH m2).calm=false:=λ m=>by
  unfold PeerM.fH;split
  ·exact⟨.inl rfl,rfl,rfl,rfl⟩
  ·exact⟨.inr ⟨m,rfl⟩,rfl,rfl,rfl⟩
 unfold PeerM.tick;rw[if_neg (by rw[hq];simp)];split
 ·exact⟨.inl rfl,rfl,rfl,rfl⟩
 split
 ·exact⟨.inr ⟨_,rfl⟩,rfl,rfl,rfl⟩
 split
 ·exact hb _
 split
 ·exact hb _
 split
 ·rename_i t;exact absurd ho t.1
 ·exact⟨.inl rfl,rfl,rfl,rfl⟩
theorem ae4 (hE:a.cP=false)(hq:a.bD=false)(hc:a.calm=false):(p.bx a).1.es=p.es/\(p.bx a).1.hs=p.hs/\(p.bx a).1.side=p.side/\(p.bx a).1.kb=p.kb/\(p.bx a).1.bX=p.bX/\(p.bx a).1.bD=p.bD/\(p.bx a).1.refused=p.refused:=by
 unfold PeerM.bx;rw[if_neg (by rw[hE];simp)];unfold PeerM.ended PeerM.lg;dsimp only;rw[hq,hc];split<;>simp
theorem ae5 {x:kx}{s:Int}(hs:s=0\/s=1){a y:PeerM}(ha:cx x s=a)(hy:cx x (1 - s)=y){m:bu}{ref:Bool}(jt:y.es=a.es++[(m,ref)])(Du:y.hs=a.hs++[(dF a.kb a.head (m,ref)).1])(hl:a.hs.length=a.es.length+1)
  (aq:a.bD=false) (yq:y.bD=false) (kQ:a.side=1 - y.side) (vw:y.side=0\/y.side=1) (hp:a.aW=(m,true)) (own:PeerM.owner a.len=a.side) (hm:gT a.bX m a.side=0) (hn:a.es.length<64) :
  cx (eV x).x s=a.add (m,ref)/\cx (eV x).x (1 - s)=(y.bx y.tick).1/\(eV x).cost s=jD (m,ref)/\(eV x).cost (1 - s)=dA y.tick:=by
 have ll:=pe hm;have gG:y.len=a.len+1:=by unfold PeerM.len;rw[jt,bU,fZ];omega
 have oy:PeerM.owner y.len=y.side:=by
  have:=UZ own;rw[gG];unfold PeerM.owner at own ⊢;split at own<;>split<;>omega
 have oa:PeerM.owner a.len≠y.side:=by rw[own,kQ];omega
 have ae6:PeerM.owner (a.len+1)≠a.side:=by rw[<- gG,oy,kQ];omega
 have Jv:a.tick={ bq with bg:=[PeerM.fr 1 a.len a.head false m] }:=by
  unfold PeerM.tick;rw[if_neg (by rw[aq];simp),if_neg (A8 hn),if_pos (by rw[hp]),hp];rfl
 obtain⟨VP,tE,tq,tc⟩:=ae3 yq oy;obtain⟨r1,r2,r3,r4,r5,r6,r7⟩:=ae4 (p:=y) tE tq tc;generalize h1:(y.bx y.tick).1=y1 at r1 r2 r3 r4 r5 r6 r7 ⊢;have hyq:y1.bD=false:=r6.trans yq;have FR:∀ n:Nat,n<=a.es.length->y1.at_ n=(a.hs.getD n 0,true):=λ n hn=>by
  unfold PeerM.at_;rw[r2,Du,if_neg (by rw[bU];omega)];rw[dB,dB,oV (by rw[iH];omega),iH]
 have dH:y1.kN a.len a.head=false:=by
  unfold PeerM.kN;have e:y1.len=a.len+1:=by unfold PeerM.len;rw[r1,jt,bU,fZ];omega
  rw[e,decide_eq_false ab];have:=FR a.es.length (eR _);unfold PeerM.len PeerM.head;rw[this];simp
 have ae7:(y1.at_ (a.len+1)).1=(dF a.kb a.head (m,ref)).1:=by
  unfold PeerM.at_ PeerM.len;rw[r2,Du,if_neg (by rw[bU,fZ];omega)];dsimp only;rw[dB,qw ab];rw[show((a.es.length:Int)+1).toNat - a.hs.length=0 by omega];rfl
 have hrf:(y1.es.getD a.len.toNat (bH,false)).2=ref:=by
  rw[r1,jt,dB,qw (by unfold PeerM.len;omega)];unfold PeerM.len;simp
 have bo:gv y1 (PeerM.fr 1 a.len a.head false m)={ bq with bg:=[PeerM.fr 2 a.len (dF a.kb a.head (m,ref)).1 ref bH] }:=by
  have:=ae0 hyq (by rw[r3];exact oa) dH (by unfold PeerM.len;rw[r1,jt,bU,fZ];omega) m;rw[ae7,hrf] at this;exact this
 have bf:∀ m2,gv a (PeerM.fr 1 y.len y.head false m2)=bq:=λ m2=>by rw[gG];exact ae1 hl aq ae6 m2
 have bd:gv a (PeerM.fr 2 a.len (dF a.kb a.head (m,ref)).1 ref bH)={ bq with cP:=true,bB:=(m,ref) }:=VJ aq own hp ll ref rfl
 have cd:(a.bx { bq with cP:=true,bB:=(m,ref) }).1=a.add (m,ref):=Ot (VK hn own hm ref) []
 have ce:dA { bq with cP:=true,bB:=(m,ref) }=jD (m,ref):=Ou (m,ref) []
 obtain⟨l,r⟩:=x
 rcases hs with rfl | rfl
 ·have ha:l=a:=ha
  have hy:r=y:=hy;subst ha hy
  rcases VP with w | ⟨m2,w⟩
  ·have e:eV (l,r)=⟨(l.add (m,ref),y1),0+0+jD (m,ref),0+dA r.tick+0⟩:=by
    rw[rZ,h1,w,Jv,qg,qY];simp only[gU,gb,dV];rw[uv];dsimp only;rw[bo,qg,qY];simp only[gU,gb,iR];rw[uu];dsimp only;rw[bd,cd,ce];simp only[show bq.bg=[] from rfl,gb,dV];rw[rY]
   rw[e];exact⟨rfl,rfl,(by show 0+0+jD _=_;omega),(by show 0+dA r.tick+0=_;omega)⟩
  ·have e:eV (l,r)=⟨(l.add (m,ref),y1),0+0+0+jD (m,ref),0+dA r.tick+0⟩:=by
    rw[rZ,h1,w,Jv,qg,qY];simp only[gU,gb,kW,iR];rw[uv];dsimp only;rw[bo,qg,qY];simp only[gU,gb,kW,iR];rw[uu];dsimp only;rw[bf,tj,vv];simp only[show bq.bg=[] from rfl,gb,dV];rw[uu];dsimp only;rw[bd,cd,ce];simp only[show bq.bg=[] from rfl,gb,dV];rw[rY]
   rw[e];exact⟨rfl,rfl,(by show 0+0+0+jD _=_;omega),(by show 0+dA r.tick+0=_;omega)⟩
 ·have ha:r=a:=ha
  have hy:l=y:=hy;subst ha hy
  rcases VP with w | ⟨m2,w⟩
  ·have e:eV (l,r)=⟨(y1,r.add (m,ref)),0+dA l.tick+0,0+0+jD (m,ref)⟩:=by
    rw[rZ,h1,w,Jv,qg,qY];simp only[gU,gb,iR];rw[uu];dsimp only;rw[bo,qg,qY];simp only[gU,gb,iR];rw[uv];dsimp only;rw[bd,cd,ce];simp only[show bq.bg=[] from rfl,gb,dV];rw[rY]
   rw[e];exact⟨rfl,rfl,(by show 0+0+jD _=_;omega),(by show 0+dA l.tick+0=_;omega)⟩
  ·have e:eV (l,r)=⟨(y1,r.add (m,ref)),0+dA l.tick+0,0+0+0+jD (m,ref)⟩:=by
    rw[rZ,h1,w,Jv,qg,qY];simp only[gU,gb,kW,iR];rw[uv];dsimp only;rw[bf,tj,vv];simp only[show bq.bg=[] from rfl,gb,dV];rw[uu];dsimp only;rw[bo,qg,qY];simp only[gU,gb,iR];rw[uv];dsimp only;rw[bd,cd,ce];simp only[show bq.bg=[] from rfl,gb,dV];rw[rY]
   rw[e];exact⟨rfl,rfl,(by show 0+0+0+jD _=_;omega),(by show 0+dA l.tick+0=_;omega)⟩
theorem VQ {x:kx}{s:Int}(hs:s=0\/s=1){o y:PeerM}(ho:cx x s=o)(hy:cx x (1 - s)=y)(I:Ba o y)(hn:y.es.length<64)(own:PeerM.owner o.len=o.side)(hyp:y.aW.2=false)(je:o.tick.bg=[]){o1:PeerM}(h1:(o.bx o.tick).1=o1)(c:cC o o1)(cq:o1.bD=false):
  cx (eV x).x s={ o1 with wanted:=o1.wanted||y.off.2 }/\cx (eV x).x (1 - s)=y/\(eV x).cost s=dA o.tick/\(eV x).cost (1 - s)=0:=by
 have Gc:PeerM.owner y.len≠y.side:=by rw[<- I.len,own,I.side];have:=I.vw;omega
 have e1:o1.len=y.len:=by rw[<- c.len,<- I.len]
 have e2:o1.head=y.head:=by rw[<- c.head,<- I.head]
 have e5:o1.hs.length=o1.es.length+1:=by rw[<- c.hs,<- c.es,I.hs,I.es];exact I.hl
 have e7:PeerM.owner o1.len=o1.side:=by rw[e1,<- I.len,own,c.side]
 have oN:=VM I.yq hyp Gc hn;have bw:gv o1 (PeerM.fr 3 y.len y.head false bH)={ bq with wanted:=true }:=by
  have:=VL e5 cq e7;rw[e1,e2] at this;exact this
 have cw:(o1.bx { bq with wanted:=true }).1={ o1 with wanted:=o1.wanted||true }:=VH o1 true []
 obtain⟨l,r⟩:=x
 rcases hs with rfl | rfl
 ·have ho:l=o:=ho
  have hy:r=y:=hy;subst ho hy
  by_cases w:r.off.2=true
  ·rw[if_pos w] at oN
   have e:eV (l,r)=⟨({ o1 with wanted:=o1.wanted||true },r),0+dA l.tick+0,0+0⟩:=by
    rw[rZ,h1,je,oN,qg,qY];simp only[gU,gb,iR];rw[uu];dsimp only;rw[bw,cw,Js];simp only[show bq.bg=[] from rfl,gb,dV];rw[rY]
   rw[e,w];exact⟨rfl,rfl,(by show 0+dA l.tick+0=_;omega),rfl⟩
  ·rw[if_neg w] at oN
   have e:eV (l,r)=⟨(o1,r),0+dA l.tick,0+0⟩:=by
    rw[rZ,h1,je,oN,tj,vv];simp only[show bq.bg=[] from rfl,gb,dV];rw[rY]
   rw[e,Bool.eq_false_iff.2 w,Bool.or_false];exact⟨rfl,rfl,(by show 0+dA l.tick=_;omega),rfl⟩
 ·have ho:r=o:=ho
  have hy:l=y:=hy;subst ho hy
  by_cases w:l.off.2=true
  ·rw[if_pos w] at oN
   have e:eV (l,r)=⟨(l,{ o1 with wanted:=o1.wanted||true }),0+0,0+dA r.tick+0⟩:=by
    rw[rZ,h1,je,oN,qg,qY];simp only[gU,gb,dV];rw[uv];dsimp only;rw[bw,cw,Js];simp only[show bq.bg=[] from rfl,gb,dV];rw[rY]
   rw[e,w];exact⟨rfl,rfl,(by show 0+dA r.tick+0=_;omega),rfl⟩
  ·rw[if_neg w] at oN
   have e:eV (l,r)=⟨(l,o1),0+0,0+dA r.tick⟩:=by
    rw[rZ,h1,je,oN,tj,vv];simp only[show bq.bg=[] from rfl,gb,dV];rw[rY]
   rw[e,Bool.eq_false_iff.2 w,Bool.or_false];exact⟨rfl,rfl,(by show 0+dA r.tick=_;omega),rfl⟩
theorem VR {l r:PeerM}(hl:l.full=true)(hr:r.full=true)(lq:l.bD=false)(rq:r.bD=false):eV (l,r)=⟨(l,r),0,0⟩:=by
 have h:∀ p:PeerM,p.full=true->p.bD=false->p.tick=bq:=λ p hf hq=>by
  unfold PeerM.tick;rw[if_neg (by rw[hq];simp),if_pos hf]
 rw[rZ,h l hl lq,h r hr rq,tj,tj,vv];simp only[show bq.bg=[] from rfl,gb,dV];rw[rY];rfl
structure uw (x:kx):Prop where
 hl:∀ s,s=0\/s=1->(cx x s).hs.length=(cx x s).es.length+1
 bD:∀ s,s=0\/s=1->(cx x s).bD=false
 aW:∀ s,s=0\/s=1->qW (cx x s)
 sound:∀ s,s=0\/s=1->Sound (cx x s)
 side:∀ s,s=0\/s=1->(cx x s).side=s
 kb:x.1.kb=x.2.kb
 twins:Twins x.1 x.2
theorem uw.Ov {x:kx}(h:uw x){s:Int}(hs:s=0\/s=1):(cx x s).kb=(cx x (1 - s)).kb:=by
 rcases hs with rfl | rfl
 ·exact h.kb
 ·exact h.kb.symm
theorem uw.same {x:kx}(h:uw x){s:Int}(hs:s=0\/s=1)(he:x.1.es=x.2.es):Ba (cx x s) (cx x (1 - s)):=by
 have jt:(cx x s).es=(cx x (1 - s)).es:=by
  rcases hs with rfl | rfl
  ·exact he
  ·exact he.symm
 have h1:=h.sound s hs;have h2:=h.sound (1 - s) (iP hs);refine⟨jt,by rw[h1.hs,h2.hs,jt,h.Ov hs],by rw[h1.bX,h2.bX,jt],h.Ov hs,?_,?_,h.hl _ (iP hs),h.bD s hs,h.bD _ (iP hs)⟩
 ·rw[h.side s hs,h.side _ (iP hs)];omega
 ·rw[h.side _ (iP hs)];exact iP hs
theorem uw.other {x:kx}(h:uw x){s:Int}(hs:s=0\/s=1)(he:x.1.es=x.2.es)(own:PeerM.owner (cx x s).len=s):(cx x (1 - s)).aW.2=false:=by
 cases hp:(cx x (1 - s)).aW.2 with
 | false=>rfl
 | true=>
  have:=(h.aW _ (iP hs) hp).1;rw[<- (h.same hs he).len,own,h.side _ (iP hs)] at this;omega
def vx (o y:PeerM):Nat:=if 64<=o.es.length then 0 else if o.aW.2=true then(if o.off.2=true then 4 else if y.off.2=true then 2 else 1) else
 if o.off.2=true then(if y.off.2=true then 3 else 1) else if y.off.2=true then(if o.wanted=true then 2 else 3) else 0
def mV (p:PeerM):Prop:=¬ (p.aW.2=true/\p.off.2=true)
def Dv (x:kx)(k:Nat):Prop:=
 (∃ s,(s=0\/s=1)/\x.1.es=x.2.es/\PeerM.owner (cx x s).len=s/\vx (cx x s) (cx x (1 - s))<=k) \/
 (∃ s,(s=0\/s=1)/\xj (cx x s) (cx x (1 - s))/\((mV x.1/\mV x.2/\4<=k)\/5<=k))
theorem Ow (o y:PeerM):vx o y<=4:=by
 unfold vx
 repeat' split
 all_goals omega
theorem ae8 {x:kx}(h:uw x):Dv x 5:=by
 rcases h.twins with t | t | t
 ·left
  rcases Jb x.1.len with o | o
  ·exact⟨0,.inl rfl,t,o,Nat.le_succ_of_le (Ow _ _)⟩
  ·exact⟨1,.inr rfl,t,by show PeerM.owner x.2.len=1;unfold PeerM.len;rw[<- t];exact o,Nat.le_succ_of_le (Ow _ _)⟩
 ·exact .inr ⟨0,.inl rfl,t,.inr (eR _)⟩
 ·exact .inr ⟨1,.inr rfl,t,.inr (eR _)⟩
def yL (c:Int)(m:bu):Prop:=ik m=0->((dZ m).1.length:Int)<=c
structure qZ (c:Int)(p:PeerM):Prop where
 aW:p.aW.2=true->yL c p.aW.1
 off:p.off.2=true->yL c p.off.1
theorem Jw {c:Int}{x:dS}(hx:ik x.1=0)(h:yL c x.1):jD x<=c+5:=by
 have:=h hx;unfold jD;rw[NW hx,cY];omega
theorem qZ.add {c:Int}(h:qZ c p)(x:dS):qZ c (p.add x):=⟨(λ t=>nomatch t),h.off⟩
theorem ae9 (m:bu)(l:List bS)(b:Bool):dA { bq with dz:=true,cI:=m,bg:=l,drop:=b }=Gb m:=by
 unfold dA Gb;rw[if_pos (.inr rfl)];show((((3:UInt8)::(dZ m).1).length:Nat):Int)+3=_;rw[cY];omega
theorem Jx {o:PeerM}(hq:o.bD=false)(hn:o.es.length<64)(hp:o.aW.2=true):o.tick={ bq with bg:=[o.fG 1 false o.aW.1] }:=by
 unfold PeerM.tick;rw[if_neg (by rw[hq];simp),if_neg (A8 hn),if_pos hp]
theorem Ox {o:PeerM}(hq:o.bD=false)(hn:o.es.length<64)(hp:o.aW.2=false)(own:PeerM.owner o.len=o.side)(ho:o.off.2=true):o.tick=o.fH o.off.1:=by
 unfold PeerM.tick;rw[if_neg (by rw[hq];simp),if_neg (A8 hn),if_neg (by rw[hp];simp),if_pos ⟨own,ho⟩]
theorem VS {o:PeerM}(hq:o.bD=false)(hn:o.es.length<64)(hp:o.aW.2=false)(own:PeerM.owner o.len=o.side)(ho:o.off.2=false)(hw:o.wanted=true):o.tick=o.fH nB:=by
 unfold PeerM.tick;rw[if_neg (by rw[hq];simp),if_neg (A8 hn),if_neg (by rw[hp];simp),if_neg (by rw[ho];simp),if_pos ⟨own,hw⟩]
theorem VT {o:PeerM}(hq:o.bD=false)(hp:o.aW.2=false)(own:PeerM.owner o.len=o.side)(ho:o.off.2=false)(hw:o.wanted=false):o.tick=bq:=by
 unfold PeerM.tick;rw[if_neg (by rw[hq];simp)];split
 ·rfl
 rw[if_neg (by rw[hp];simp),if_neg (by rw[ho];simp),if_neg (by rw[hw];simp),if_neg (λ t=>t.1 own)]
theorem afa {o:PeerM}(hq:o.bD=false)(hn:64<=o.es.length):o.tick=bq:=by
 unfold PeerM.tick;rw[if_neg (by rw[hq];simp),if_pos (by unfold PeerM.full;rw[decide_eq_true_eq];exact hn)]
theorem afb {m:bu}{b:Int}(h:gT l m b=0):vi m m=true:=TZ (Ja (pe h))
theorem Gd {o:PeerM}{m:bu}(h:gT o.bX m o.side=0)(hm:o.off.2=true/\m=o.off.1\/o.off.2=false):
  (o.bx (o.fH m)).1={ o with aW:=(m,true),off:=if o.off.2=true then(bH,false) else o.off }/\(o.fH m).bg=[o.fG 1 false m]/\dA (o.fH m)=Gb m:=by
 have e:o.fH m={ bq with dz:=true,cI:=m,bg:=[o.fG 1 false m] }:=by
  unfold PeerM.fH;rw[if_neg (λ t=>t h)]
 rw[e];refine⟨?_,rfl,ae9 m _ false⟩;have hs:o.off.2=true->vi o.off.1 m=true:=λ t=>by
  rcases hm with⟨-,rfl⟩ | hm
  ·exact afb h
  ·rw[hm] at t;cases t
 unfold PeerM.bx;rw[if_neg (by simp[bq])];show o.ended _=_;unfold PeerM.ended PeerM.lg PeerM.oI;cases hx:o.off.2 with
 | true=>simp[bq,hs hx,hx]
 | false=>simp[bq,hx]
theorem VU {o:PeerM}{m:bu}(h:gT o.bX m o.side≠0):(o.bx (o.fH m)).1={ o with off:=(bH,false) }/\(o.fH m).bg=[]/\dA (o.fH m)=0:=by
 have e:o.fH m={ bq with drop:=true }:=by
  unfold PeerM.fH;rw[if_pos h]
 rw[e];exact⟨aeW o,rfl,ae2⟩
theorem VV {n s:Int}(hs:s=0\/s=1)(h:PeerM.owner n=s):PeerM.owner (n+1)=1 - s:=by
 unfold PeerM.owner at h ⊢;split at h<;>split<;>omega
theorem Jy {z:kx}{s:Int}(hs:s=0\/s=1)(h:(cx z s).es=(cx z (1 - s)).es):z.1.es=z.2.es:=by
 rcases hs with rfl | rfl
 ·exact h
 ·exact h.symm
theorem afc (p:PeerM)(x:dS):(p.add x).len=p.len+1:=by
 unfold PeerM.len PeerM.add;rw[bU,fZ];omega
theorem Ge {c:Int}(hc:1<=c):yL c nB:=λ _=>by rw[aeB];exact hc
theorem Jz {c:Int}{m:bu}(hm:ik m=0)(h:yL c m):Gb m<=c+4:=by
 have:=h hm;unfold Gb;omega
theorem afd {o:PeerM}(hq:o.bD=false)(own:PeerM.owner o.len=o.side)(hs:o.side=0\/o.side=1){c:Int}(hc:1<=c)(he:qZ c o):
  qZ c (o.bx o.tick).1/\dA o.tick<=c+4/\(mV o->mV (o.bx o.tick).1)/\(o.bx o.tick).1.es=o.es:=by
 by_cases hn:64<=o.es.length
 ·rw[afa hq hn,tj,vv]
  exact⟨he,by omega,id,rfl⟩
 have hn:o.es.length<64:=ab;cases hp:o.aW.2 with
 | true=>
  rw[Jx hq hn hp,qg,qY];exact⟨he,by omega,id,rfl⟩
 | false=>
  cases ho:o.off.2 with
  | true=>
   rw[Ox hq hn hp own ho]
   by_cases ht:gT o.bX o.off.1 o.side=0
   ·obtain⟨c1,c2,c3⟩:=Gd ht (.inl ⟨ho,rfl⟩)
    rw[c1,c3,if_pos ho];exact⟨⟨(λ _=>he.off ho),(λ t=>nomatch t)⟩,Jz (pe ht) (he.off ho),(λ _ t=>nomatch t.2),rfl⟩
   ·obtain⟨c1,c2,c3⟩:=VU ht
    rw[c1,c3];exact⟨⟨(λ t=>he.aW t),(λ t=>nomatch t)⟩,by omega,(λ _ t=>nomatch t.2),rfl⟩
  | false=>
   cases hw:o.wanted with
   | true=>
    rw[VS hq hn hp own ho hw];have ht:gT o.bX nB o.side=0:=by unfold gT;rw[Vr _ hs]
    obtain⟨c1,c2,c3⟩:=Gd ht (.inr ho);rw[c1,c3,if_neg (by rw[ho];simp)];exact⟨⟨(λ _=>Ge hc),(λ t=>by rw[ho] at t;cases t)⟩,Jz Jk (Ge hc),(λ _ t=>by rw[ho] at t;cases t.2),rfl⟩
   | false=>
    rw[VT hq hp own ho hw,tj,vv];exact⟨he,by omega,id,rfl⟩
structure VW (x:kx)(k:Nat)(c:Int):Prop where
 Oy:Dv (eV x).x (k - 1)
 ev:∀ s,s=0\/s=1->qZ c (cx (eV x).x s)
 both:(mV x.1/\mV x.2)->mV (eV x).x.1/\mV (eV x).x.2
 cost:∀ s,s=0\/s=1->(eV x).cost s<=2 * c+9
 less:k=0->∀ s,s=0\/s=1->(eV x).cost s<=11
theorem JA {z:kx}{s:Int}(hs:s=0\/s=1)(h1:mV (cx z s))(h2:mV (cx z (1 - s))):mV z.1/\mV z.2:=by
 rcases hs with rfl | rfl
 ·exact⟨h1,h2⟩
 ·exact⟨h2,h1⟩
theorem afe {z:kx}{s:Int}(hs:s=0\/s=1)(h:mV z.1/\mV z.2):mV (cx z s)/\mV (cx z (1 - s)):=by
 rcases hs with rfl | rfl
 ·exact h
 ·exact⟨h.2,h.1⟩
theorem r8 {P:Int->Prop}{s:Int}(hs:s=0\/s=1)(h1:P s)(h2:P (1 - s)):∀ t,t=0\/t=1->P t:=λ t ht=>by
 rcases qc hs ht with rfl | rfl
 ·exact h1
 ·exact h2
theorem Oz {x:kx}{s:Int}(hs:s=0\/s=1){o1 y:PeerM}{X:dS}{k:Nat}{c:Int}(r1:cx (eV x).x s=o1.add X)(r2:cx (eV x).x (1 - s)=y.add X)(jt:o1.es=y.es)(own:PeerM.owner o1.len=s)
  (e1:qZ c o1) (e2:qZ c y) (hk:(if y.off.2=true then(if o1.off.2=true then 3 else 1) else if o1.off.2=true then 3 else 0)<=k - 1) {a b:Int} (c1:(eV x).cost s=a) (c2:(eV x).cost (1 - s)=b) (ha:a<=2 * c+9) (hb:b<=2 * c+9) (hl:k=0->a<=11/\b<=11):VW x k c:=by
 have ho:=iP hs;have e4:1 - (1 - s)=s:=ab;refine⟨.inl ⟨1 - s,ho,Jy hs ?_,?_,?_⟩,r8 hs ?_ ?_,λ _=>JA hs ?_ ?_,r8 hs ?_ ?_,λ t=>r8 hs ?_ ?_⟩
 ·rw[r1,r2];show o1.es++[X]=y.es++[X];rw[jt]
 ·rw[r2,afc]
  refine VV hs ?_;unfold PeerM.len;rw[<- jt];exact own
 ·rw[e4,r1,r2]
  refine ez ?_ hk;show vx (y.add X) (o1.add X)<=_;unfold vx;show(if 64<=(y.add X).es.length then 0 else if false=true then _ else if y.off.2=true then(if o1.off.2=true then 3 else 1) else if o1.off.2=true then(if false=true then 2 else 3) else 0)<=_;split
  ·exact fj _
  ·rw[if_neg bm]
   split
   ·exact eR _
   ·split
    ·rw[if_neg bm];exact eR _
    ·exact eR _
 ·rw[r1];exact e1.add X
 ·rw[r2];exact e2.add X
 ·rw[r1];exact λ t=>nomatch t.1
 ·rw[r2];exact λ t=>nomatch t.1
 ·rw[c1];exact ha
 ·rw[c2];exact hb
 ·rw[c1];exact(hl t).1
 ·rw[c2];exact(hl t).2
theorem aff {x:kx}(h:uw x){k:Nat}(hr:Dv x k){c:Int}(hc:1<=c)(he:∀ s,s=0\/s=1->qZ c (cx x s)):VW x k c:=by
 rcases hr with⟨s,hs,jt,own,hk⟩ | ⟨s,hs,hB,hk⟩
 ·have I:=h.same hs jt
  have hyp:=h.other hs jt own;have kQ:=h.side s hs;have ux:PeerM.owner (cx x s).len=(cx x s).side:=by rw[kQ];exact own
  have ho:=iP hs;have Eo:=he s hs;have Ey:=he _ ho;have oq:=h.bD s hs;have JB:=h.aW s hs;have xk:(cx x s).side=0\/(cx x s).side=1:=by rw[kQ];exact hs
  have yM:=I.es;generalize hO:cx x s=o at *;generalize hY:cx x (1 - s)=y at *
  by_cases hn:64<=o.es.length
  ·have hf:∀ p:PeerM,p.es=o.es->p.full=true:=λ p e=>by unfold PeerM.full;rw[decide_eq_true_eq,e];exact hn
   have Gf:eV x=⟨x,0,0⟩:=by
    obtain⟨l,r⟩:=x
    rcases hs with rfl | rfl
    ·have a:l=o:=hO
     have b:r=y:=hY;exact VR (hf l (by rw[a])) (hf r (by rw[b,yM])) (by rw[a];exact oq) (by rw[b];exact I.yq)
    ·have a:r=o:=hO
     have b:l=y:=hY;exact VR (hf l (by rw[b,yM])) (hf r (by rw[a])) (by rw[b];exact I.yq) (by rw[a];exact oq)
   have CC:∀ t:Int,ju.cost ⟨x,0,0⟩ t=0:=λ t=>by unfold ju.cost;split<;>rfl
   refine⟨?_,?_,?_,?_,?_⟩
   ·rw[Gf]
    refine .inl ⟨s,hs,jt,by rw[hO];exact own,?_⟩;rw[hO];unfold vx;rw[if_pos hn];exact fj _
   ·rw[Gf];exact he
   ·rw[Gf];exact id
   ·rw[Gf];intro t _;rw[CC];omega
   ·rw[Gf];intro _ t _;rw[CC];omega
  have hn:o.es.length<64:=ab;have Bb:y.es.length<64:=by rw[<- yM];exact hn
  unfold vx at hk;rw[if_neg ab] at hk;cases hp:o.aW.2 with
  | true=>
   rw[if_pos hp] at hk;obtain⟨p1,p2,p3⟩:=JB hp;have ll:=pe p2;obtain⟨a1,a2,a3,a4⟩:=Jt hs hO hY I Bb ux p2 (by rw[Jx oq hn hp]) (o1:=o) (by rw[Jx oq hn hp,qg]) ⟨rfl,rfl,rfl,rfl,rfl,Prod.ext rfl hp.symm⟩ oq hyp;rw[Jx oq hn hp,qY] at a3;have OA:=Jw (x:=(o.aW.1,y.cu o.aW.1)) ll (Eo.aW hp);refine Oz hs a1 a2 yM own Eo Ey ?_ a3 a4 ab ab (λ t=>?_)
   ·cases hx:o.off.2 with
    | true=>rw[if_pos hx] at hk;simp;omega
    | false=>
     rw[if_neg (by rw[hx];simp)] at hk;cases hy:y.off.2 with
     | true=>rw[if_pos hy] at hk;simp;omega
     | false=>rw[if_neg (by rw[hy];simp)] at hk;simp
   ·exfalso
    subst t;split at hk
    ·omega
    ·split at hk<;>omega
  | false=>
   rw[if_neg (by rw[hp];simp)] at hk;cases hx:o.off.2 with
   | true=>
    rw[if_pos hx] at hk;have rX:=Ox oq hn hp ux hx
    by_cases ht:gT o.bX o.off.1 o.side=0
    ·obtain⟨c1,c2,c3⟩:=Gd ht (.inl ⟨hx,rfl⟩)
     rw[<- rX] at c1 c2 c3;rw[if_pos hx] at c1;have ll:=pe ht;obtain⟨a1,a2,a3,a4⟩:=Jt hs hO hY I Bb ux ht c2 c1 ⟨rfl,rfl,rfl,rfl,rfl,rfl⟩ oq hyp;rw[c3] at a3;have OA:=Jw (x:=(o.off.1,y.cu o.off.1)) ll (Eo.off hx);have xK:=Jz ll (Eo.off hx);refine Oz hs a1 a2 yM own ⟨λ _=>Eo.off hx,λ t=>nomatch t⟩ Ey ?_ a3 a4 ab ab (λ t=>?_)
     ·cases hy:y.off.2 with
      | true=>rw[if_pos hy] at hk;simp;omega
      | false=>rw[if_neg (by rw[hy];simp)] at hk;simp
     ·exfalso
      subst t;split at hk<;>omega
    ·obtain⟨c1,c2,c3⟩:=VU ht
     rw[<- rX] at c1 c2 c3;obtain⟨a1,a2,a3,a4⟩:=VQ hs hO hY I Bb ux hyp c2 c1 ⟨rfl,rfl,rfl,rfl,rfl,rfl⟩ oq;rw[c3] at a3;refine⟨.inl ⟨s,hs,Jy hs ?_,?_,?_⟩,r8 hs ?_ ?_,λ t=>JA hs ?_ ?_,r8 hs ?_ ?_,λ t=>r8 hs ?_ ?_⟩
     ·rw[a1,a2];exact yM
     ·rw[a1];exact own
     ·rw[a1,a2]
      unfold vx;show(if 64<=o.es.length then 0 else if o.aW.2=true then _ else if false=true then _ else if y.off.2=true then(if(o.wanted||y.off.2)=true then 2 else 3) else 0)<=_;rw[if_neg ab,if_neg (by rw[hp];simp),if_neg bm];cases hy:y.off.2 with
      | true=>rw[if_pos hy] at hk;simp;omega
      | false=>simp
     ·rw[a1];exact⟨λ t=>Eo.aW t,λ t=>nomatch t⟩
     ·rw[a2];exact Ey
     ·rw[a1];exact λ t=>nomatch t.2
     ·rw[a2];intro t;rw[hyp] at t;cases t.1
     ·rw[a3];omega
     ·rw[a4];omega
     ·rw[a3];omega
     ·rw[a4];omega
   | false=>
    rw[if_neg (by rw[hx];simp)] at hk;cases hw:o.wanted with
    | true=>
     have rX:=VS oq hn hp ux hx hw;have ht:gT o.bX nB o.side=0:=by unfold gT;rw[Vr _ xk]
     obtain⟨c1,c2,c3⟩:=Gd ht (.inr hx);rw[<- rX] at c1 c2 c3;rw[if_neg (by rw[hx];simp)] at c1;obtain⟨a1,a2,a3,a4⟩:=Jt hs hO hY I Bb ux ht c2 c1 ⟨rfl,rfl,rfl,rfl,rfl,rfl⟩ oq hyp;rw[c3] at a3;have OA:=Jw (c:=1) (x:=(nB,y.cu nB)) Jk (Ge (kC 1));have xK:=Jz (c:=1) Jk (Ge (kC 1));refine Oz hs a1 a2 yM own ⟨λ _=>Ge hc,λ t=>Eo.off t⟩ Ey ?_ a3 a4 ab ab (λ t=>⟨by omega,by omega⟩)
     ·show(if y.off.2=true then(if o.off.2=true then 3 else 1) else if o.off.2=true then 3 else 0)<=_
      rw[hx];cases hy:y.off.2 with
      | true=>rw[if_pos hy,if_pos hw] at hk;simp;omega
      | false=>simp
    | false=>
     have rX:=VT oq hp ux hx hw;obtain⟨a1,a2,a3,a4⟩:=VQ hs hO hY I Bb ux hyp (by rw[rX];rfl) (o1:=o) (by rw[rX,tj]) (cC.refl _) oq;rw[rX,vv] at a3;refine⟨.inl ⟨s,hs,Jy hs ?_,?_,?_⟩,r8 hs ?_ ?_,λ t=>JA hs ?_ ?_,r8 hs ?_ ?_,λ t=>r8 hs ?_ ?_⟩
     ·rw[a1,a2];exact yM
     ·rw[a1];exact own
     ·rw[a1,a2]
      unfold vx;show(if 64<=o.es.length then 0 else if o.aW.2=true then _ else if o.off.2=true then _ else if y.off.2=true then(if(o.wanted||y.off.2)=true then 2 else 3) else 0)<=_;rw[if_neg ab,if_neg (by rw[hp];simp),if_neg (by rw[hx];simp)];cases hy:y.off.2 with
      | true=>rw[if_pos hy,if_neg (by rw[hw];simp)] at hk;simp;omega
      | false=>simp
     ·rw[a1];exact⟨λ t=>Eo.aW t,λ t=>Eo.off t⟩
     ·rw[a2];exact Ey
     ·rw[a1];intro t;rw[hx] at t;cases t.2
     ·rw[a2];intro t;rw[hyp] at t;cases t.1
     ·rw[a3];omega
     ·rw[a4];omega
     ·rw[a3];omega
     ·rw[a4];omega
 ·obtain⟨⟨ref,e⟩,p0,own⟩:=hB
  have ho:=iP hs;have e4:1 - (1 - s)=s:=ab;have kQ:=h.side s hs;have rU:=h.side _ ho;have Sa:=h.sound s hs;have Sy:=h.sound _ ho;have FQ:=h.Ov hs;have aq:=h.bD s hs;have yq:=h.bD _ ho;have hla:=h.hl s hs;obtain⟨p1,p2,p3⟩:=h.aW s hs p0;have Ea:=he s hs;have Ey:=he _ ho;have EP:(mV x.1/\mV x.2)->mV (cx x s)/\mV (cx x (1 - s)):=afe hs;generalize hA:cx x s=a at *;generalize hY:cx x (1 - s)=y at *;have Du:y.hs=a.hs++[(dF a.kb a.head (a.aW.1,ref)).1]:=by
   rw[Sy.hs,Sa.hs,e,bU,fZ,List.range_succ,jG,List.map_singleton,Sa.head,FQ]
   congr 1
   ·apply BX
    intro i hi;rw[List.mem_range] at hi;rw[Eg ab]
   ·rw[gV bm,Jj]
  have vw:y.side=0\/y.side=1:=by rw[rU];exact ho
  have gG:y.len=a.len+1:=by unfold PeerM.len;rw[e,bU,fZ];omega
  have oy:PeerM.owner y.len=y.side:=by rw[gG,rU];exact VV hs (by rw[own,kQ])
  obtain⟨a1,a2,a3,a4⟩:=ae5 hs hA hY e Du hla aq yq (by rw[kQ,rU];omega) vw (m:=a.aW.1) (Prod.ext rfl p0) own p2 p3;obtain⟨t1,t2,t3,t4⟩:=afd yq oy vw hc Ey;have OA:=Jw (x:=(a.aW.1,ref)) (pe p2) (Ea.aW p0);refine⟨.inl ⟨1 - s,ho,Jy hs ?_,?_,?_⟩,r8 hs ?_ ?_,λ t=>JA hs ?_ ?_,r8 hs ?_ ?_,λ t=>?_⟩
  ·rw[a1,a2,t4,e];rfl
  ·rw[a2];unfold PeerM.len;rw[t4];rw[rU] at oy;exact oy
  ·rw[e4,a1,a2]
   rcases hk with⟨b1,b2,b3⟩ | b3
   ·have hnb:=t3 (EP ⟨b1,b2⟩).2
    refine ez ?_ (show 3<=k - 1 by omega);unfold vx;split
    ·omega
    split
    ·rename_i q1
     rw[if_neg (λ q2=>hnb ⟨q1,q2⟩)];split<;>omega
    split
    ·split<;>omega
    split
    ·split<;>omega
    ·omega
   ·exact ez (Ow _ _) ab
  ·rw[a1];exact Ea.add _
  ·rw[a2];exact t1
  ·rw[a1];exact λ t=>nomatch t.1
  ·rw[a2];exact t3 (EP t).2
  ·rw[a3];omega
  ·rw[a4];omega
  ·exfalso
   rcases hk with⟨-,-,b⟩ | b<;>omega
namespace Vc
variable {P:Program}
inductive Pv where
 | i (n:Int)
 | s (l:ai)
 | b (x:Bool)
 deriving DecidableEq
def Pv.v:Pv->av
 | .i n=>.int .i64 n
 | .s l=>.string (str l)
 | .b x=>.bool x
def se (P:Program)(t:TypeId):Pv->Prop
 | .i _=>P.underlying t=some (.int .i64)
 | .s _=>P.underlying t=some .string
 | .b _=>P.underlying t=some .bool
def Gg (P:Program):Nat->List Field->List Pv->Prop
 | _,[],[]=>True
 | n, f :: fs, p :: ps => f.name ≠ "_" /\ f.offset = n /\ se P f.type p /\ Gg P (n + 1) fs ps
 | _,_,_=>False
theorem OB {t:TypeId}{p:Pv}(ht:se P t p){cs:Array av}{n:Nat}(hc:cs[n]? = some p.v)(w:ah):(part t cs n).run P w=.ok p.v w:=by
 cases p<;>simp only[se] at ht<;>simp[part,isAgg,run_underlying ht,hc]
theorem afg {t:TypeId}{p q:Pv}(hp:se P t p)(hq:se P t q)(d:Nat)(w:ah):(Op.equalIn (d+1) t p.v q.v).run P w=.ok (decide (p=q)) w:=by
 cases p with
 | i n=>cases q with
  | i m=>
   refine(run_equalIn_int w d t .i64 .i64 n m hp).trans ?_
   congr 1
   by_cases h:n=m
   ·subst h;simp
   ·simp[h]
  | s m=>simp only[se] at hp hq;rw[hp] at hq;cases hq
  | b m=>simp only[se] at hp hq;rw[hp] at hq;cases hq
 | s l=>cases q with
  | i m=>simp only[se] at hp hq;rw[hp] at hq;cases hq
  | s m=>
   refine(run_equalIn_string w d t _ _ hp).trans ?_;rw[ly]
   congr 1
   exact decide_eq_decide.2 ⟨λ h=>by rw[h],λ h=>by injection h⟩
  | b m=>simp only[se] at hp hq;rw[hp] at hq;cases hq
 | b x=>cases q with
  | i m=>simp only[se] at hp hq;rw[hp] at hq;cases hq
  | s m=>simp only[se] at hp hq;rw[hp] at hq;cases hq
  | b y=>
   refine(run_equalIn_bool' w d t x y hp).trans ?_
   congr 1
   cases x<;>cases y<;>rfl
theorem VX (d:Nat)(w:ah):∀ (fs:List Field) (ps qs pre Gh:List Pv) (n:Nat),pre.length=n->Gh.length=n->Gg P n fs ps->Gg P n fs qs ->
  (Op.eqFields (d+1) ((pre++ps).map Pv.v).toArray ((Gh++qs).map Pv.v).toArray fs).run P w=.ok (decide (ps=qs)) w
 | [],[],[],_,_,_,_,_,_,_=>by simp[Op.eqFields]
 | [],[],_::_,_,_,_,_,_,_,h=>h.elim
 | [],_::_,_,_,_,_,_,_,h,_=>h.elim
 | _::_,[],_,_,_,_,_,_,h,_=>h.elim
 | _::_,_::_,[],_,_,_,_,_,_,h=>h.elim
 | f::fs,p::ps,q::qs,pre,Gh,n,h1,h2,⟨hn,ho,hp,Oh⟩,⟨_,_,hq,hqs⟩=>by
  have c1:(((pre++p::ps).map Pv.v).toArray)[f.offset]? = some p.v:=by rw[ho];simp[<- h1]
  have c2:(((Gh++q::qs).map Pv.v).toArray)[f.offset]? = some q.v:=by rw[ho];simp[<- h2]
  simp only[Op.eqFields,ne_eq,hn,not_false_eq_true,if_true,Sem.run_bind,OB hp c1,OB hq c2,Result.andThen_ok,afg hp hq]
  by_cases h:p=q
  ·subst h
   have ih:=VX d w fs ps qs (pre++[p]) (Gh++[p]) (n+1) (by simp[h1]) (by simp[h2]) Oh hqs;rw[gI,gI,List.singleton_append,List.singleton_append] at ih;simp only[decide_true,if_true];exact ih.trans bm
  ·simp[h]
structure Bc (P:Program)(t:TypeId)(ps:List Pv):Prop where
 und:P.underlying t=some (.struct (P.fieldsOf t))
 held:P.stoodInHeld t=false
 guard:P.eqGuardType P.depth t=false
 fits:Gg P 0 (P.fieldsOf t).toList ps
theorem VY {t:TypeId}{ps qs:List Pv}(h:Bc P t ps)(h':Bc P t qs)(d:Nat)(w:ah):(Op.equalIn (d+2) t (.agg (ps.map Pv.v).toArray) (.agg (qs.map Pv.v).toArray)).run P w=.ok (decide (ps=qs)) w:=by
 rw[run_equalIn_agg w _ _ _ _ h.und h.held];exact VX d w _ ps qs [] [] 0 rfl rfl h.fits h'.fits
theorem afh {t:TypeId}{ps qs:List Pv}(h:Bc P t ps)(h':Bc P t qs)(o1 o2:Operand)(w:ah):
  (do eqGuard .eql t o1 o2 (.agg (ps.map Pv.v).toArray) (.agg (qs.map Pv.v).toArray);binOp .eql t (.agg (ps.map Pv.v).toArray) (.agg (qs.map Pv.v).toArray):Sem av).run P w=.ok (.bool (decide (ps=qs))) w:=by
 rw[Sem.run_bind,run_eqGuard_agg w _ _ _ _ _ _ h.guard,Result.andThen_ok,run_eql_struct,VY h h' 9998];rfl
structure yN (P:Program)(kt:TypeId){κ:Type}(enc:κ->List Pv):Prop where
 ty:∀ a,Bc P kt (enc a)
 inj:∀ a b,enc a=enc b->a=b
def gO (ps:List Pv):av:=.agg (ps.map Pv.v).toArray
def iY {κ ν:Type}(enc:κ->List Pv)(ev:ν->av)(w:ah)(g:Nat)(l:List (κ×ν)):Prop:=
 ∃ es clock,w.heap[g]? = some (.map es clock)/\es.toList.map (λ e=>(e.key,e.val))=l.map (λ x=>(gO (enc x.1),ev x.2))/\(∀ x∈es.toList,x.born<clock)/\(es.toList.map (·.born)).Nodup
theorem iY.ao {κ ν:Type}{enc:κ->List Pv}{ev:ν->av}{l:List (κ×ν)}(h:iY enc ev w g l){S:bz}(f:Fr S w w')(hn:¬ S g):iY enc ev w' g l:=by
 obtain⟨es,c,hb,r⟩:=h;exact⟨es,c,f.ao hb hn,r⟩
theorem iY.ag {κ ν:Type}{enc:κ->List Pv}{ev:ν->av}{l:List (κ×ν)}(h:iY enc ev w g l)(f:Fr none1 w w'):iY enc ev w' g l:=h.ao f λ t=>t
theorem iY.new {κ ν:Type}{enc:κ->List Pv}{ev:ν->av}(h:w.heap[g]? = some (.map #[] c)):iY enc ev w g ([]:List (κ×ν)):=⟨_,_,h,rfl,by simp,by simp⟩
theorem iY.len {κ ν:Type}{enc:κ->List Pv}{ev:ν->av}{l:List (κ×ν)}(h:iY enc ev w g l):∃ es c,w.heap[g]? = some (.map es c)/\es.size=l.length:=by
 obtain⟨es,c,hb,he,_⟩:=h;refine⟨es,c,hb,?_⟩;have:=congrArg List.length he;simpa using this
theorem DR.ofP {κ ν:Type}{enc:κ->List Pv}{ev:ν->av}{l:List (κ×ν)}(h:iY enc ev w g l){K:Int->Prop}(k:K (l.length:Nat)):DR (some g) w K:=by
 obtain⟨es,c,hb,hs⟩:=h.len;exact⟨.inr ⟨g,es,c,rfl,hb,by rw[hs];exact k⟩⟩
theorem VZ {α:Type}(w:ah)(F:α->PUnit->Sem (ForInStep PUnit)):∀ (l:List α),(∀ a∈l,(F a PUnit.unit).run P w=.ok (ForInStep.yield PUnit.unit) w)->(forIn l PUnit.unit F).run P w=.ok PUnit.unit w
 | [],_=>by simp
 | a::l,h=>by
  rw[List.forIn_cons,Sem.run_bind,h a bm,Result.andThen_ok];exact VZ w F l λ b hb=>h b (by simp[hb])
theorem V4: ∀ (fs : List Field) (ps pre : List Pv) (n : Nat), pre.length = n -> Gg P n fs ps -> ∀ f ∈ fs, ∃ q, f.name ≠ "_" /\ se P f.type q /\ (((pre ++ ps).map Pv.v).toArray)[f.offset]? = some q.v
 | [],_,_,_,_,_,f,hf=>by cases hf
 | _::_,[],_,_,_,h,_,_=>h.elim
 | g::fs,p::ps,pre,n,hn,⟨h1,h2,h3,h4⟩,f,hf=>by
  rcases tI.1 hf with rfl | hf
  ·exact⟨p,h1,h3,by rw[h2];simp[<- hn]⟩
  ·have:=V4 fs ps (pre++[p]) (n+1) (by simp[hn]) h4 f hf
   rw[gI,List.singleton_append] at this;exact this
theorem OC {t:TypeId}{ps:List Pv}(h:Bc P t ps)(e:Bool)(w:ah):(Instr.checkKey e 10000 t (gO ps)).run P w=.ok () w:=by
 show(Instr.checkKey e (9998+2) t (gO ps)).run P w=.ok () w;unfold Instr.checkKey gO;simp only[Sem.run_bind,run_underlying h.und,Result.andThen_ok];rw[<- Array.forIn_toList,VZ]
 ·rfl
 ·intro f hf
  obtain⟨q,h1,h3,hc⟩:=V4 (P.fieldsOf t).toList ps [] 0 rfl h.fits f hf;rw[iR] at hc;have hk:(Instr.checkKey e (9998+1) f.type q.v).run P w=.ok () w:=by
   unfold Instr.checkKey;cases q<;>simp only[se] at h3<;>simp only[Pv.v,Sem.run_bind,run_underlying h3,Result.andThen_ok]<;>rfl
  simp only[ne_eq,h1,not_false_eq_true,if_true,Sem.run_bind,OB h3 hc,Result.andThen_ok,hk,Sem.run_pure]
theorem V5 {κ ν:Type}[DecidableEq κ]{kt:TypeId}{enc:κ->List Pv}{ev:ν->av}(he:yN P kt enc)(k:κ)(w:ah):∀ (es:List MapEntry) (l:List (κ×ν)) (i:Nat),es.map (λ e=>(e.key,e.val))=l.map (λ x=>(gO (enc x.1),ev x.2)) ->
  (∃ j v,(Instr.findAsking kt (gO (enc k)) es i).run P w=.ok (some (i+j,ev v)) w/\cg k l=some v/\l[j]? = some (k,v)/\∀ v',mw k v' l=l.set j (k,v')) \/
  ((Instr.findAsking kt (gO (enc k)) es i).run P w=.ok none w/\cg k l=none)
 | [],[],_,_=>.inr ⟨rfl,rfl⟩
 | [],_::_,_,h=>by simp at h
 | _::_,[],_,h=>by simp at h
 | e::es,(a,u)::l,i,h=>by
  simp only[gU,List.cons.injEq,Prod.mk.injEq] at h;obtain⟨⟨h1,h2⟩,h3⟩:=h;have hq:(Op.equal kt (gO (enc k)) e.key).run P w=.ok (decide (enc k=enc a)) w:=by rw[h1];exact VY (he.ty k) (he.ty a) 9998 w
  unfold Instr.findAsking;simp only[Sem.run_bind,hq,Result.andThen_ok]
  by_cases hk:a=k
  ·subst hk
   refine .inl ⟨0,u,?_,by simp[cg],rfl,λ v'=>by simp[mw]⟩;simp[h2]
  ·have aL:¬ enc k=enc a:=λ t=>hk (he.inj _ _ t).symm
   simp only[aL,decide_false,BU,if_false]
   rcases V5 he k w es l (i+1) h3 with⟨j,v,g1,g2,g3,g4⟩ | ⟨g1,g2⟩
   ·refine .inl ⟨j+1,v,?_,by simp[cg,hk,g2],by simpa using g3,λ v'=>by simp[mw,hk,g4]⟩
    rw[g1];congr 3;omega
   ·exact .inr ⟨g1,by simp[cg,hk,g2]⟩
theorem OD {κ ν:Type}[DecidableEq κ]{kt:TypeId}{enc:κ->List Pv}{ev:ν->av}(he:yN P kt enc)(k:κ)(w:ah)(es:List MapEntry)(l:List (κ×ν))(h:es.map (λ e=>(e.key,e.val))=l.map (λ x=>(gO (enc x.1),ev x.2))):
  (∃ j v,(Instr.findKey kt (gO (enc k)) es).run P w=.ok (some (j,ev v)) w/\cg k l=some v/\l[j]? = some (k,v)/\∀ v',mw k v' l=l.set j (k,v')) \/
  ((Instr.findKey kt (gO (enc k)) es).run P w=.ok none w/\cg k l=none):=by
 unfold Instr.findKey;simp only[Sem.run_bind,run_underlying (he.ty k).und,Result.andThen_ok];cases es with
 | nil=>
  cases l with
  | nil=>exact .inr ⟨rfl,rfl⟩
  | cons _ _=>simp at h
 | cons e es=>
  have:Instr.findNow (.struct (P.fieldsOf kt)) (gO (enc k)) (e::es) 0=none:=by unfold Instr.findNow;rfl
  simp only[this];have:=V5 he k w (e::es) l 0 h;simpa only[eP] using this
theorem OE {κ ν:Type}[DecidableEq κ]{t kt el:TypeId}{enc:κ->List Pv}{ev:ν->av}{z:av}(he:yN P kt enc)(ht:P.underlying t=some (.map kt el))(Gi:(P.info? el).bind (·.zero)=some z){w:ah}{g:Nat}{l:List (κ×ν)}(h:iY enc ev w g l)(k:κ)(ok:Bool):
  (Instr.lookup t (.map (some g)) (gO (enc k)) ok).run P w=.ok (if ok then .tuple #[((cg k l).map ev).getD z,.bool (cg k l).isSome] else((cg k l).map ev).getD z) w:=by
 obtain⟨es,c,hb,hl,_⟩:=h;obtain⟨i,hi,hz⟩:∃ i,P.info? el=some i/\i.zero=some z:=by
  cases hx:P.info? el with
  | none=>simp[hx] at Gi
  | some i=>exact⟨i,rfl,by simpa[hx] using Gi⟩
 unfold Instr.lookup;simp only[Sem.run_bind,run_underlying ht,Result.andThen_ok,B1 hb,Sem.run_pure,OC (he.ty k)]
 rcases OD he k w es.toList l hl with⟨j,v,h1,h2,_⟩ | ⟨h1,h2⟩
 ·rw[h1,h2]
  simp only[Result.andThen_ok];cases ok<;>rfl
 ·rw[h1,h2]
  simp only[Result.andThen_ok,Sem.run_bind,uG hi hz,Sem.run_pure];cases ok<;>rfl
theorem V6 (ps:List Pv):Instr.sameBits 10000 (gO ps) (gO ps)=true:=by
 show Instr.sameBits (9999+1) (gO ps) (gO ps)=true;unfold gO Instr.sameBits;simp only[BEq.rfl,iF]
 induction ps with
 | nil=>rfl
 | cons p ps ih=>
  simp only[gU,List.zip_cons_cons,List.all_cons,dp];refine⟨?_,by simpa using ih⟩;cases p<;>simp[Pv.v,Instr.sameBits,beq_toListBytes]
theorem V7 {κ ν:Type}[DecidableEq κ]{t kt el:TypeId}{enc:κ->List Pv}{ev:ν->av}(he:yN P kt enc)(ht:P.underlying t=some (.map kt el)){w:ah}{g:Nat}{l:List (κ×ν)}(h:iY enc ev w g l)(k:κ)(v:ν):
  ∃ w',(Instr.mapUpdate t (.map (some g)) (gO (enc k)) (ev v)).run P w=.ok () w'/\Fr (only g) w w'/\w'.heap.size=w.heap.size/\iY enc ev w' g (mw k v l):=by
 obtain⟨es,c,hb,hl,bI,hnd⟩:=h;have hg:=cQ hb;unfold Instr.mapUpdate;simp only[Sem.run_bind,run_underlying ht,Result.andThen_ok,B1 hb,OC (he.ty k)]
 rcases OD he k w es.toList l hl with⟨j,u,h1,h2,h3,h4⟩ | ⟨h1,h2⟩
 ·rw[h1]
  obtain⟨e,hj,Gj⟩:∃ e,es[j]? = some e/\e.key=gO (enc k):=by
   have hx:=congrArg (λ l=>l[j]?) hl;simp only[ig,h3,uS] at hx;cases he:es.toList[j]? with
   | none=>rw[he] at hx;simp at hx
   | some e=>rw[he] at hx;simp at hx;exact⟨e,by simpa using he,hx.1⟩
  have ja:(Instr.keyThatStays e.key (gO (enc k))).run P w=.ok (gO (enc k)) w:=by
   rw[Gj];unfold Instr.keyThatStays;rw[if_pos (V6 _)];rfl
  simp only[Result.andThen_ok,Sem.run_bind,hj,uS,Option.getD_some,ja,B2 hb];have Gk:(es.modify j λ x=>{ key:=gO (enc k),val:=ev v,born:=x.born }).toList=es.toList.set j { key:=gO (enc k),val:=ev v,born:=e.born }:=by
   rw[Array.toList_modify];apply xO;intro q;rw[List.getElem?_modify,zF]
   by_cases hq:j=q
   ·subst hq
    have rR:j<es.toList.length:=by simpa using(Array.getElem?_eq_some_iff.1 hj).1
    have mC:es.toList[j]? = some e:=by simpa using hj
    simp only[if_true,mC,rR];rfl
   ·simp[hq]
  have mC:es.toList[j]? = some e:=by simpa using hj
  refine⟨_,rfl,B3 _ _ _,by simp,_,_,heap_set hg _,?_,?_,?_⟩
  ·rw[Gk,vW,hl,h4,vW]
  ·rw[Gk]
   intro x hx
   rcases List.mem_or_eq_of_mem_set hx with hx | rfl
   ·exact bI x hx
   ·exact bI e (mI mC)
  ·rw[Gk,vW]
   have:(es.toList.map (·.born)).set j e.born=es.toList.map (·.born):=by
    apply xO;intro q;rw[zF]
    by_cases hq:j=q
    ·subst hq
     have rR:j<es.toList.length:=(nj.1 mC).1;simp only[if_true,eI,rR,ig,mC,uS]
    ·simp[hq]
   rw[this];exact hnd
 ·rw[h1]
  simp only[Result.andThen_ok,B2 hb];refine⟨_,rfl,B3 _ _ _,by simp,_,_,heap_set hg _,?_,?_,?_⟩
  ·rw[BT,jG,hl,Is k v l h2,jG];rfl
  ·intro x hx
   rw[BT,kE,nR] at hx
   rcases hx with hx | rfl
   ·exact Nat.lt_succ_of_lt (bI x hx)
   ·exact Nat.lt_succ_self _
  ·rw[BT,jG,List.nodup_append]
   refine⟨hnd,by simp,?_⟩;intro a ha b ba;simp at ba;subst ba;rw[kF] at ha;obtain⟨x,hx,rfl⟩:=ha;have:=bI x hx;omega
theorem JC {es:Array MapEntry}{e:MapEntry}(hj:es[j]? = some e)(f:MapEntry->MapEntry):(es.modify j f).toList=es.toList.set j (f e):=by
 rw[Array.toList_modify];apply xO;intro q;rw[List.getElem?_modify,zF]
 by_cases hq:j=q
 ·subst hq
  have rR:j<es.toList.length:=by simpa using(Array.getElem?_eq_some_iff.1 hj).1
  have mC:es.toList[j]? = some e:=by simpa using hj
  simp only[if_true,mC,rR];rfl
 ·simp[hq]
theorem afi {es:Array MapEntry}(hnd:(es.toList.map (·.born)).Nodup){j:Nat}{e:MapEntry}(hj:es[j]? = some e):es.findIdx? (λ x=>(x.born:Int)==(e.born:Int))=some j:=by
 rw[Array.findIdx?_eq_some_iff_getElem];obtain⟨h1,h2⟩:=Array.getElem?_eq_some_iff.1 hj;refine⟨h1,by rw[h2];simp,λ i hi=>?_⟩;simp only[beq_iff_eq,Int.natCast_inj];intro hc;have V8:=List.pairwise_iff_getElem.1 hnd i j (by simp;omega) (by simpa using h1) hi;simp only[List.getElem_map,Array.getElem_toList] at V8;exact V8 (by rw[hc,h2])
theorem V9 {κ ν:Type}[DecidableEq κ]{t:TypeId}{enc:κ->List Pv}{ev:ν->av}{w:ah}{g:Nat}{l:List (κ×ν)}{es:Array MapEntry}{c j:Nat}{e:MapEntry}{k:κ}{u:ν}(hb:w.heap[g]? = some (.map es c))
  (hl:es.toList.map (λ e=>(e.key,e.val))=l.map (λ x=>(gO (enc x.1),ev x.2))) (bI:∀ x∈es.toList,x.born<c) (hnd:(es.toList.map (·.born)).Nodup) (hj:es[j]? = some e) (hk:l[j]? = some (k,u)) (v:ν) :
  ∃ w',(Instr.entryStore t (.map (some g)) (aa (e.born:Int)) (ev v)).run P w=.ok () w'/\Fr (only g) w w'/\w'.heap.size=w.heap.size/\iY enc ev w' g (l.set j (k,v)):=by
 have hg:=cQ hb;have mC:es.toList[j]? = some e:=by simpa using hj
 have Gj:e.key=gO (enc k):=by
  have hx:=congrArg (λ l=>l[j]?) hl;simp only[ig,hk,mC,uS,Option.some.injEq,Prod.mk.injEq] at hx;exact hx.1
 unfold Instr.entryStore;have ha:∀ w,(asInt (aa (e.born:Int))).run P w=.ok (e.born:Int) w:=λ w=>rfl;simp only[Sem.run_bind,Sem.run_pure,Result.andThen_ok,B1 hb,ha,afi hnd hj,B2 hb];refine⟨_,rfl,B3 _ _ _,by simp,_,_,heap_set hg _,?_,?_,?_⟩
 ·rw[JC hj,vW,hl,vW]
  congr 2
 ·rw[JC hj]
  intro x hx
  rcases List.mem_or_eq_of_mem_set hx with hx | rfl
  ·exact bI x hx
  ·exact bI e (mI mC)
 ·rw[JC hj,vW]
  have:(es.toList.map (·.born)).set j e.born=es.toList.map (·.born):=by
   apply xO;intro q;rw[zF]
   by_cases hq:j=q
   ·subst hq
    have rR:j<es.toList.length:=(nj.1 mC).1;simp only[if_true,eI,rR,ig,mC,uS]
   ·simp[hq]
  rw[this];exact hnd
theorem Wa {κ ν:Type}[DecidableEq κ]{t kt el:TypeId}{enc:κ->List Pv}{ev:ν->av}{z:ν}(he:yN P kt enc)(ht:P.underlying t=some (.map kt el))(Gi:(P.info? el).bind (·.zero)=some (ev z)){w:ah}{g:Nat}{l:List (κ×ν)}(h:iY enc ev w g l)(k:κ):
  ∃ (w':ah) (n:Int) (l2:List (κ×ν)),(Instr.mapEntry t (.map (some g)) (gO (enc k))).run P w=.ok (.tuple #[ev ((cg k l).getD z),aa n]) w'/\Fr (only g) w w'/\w'.heap.size=w.heap.size/\iY enc ev w' g l2/\(cg k l2).getD z=(cg k l).getD z /\
   ∀ v,∃ rn,(Instr.entryStore t (.map (some g)) (aa n) (ev v)).run P w'=.ok () rn/\Fr (only g) w' rn/\rn.heap.size=w'.heap.size/\iY enc ev rn g (mw k v l):=by
 obtain⟨i,hi,hz⟩:∃ i,P.info? el=some i/\i.zero=some (ev z):=by
  cases hx:P.info? el with
  | none=>simp[hx] at Gi
  | some i=>exact⟨i,rfl,by simpa[hx] using Gi⟩
 obtain⟨es,c,hb,hl,bI,hnd⟩:=h;have hg:=cQ hb;unfold Instr.mapEntry;simp only[Sem.run_bind,run_underlying ht,Result.andThen_ok,B1 hb,OC (he.ty k)]
 rcases OD he k w es.toList l hl with⟨j,u,h1,h2,h3,h4⟩ | ⟨h1,h2⟩
 ·rw[h1]
  obtain⟨e,hj,Gj,CN⟩:∃ e,es[j]? = some e/\e.key=gO (enc k)/\e.val=ev u:=by
   have hx:=congrArg (λ l=>l[j]?) hl;simp only[ig,h3,uS] at hx;cases he:es.toList[j]? with
   | none=>rw[he] at hx;simp at hx
   | some e=>rw[he] at hx;simp at hx;exact⟨e,by simpa using he,hx.1,hx.2⟩
  have ja:(Instr.keyThatStays e.key (gO (enc k))).run P w=.ok (gO (enc k)) w:=by
   rw[Gj];unfold Instr.keyThatStays;rw[if_pos (V6 _)];rfl
  simp only[Result.andThen_ok,Sem.run_bind,hj,uS,Option.getD_some,ja,B2 hb,Sem.run_pure];have Gk:=JC hj (λ x=>{ x with key:=gO (enc k) })
  have mC:es.toList[j]? = some e:=by simpa using hj
  have afj:es.toList.set j { e with key:=gO (enc k) }=es.toList:=by
   apply xO;intro q;rw[zF]
   by_cases hq:j=q
   ·subst hq
    have rR:j<es.toList.length:=(nj.1 mC).1;rw[if_pos rfl,if_pos rR,mC,<- Gj]
   ·simp[hq]
  have jt:es.modify j (λ x=>{ x with key:=gO (enc k) })=es:=Array.toList_inj.1 (by rw[Gk];exact afj)
  have o9:cg k l=some u:=h2;have jF:∀ o:Obj,({ w with heap:=w.heap.setIfInBounds g o }:ah).heap[g]? = some o:=λ o=>heap_set hg o
  refine⟨_,(e.born:Int),l,by rw[o9];rfl,B3 _ _ _,by simp,⟨es,c,by rw[jt];exact jF _,hl,bI,hnd⟩,rfl,λ v=>?_⟩;rw[h4];exact V9 (by rw[jt];exact jF _) hl bI hnd hj h3 v
 ·rw[h1]
  simp only[Result.andThen_ok,Sem.run_bind,uG hi hz,B2 hb,Sem.run_pure];have o9:cg k l=none:=h2;have jF:∀ o:Obj,({ w with heap:=w.heap.setIfInBounds g o }:ah).heap[g]? = some o:=λ o=>heap_set hg o
  have Av:(es.push { key:=gO (enc k),val:=ev z,born:=c }).toList.map (λ e=>(e.key,e.val))=(l++[(k,z)]).map (λ x=>(gO (enc x.1),ev x.2)):=by
   rw[BT,jG,hl,jG];rfl
  have Aq:∀ x∈(es.push { key:=gO (enc k),val:=ev z,born:=c }).toList,x.born<c+1:=by
   intro x hx;rw[BT,kE,nR] at hx
   rcases hx with hx | rfl
   ·exact Nat.lt_succ_of_lt (bI x hx)
   ·exact Nat.lt_succ_self _
  have Wb:((es.push { key:=gO (enc k),val:=ev z,born:=c }).toList.map (·.born)).Nodup:=by
   rw[BT,jG,List.nodup_append];refine⟨hnd,by simp,?_⟩;intro a ha b ba;simp at ba;subst ba;rw[kF] at ha;obtain⟨x,hx,rfl⟩:=ha;have:=bI x hx;omega
  have hlen:es.size=l.length:=by have:=congrArg List.length hl;simpa using this
  have hz2:(cg k (l++[(k,z)])).getD z=(cg k l).getD z:=by rw[SE,o9];simp[cg]
  have hz3:ev ((cg k l).getD z)=ev z:=by rw[o9];rfl
  refine⟨_,(c:Int),l++[(k,z)],by rw[hz3];rfl,B3 _ _ _,by simp,⟨_,_,jF _,Av,Aq,Wb⟩,hz2,λ v=>?_⟩;rw[Is k v l o9,show l++[(k,v)]=(l++[(k,z)]).set l.length (k,v) by simp];exact V9 (u:=z) (e:={ key:=gO (enc k),val:=ev z,born:=c }) (jF _) Av Aq Wb (by rw[<- hlen,D9]) bm v
end Vc
def C141  (w:ah) (K:aP):Prop:=
 aC (.map #[] 0) w (λ g1 w2=>aC (.map #[] 0) w2 (λ g3 w4=>aC (.cells #[.map (some g1),.map (some g3)] 147) w4 (λ g5 w6=>K (.pointer (some (ad g5))) w6)))
def pl141:aN:=.auto
theorem c141 (w K)(h:C141  w K):au 141 #[] w K:=aQ Tryz.func141 (p:=pl141) aA h
def C242 (p0:Int)(w:ah)(K:aP):Prop:=
 ae (decide (p0 >= 0))
 (K (.bool (decide (p0<=10000))) w)
 (K (.bool false) w)
def pl242:aN:=.auto
theorem c242 (p0 w K)(h:C242 p0 w K):au 242 #[aa p0] w K:=aQ Tryz.func242 (p:=pl242) aA h
def C215 (p0:Addr)(p1:ay)(p2:Int)(p3:Int)(w:ah)(K:aP):Prop:=
 aC (.cells #[aj,aa 0] 207) w (λ g1 w2=>aG (ad g1) [.string p1,aa p2] w2 (λ w3=>aU w3 (λ w4=>bL (λ S5=>aJ S5 (p0.add 0) (af .map (p0.add 0) w4 (λ(x6:Option Nat)=>aJ S5 (ad g1) (aF [.str,.int .i64] (ad g1) w4 (λ(x7:ay×Int×Unit)=>aT (Instr.lookup 144 (.map x6) (.agg #[.string x7.1,aa x7.2.1]) true) w4 (.bR [.one (.int .i64),.one .bool]) (λ(x8:Int×Bool×Unit) w9=>az S5 w4 w9 (ak 194 #[.string p1] w9 bK (λ(bG:Bool) bt=>ae (!bG)
 (K (aa 1) bt)
 (ak 242 #[aa p2] bt bK (λ(cn:Bool) bM=>ae (!cn)
 (K (aa 1) bM)
 (ak 208 #[aa p3] bM bK (λ(cj:Bool) cB=>ae (!cj)
 (K (aa 1) cB)
 (ae x8.2.1
 (K (aa 4) cB)
 (af .map (p0.add 0) cB (λ(bP:Option Nat)=>DR bP cB (λ bZ=>ae (decide (bZ >= 32))
 (K (aa 5) cB)
 (aU cB (λ b9=>af .map (p0.add 0) b9 (λ(cJ:Option Nat)=>aF [.str,.int .i64] (ad g1) b9 (λ(dE:ay×Int×Unit)=>lL Tryz.prog (Instr.mapUpdate 144 (.map cJ) (.agg #[.string dE.1,aa dE.2.1]) (aa p3)) b9 (λ cr=>K (aa 0) cr))))))))))))))))))))))))
def pl215:aN:=(.seq .auto (.seq .auto (.seq (.held (.soft 0 (.soft 1 (.soft 2 (.soft 3 (.soft 4 (.pick 5 (.soft 6 (.soft 7 (.soft 8 (.soft 9 (.soft 10 .done))))) .stop))))))) (.seq .auto (.seq (.tail 6) .auto)))))
theorem c215 (p0 p1 p2 p3 w K)(h:C215 p0 p1 p2 p3 w K):au 215 #[aI p0,.string p1,aa p2,aa p3] w K:=aQ Tryz.func215 (p:=pl215) aA h
def C250 (p0:Addr)(p1:ay)(p2:Int)(w:ah)(K:aP):Prop:=
 af .map (p0.add 0) w (λ(x1:Option Nat)=>aT (Instr.lookup 144 (.map x1) (.agg #[.string p1,aa p2]) true) w (.bR [.one (.int .i64),.one .bool]) (λ(x2:Int×Bool×Unit) w3=>K (.tuple #[aa x2.1,.bool x2.2.1]) w3))
def pl250:aN:=.auto
theorem c250 (p0 p1 p2 w K)(h:C250 p0 p1 p2 w K):au 250 #[aI p0,.string p1,aa p2] w K:=aQ Tryz.func250 (p:=pl250) aA h
def C220 (p0:Addr)(p1:ay)(p2:ay)(p3:Int)(p4:Int)(w:ah)(K:aP):Prop:=
 aC (.cells #[aj,aj] 210) w (λ g1 w2=>aG (ad g1) [.string p1,.string p2] w2 (λ w3=>aU w3 (λ w4=>bL (λ S5=>aJ S5 (p0.add 1) (af .map (p0.add 1) w4 (λ(x6:Option Nat)=>aJ S5 (ad g1) (aF [.str,.str] (ad g1) w4 (λ(x7:ay×ay×Unit)=>nE (aT (Instr.lookup 145 (.map x6) (.agg #[.string x7.1,.string x7.2.1]) true) w4 (.bR [.agg [.int .i64,.int .i64],.one .bool]) (λ(x8:(Int×Int×Unit)×Bool×Unit) w9=>az S5 w4 w9 (aC (.cells #[aa 0,aa 0] 212) w9 (λ g10 bt=>az S5 w9 bt (aG (ad g10) [aa x8.1.1,aa x8.1.2.1] bt (λ br=>az S5 bt br (dc (Bool×Unit) (λ Gl=>ak 194 #[.string p1] br bK (λ(bP:Bool) da=>ae (!bP)
 (Gl (true,()) da)
 (ak 194 #[.string p2] da bK (λ(cF:Bool) ct=>ae (!cF)
 (Gl (true,()) ct)
 (ae (p3 != 0)
 (ae (p3 != 1)
 (Gl (true,()) ct)
 (ak 242 #[aa p4] ct bK (λ(dE:Bool) cr=>Gl ((!dE),()) cr)))
 (ak 242 #[aa p4] ct bK (λ(cW:Bool) dM=>Gl ((!cW),()) dM)))))))
 (λ _ s14 cB=>ae s14.1
 (K (aa 1) cB)
 (ae x8.2.1
 (K (aa 4) cB)
 (aU cB (λ cZ=>af .map (p0.add 1) cZ (λ(cR:Option Nat)=>aF [.str,.str] (ad g1) cZ (λ(eX:ay×ay×Unit)=>lL Tryz.prog (Instr.mapUpdate 145 (.map cR) (.agg #[.string eX.1,.string eX.2.1]) (.agg #[aa p3,aa p4])) cZ (λ gD=>K (aa 0) gD))))))))))))))
 (aC (.cells #[aa 0,aa 0] 212) w4 (λ No gr=>az S5 w4 gr (aT (Instr.lookup 145 (.map x6) (.agg #[.string x7.1,.string x7.2.1]) true) gr (.bR [.agg [.int .i64,.int .i64],.one .bool]) (λ(gB:(Int×Int×Unit)×Bool×Unit) gZ=>az S5 gr gZ (aG (ad No) [aa gB.1.1,aa gB.1.2.1] gZ (λ dQ=>az S5 gZ dQ (dc (Bool×Unit) (λ yO=>ak 194 #[.string p1] dQ bK (λ(gW:Bool) fI=>ae (!gW)
 (yO (true,()) fI)
 (ak 194 #[.string p2] fI bK (λ(gn:Bool) gq=>ae (!gn)
 (yO (true,()) gq)
 (ae (p3 != 0)
 (ae (p3 != 1)
 (yO (true,()) gq)
 (ak 242 #[aa p4] gq bK (λ(mi:Bool) oB=>yO ((!mi),()) oB)))
 (ak 242 #[aa p4] gq bK (λ(kY:Bool) nv=>yO ((!kY),()) nv)))))))
 (λ _ I4 gh=>ae I4.1
 (K (aa 1) gh)
 (ae gB.2.1
 (K (aa 4) gh)
 (aU gh (λ ij=>af .map (p0.add 1) ij (λ(kZ:Option Nat)=>aF [.str,.str] (ad g1) ij (λ(nq:ay×ay×Unit)=>lL Tryz.prog (Instr.mapUpdate 145 (.map kZ) (.agg #[.string nq.1,.string nq.2.1]) (.agg #[aa p3,aa p4])) ij (λ jb=>K (aa 0) jb))))))))))))))))))))))
def pl220:aN:=(.seq .auto (.seq .auto (.seq (.held (.soft 0 (.soft 1 (.soft 2 (.soft 3 (.soft 4 (.pick 5 (.soft 6 (.soft 7 (.soft 8 (.pick 9 (.pick 10 (.soft 11 .done) .stop) .stop)))) (.pick 9 (.pick 5 (.soft 6 (.soft 7 (.soft 8 (.pick 10 (.soft 11 .done) .stop)))) .stop) .stop)))))))) (.seq (.block (.join [(26,.one .bool)] .auto .auto)) (.seq (.tail 8) .auto)))))
theorem c220 (p0 p1 p2 p3 p4 w K)(h:C220 p0 p1 p2 p3 p4 w K):au 220 #[aI p0,.string p1,.string p2,aa p3,aa p4] w K:=aQ Tryz.func220 (p:=pl220) aA h
def C204 (p0:Addr)(p1:ay)(p2:ay)(w:ah)(K:aP):Prop:=
 af .map (p0.add 1) w (λ(x1:Option Nat)=>aT (Instr.lookup 145 (.map x1) (.agg #[.string p1,.string p2]) true) w (.bR [.agg [.int .i64,.int .i64],.one .bool]) (λ(x2:(Int×Int×Unit)×Bool×Unit) w3=>aC (.cells #[aa 0,aa 0] 212) w3 (λ g4 w5=>aG (ad g4) [aa x2.1.1,aa x2.1.2.1] w5 (λ w6=>aU w6 (λ w7=>af (.int .i64) ((ad g4).add 0) w7 (λ(x8:Int)=>af (.int .i64) ((ad g4).add 1) w7 (λ(x9:Int)=>K (.tuple #[aa x8,aa x9,.bool x2.2.1]) w7)))))))
def pl204:aN:=(.seq .auto (.seq .auto (.seq .still .auto)))
theorem c204 (p0 p1 p2 w K)(h:C204 p0 p1 p2 w K):au 204 #[aI p0,.string p1,.string p2] w K:=aQ Tryz.func204 (p:=pl204) aA h
def C61 (p0:Addr)(w:ah)(K:aP):Prop:=
 aU w (λ w1=>bL (λ S2=>aJ S2 (p0.add 0) (af .map (p0.add 0) w1 (λ(x3:Option Nat)=>aJ S2 (p0.add 1) (af .map (p0.add 1) w1 (λ(x4:Option Nat)=>ak 88 #[.map x3] w1 (.v (.one .map)) (λ(x5:Option Nat) w6=>az S2 w1 w6 (ak 89 #[.map x4] w6 (.v (.one .map)) (λ(x7:Option Nat) w8=>az S2 w6 w8 (aC (.cells #[.map x5,.map x7] 147) w8 (λ g9 aX=>az S2 w8 aX (K (.pointer (some (ad g9))) aX))))))))))))
def pl61:aN:=(.seq .auto (.seq (.held (.soft 0 (.soft 1 (.soft 2 (.soft 3 (.soft 5 (.soft 6 (.soft 7 (.soft 8 (.pick 4 (.pick 9 (.soft 10 (.pick 11 (.soft 12 .done) .stop)) .stop) .stop)))))))))) .auto))
theorem c61 (p0 w K)(h:C61 p0 w K):au 61 #[aI p0] w K:=aQ Tryz.func61 (p:=pl61) aA h
def Gm (k:ai×Int):List Pv:=[.s k.1,.i k.2]
def Gn (k:ai×ai):List Pv:=[.s k.1,.s k.2]
def xn (n:Int):av:=aa n
def Gp (p:Int×Int):av:=.agg #[aa p.1,aa p.2]
theorem Wc:yN Tryz.prog 207 Gm where
 ty a:=by
  have hf:∃ fs,Tryz.prog.underlying 207=some (.struct fs)/\Tryz.prog.fieldsOf 207=fs:=by
   unfold Program.fieldsOf;rw[Tryz.underlying207];exact⟨_,rfl,rfl⟩
  refine⟨by obtain⟨fs,h1,h2⟩:=hf;rw[h1,h2],by kernel_rfl,by kernel_rfl,?_⟩;unfold Program.fieldsOf;rw[Tryz.underlying207];exact⟨by decide,rfl,Tryz.underlying9,by decide,rfl,Tryz.underlying3,trivial⟩
 inj a b h:=by
  injection h with h1 h2;injection h2 with h2 _;injection h1 with h1;injection h2 with h2
  exact Prod.ext h1 h2
theorem Wd:yN Tryz.prog 210 Gn where
 ty a:=by
  have hf:∃ fs,Tryz.prog.underlying 210=some (.struct fs)/\Tryz.prog.fieldsOf 210=fs:=by
   unfold Program.fieldsOf;rw[Tryz.underlying210];exact⟨_,rfl,rfl⟩
  refine⟨by obtain⟨fs,h1,h2⟩:=hf;rw[h1,h2],by kernel_rfl,by kernel_rfl,?_⟩;unfold Program.fieldsOf;rw[Tryz.underlying210];exact⟨by decide,rfl,Tryz.underlying9,by decide,rfl,Tryz.underlying9,trivial⟩
 inj a b h:=by
  injection h with h1 h2;injection h2 with h2 _;injection h1 with h1;injection h2 with h2
  exact Prod.ext h1 h2
structure j9 (w:ah)(F:bz)(b:Nat)(m:eH):Prop where
 out:∃ g1 g2:Nat,w.heap[b]? = some (.cells #[.map (some g1),.map (some g2)] 147 (0,0))/\iY Gm xn w g1 m.fx/\iY Gn Gp w g2 m.ch/\F g1/\F g2/\g1≠g2/\b≠g1/\b≠g2
 mem:F b
theorem j9.ao {T:bz}{m:eH}(h:j9 w F b m)(f:Fr T w w')(hT:∀ k,F k->¬ T k):j9 w' F b m:=by
 obtain⟨⟨g1,g2,h1,h2,h3,h4,h5,h6⟩,hm⟩:=h;exact⟨⟨g1,g2,f.ao h1 (hT b hm),h2.ao f (hT g1 h4),h3.ao f (hT g2 h5),h4,h5,h6⟩,hm⟩
theorem j9.ag {m:eH}(h:j9 w F b m)(f:Fr none1 w w'):j9 w' F b m:=h.ao f λ _ _ t=>t
theorem We {l:List ((ai×Int)×Int)}(h:iY Gm xn w g l)(s:ai)(d:Int){K:Int×Bool×Unit->ah->Prop}(k:K ((cg (s,d) l).getD 0,(cg (s,d) l).isSome,()) w):
  aT (Instr.lookup 144 (.map (some g)) (.agg #[.string (str s),aa d]) true) w (.bR [.one (.int .i64),.one .bool]) K:=by
 have:=OE (z:=aa 0) Wc Tryz.underlying144 aA h (s,d) true;refine⟨((cg (s,d) l).getD 0,(cg (s,d) l).isSome,()),w,this.trans ?_,k⟩;cases cg (s,d) l<;>rfl
theorem OF {l:List ((ai×ai)×Int×Int)}(h:iY Gn Gp w g l)(s t:ai){K:(Int×Int×Unit)×Bool×Unit->ah->Prop}(k:K ((((cg (s,t) l).getD (0,0)).1,((cg (s,t) l).getD (0,0)).2,()),(cg (s,t) l).isSome,()) w):
  aT (Instr.lookup 145 (.map (some g)) (.agg #[.string (str s),.string (str t)]) true) w (.bR [.agg [.int .i64,.int .i64],.one .bool]) K:=by
 have:=OE (z:=Gp (0,0)) Wd Tryz.underlying145 aA h (s,t) true;refine⟨((((cg (s,t) l).getD (0,0)).1,((cg (s,t) l).getD (0,0)).2,()),(cg (s,t) l).isSome,()),w,this.trans ?_,k⟩;cases cg (s,t) l<;>rfl
theorem afk {l:List ((ai×Int)×Int)}(h:iY Gm xn w g l)(s:ai)(d v:Int){K:ah->Prop}(k:∀ w',iY Gm xn w' g (mw (s,d) v l)->Fr (only g) w w'->K w'):
  lL Tryz.prog (Instr.mapUpdate 144 (.map (some g)) (.agg #[.string (str s),aa d]) (aa v)) w K:=by
 obtain⟨w',hr,f,_,hm⟩:=V7 Wc Tryz.underlying144 h (s,d) v;exact⟨w',hr,k w' hm f⟩
theorem afl {l:List ((ai×ai)×Int×Int)}(h:iY Gn Gp w g l)(s t:ai)(v d:Int){K:ah->Prop}(k:∀ w',iY Gn Gp w' g (mw (s,t) (v,d) l)->Fr (only g) w w'->K w'):
  lL Tryz.prog (Instr.mapUpdate 145 (.map (some g)) (.agg #[.string (str s),.string (str t)]) (.agg #[aa v,aa d])) w K:=by
 obtain⟨w',hr,f,_,hm⟩:=V7 Wd Tryz.underlying145 h (s,t) (v,d);exact⟨w',hr,k w' hm f⟩
theorem afm (w:ah):au 141 #[] w λ r w'=>∃ b,r=aZ b/\j9 w' (λ k=>w.heap.size<=k/\k<w'.heap.size) b ⟨[],[]⟩/\Fr none1 w w':=by
 refine c141 w _ ?_;unfold C141;refine aC.of λ g1 w1 eG aE f1 ng=>aC.of λ g2 w2 qI ba f2 iQ=>aC.of λ g3 w3 pV bJ f3 sX=>?_;exact⟨g3,rfl,⟨⟨g1,g2,bJ,(iY.new aE).ag (f2.trans f3),(iY.new ba).ag f3,by omega,by omega,by omega,by omega,by omega⟩,by omega⟩,(f1.trans f2).trans f3⟩
theorem Wf (d:Int)(w:ah):au 242 #[aa d] w λ r w'=>r=.bool (yl d)/\w=w':=by
 refine c242 d w _ ?_;unfold yl;refine ae.dec (λ h=>?_) (λ h=>?_)
 ·rw[decide_eq_true (p:=0<=d) ab];exact⟨rfl,rfl⟩
 ·rw[decide_eq_false (p:=0<=d) ab];exact⟨rfl,rfl⟩
theorem Wg {m:eH}(h:j9 w F b m)(s:ai)(d:Int):au 250 #[aZ b,.string (str s),aa d] w λ r w'=>
  r=.tuple #[aa ((cg (s,d) m.fx).getD 0),.bool (cg (s,d) m.fx).isSome]/\w=w':=by
 obtain⟨⟨g1,g2,h1,h2,h3,_⟩,_⟩:=h;refine c250 _ (str s) d w _ ?_;exact af.aw h1 (x:=some g1) rfl (We h2 s d ⟨rfl,rfl⟩)
theorem afn {m:eH}(h:j9 w F b m)(s t:ai):au 204 #[aZ b,.string (str s),.string (str t)] w λ r w'=>
  r=.tuple #[aa ((cg (s,t) m.ch).getD (0,0)).1,aa ((cg (s,t) m.ch).getD (0,0)).2,.bool (cg (s,t) m.ch).isSome]/\Fr none1 w w':=by
 obtain⟨⟨g1,g2,h1,h2,h3,_⟩,_⟩:=h;refine c204 _ (str s) (str t) w _ ?_;refine af.aw h1 (x:=some g2) rfl (OF h3 s t ?_);refine dO (zs:=[aa 0,aa 0]) (vs:=[aa ((cg (s,t) m.ch).getD (0,0)).1,aa ((cg (s,t) m.ch).getD (0,0)).2]) rfl rfl λ g w2 hg hb f2=>?_;refine aU.of λ w3 _ f3=>af.aw (f3.ag hb) (x:=((cg (s,t) m.ch).getD (0,0)).1) rfl (af.aw (f3.ag hb) (x:=((cg (s,t) m.ch).getD (0,0)).2) rfl ⟨rfl,f2.trans f3⟩)
theorem OG (w:ah)(o:Obj):(w.alloc o).heap[w.heap.size]? = some o:=by
 show(w.heap.push o)[w.heap.size]? = some o;simp
theorem OH (w:ah)(o:Obj):(w.alloc o).heap.size=w.heap.size+1:=by
 show(w.heap.push o).size=_;simp
theorem afo {m:eH}(h:j9 w F b m):au 61 #[aZ b] w λ r w'=>∃ c,r=aZ c/\j9 w' (λ k=>w.heap.size<=k/\k<w'.heap.size) c m/\Fr none1 w w':=by
 obtain⟨⟨g1,g2,h1,h2,h3,_⟩,_⟩:=h;refine c61 _ w _ ?_;unfold C61;refine aU.of λ w1 _ f1=>bL.all ?_;refine aJ.all (af.aw (f1.ag h1) (x:=some g1) rfl (aJ.all (af.aw (f1.ag h1) (x:=some g2) rfl ?_)));obtain⟨Bd,c1,aE,rp⟩:=h2.ag f1;have mc:au 88 #[.map (some g1)] w1 λ r w'=>r=.map (some w1.heap.size)/\w'=w1.alloc (.map Bd c1):=Calls.mono (Tryz.ZB g1 Bd c1 w1 aE) λ e w' ⟨a,b⟩=>⟨_,a,rfl,b⟩;refine an.of mc ?_;clear mc;rintro _ w2 ⟨rfl,rfl⟩;have f2:Fr none1 w1 (w1.alloc (.map Bd c1)):=pG w1 _;have n2:=OG w1 (.map Bd c1);have s2:=OH w1 (.map Bd c1);generalize w1.alloc (.map Bd c1)=w2 at *;refine⟨some w1.heap.size,rfl,az.of f2 ?_⟩;obtain⟨Be,c2,ba,mW⟩:=(h3.ag f1).ag f2;have mc:au 89 #[.map (some g2)] w2 λ r w'=>r=.map (some w2.heap.size)/\w'=w2.alloc (.map Be c2):=Calls.mono (Tryz.ZE g2 Be c2 w2 ba) λ e w' ⟨a,b⟩=>⟨_,a,rfl,b⟩;refine an.of mc ?_;clear mc;rintro _ w3 ⟨rfl,rfl⟩;have f3:Fr none1 w2 (w2.alloc (.map Be c2)):=pG w2 _;have n3:=OG w2 (.map Be c2);have s3:=OH w2 (.map Be c2);generalize w2.alloc (.map Be c2)=w3 at *;refine⟨some w2.heap.size,rfl,az.of f3 ?_⟩;refine aC.of λ g w4 hg hb f4 wS=>az.of f4 ?_;have s1:=f1.size;refine⟨g,rfl,⟨⟨w1.heap.size,w2.heap.size,hb,⟨Bd,c1,f4.ag (f3.ag n2),rp⟩,⟨Be,c2,f4.ag n3,mW⟩,by omega,by omega,by omega,by omega,by omega⟩,by omega⟩,((f1.trans f2).trans f3).trans f4⟩
theorem afp {m:eH}(h:j9 w F b m)(hF:∀ k,F k->k<w.heap.size)(s:ai)(d v:Int):au 215 #[aZ b,.string (str s),aa d,aa v] w λ r w'=>
  r=aa (vd m s d v).2/\j9 w' F b (vd m s d v).1/\Fr F w w':=by
 have h0:=h;obtain⟨⟨g1,g2,h1,h2,h3,h4,h5,h6,h7,h8⟩,hm⟩:=h;refine c215 _ (str s) d v w _ ?_;unfold C215;refine dO (zs:=[aj,aa 0]) (vs:=[.string (str s),aa d]) rfl rfl λ g w1 hg hb f1=>aU.of λ w2 _ f2=>bL.all ?_;have f12:=f1.trans f2;refine aJ.all (af.aw (f12.ag h1) (x:=some g1) rfl (aJ.all (aF.aR (cks:=[.str,.int .i64]) (x:=(str s,d,())) (f2.ag hb) (We (h2.ag f12) s d (az.of (Fr.refl _ _) ?_)))));have no:∀ {w':ah},Fr none1 w w'->j9 w' F b m/\Fr F w w':=λ f=>⟨h0.ag f,f.mono λ _ _ t=>t.elim⟩;unfold vd;refine an.of (zN s w2) ?_;rintro _ w3 ⟨rfl,f3⟩;have f13:=f12.trans f3;refine⟨_,rfl,ae.not (ae.by (λ hn=>?_) (λ hn=>?_))⟩
 rotate_left
 ·rw[if_pos (.inl hn)];exact⟨rfl,no f13⟩
 refine an.of (Wf d w3) ?_;rintro _ _ ⟨rfl,rfl⟩;refine⟨_,rfl,ae.not (ae.by (λ hd=>?_) (λ hd=>?_))⟩
 rotate_left
 ·rw[if_pos (.inr (.inl hd))];exact⟨rfl,no f13⟩
 refine an.of (vY v w3) ?_;rintro _ _ ⟨rfl,rfl⟩;refine⟨_,rfl,ae.not (ae.by (λ hv=>?_) (λ hv=>?_))⟩
 rotate_left
 ·rw[if_pos (.inr (.inr hv))];exact⟨rfl,no f13⟩
 have hn:gY s=true:=hn;rw[if_neg (by rw[hn,hd,hv];simp)];refine ae.by (λ hi=>?_) (λ hi=>?_)
 ·rw[if_pos hi];exact⟨rfl,no f13⟩
 rw[if_neg (λ t=>by have hi:(cg (s,d) m.fx).isSome=false:=hi;rw[hi] at t;cases t)];refine af.aw (f13.ag h1) (x:=some g1) rfl (DR.ofP (h2.ag f13) (ae.dec (λ hl=>?_) (λ hl=>?_)))
 ·rw[if_pos ab];exact⟨rfl,no f13⟩
 rw[if_neg ab];refine aU.of λ w4 _ f4=>?_;have f14:=f13.trans f4;refine af.aw (f14.ag h1) (x:=some g1) rfl (aF.aR (cks:=[.str,.int .i64]) (x:=(str s,d,())) ((f3.trans f4).ag (f2.ag hb)) (afk (h2.ag f14) s d v λ w5 Ln f5=>?_));have f15:Fr F w w5:=(f14.mono λ _ _ t=>t.elim).comp f5 λ k hk t=>by have:k=g1:=t;rw[this];exact h4
 refine⟨rfl,⟨⟨g1,g2,f5.ao (f14.ag h1) (λ t=>h7 t),Ln,(h3.ag f14).ao f5 (λ t=>h6 (Eq.symm t)),h4,h5,h6,h7,h8⟩,hm⟩,f15⟩
theorem afq {m:eH}(h:j9 w F b m)(s t:ai)(v d:Int):au 220 #[aZ b,.string (str s),.string (str t),aa v,aa d] w λ r w'=>
  r=aa (oF m s t v d).2/\j9 w' F b (oF m s t v d).1/\Fr F w w':=by
 have h0:=h;obtain⟨⟨g1,g2,h1,h2,h3,h4,h5,h6,h7,h8⟩,hm⟩:=h;refine c220 _ (str s) (str t) v d w _ ?_;unfold C220;have pF:=cQ h1;refine dO (zs:=[aj,aj]) (vs:=[.string (str s),.string (str t)]) rfl rfl λ g w1 hg hb f1=>aU.of λ w2 _ f2=>bL.of (λ k=>k<w2.heap.size) ?_;have f12:=f1.trans f2;have ba:=f2.ag hb;have o9:=cQ ba;refine⟨by rw[eN];show b<_;have:=f12.size;omega,af.aw (f12.ag h1) (x:=some g2) rfl ⟨o9,aF.aR (cks:=[.str,.str]) (x:=(str s,str t,())) ba ⟨?a,?b⟩⟩⟩
 case' a=>
  refine OF (h3.ag f12) s t (az.of (Fr.refl _ _) (aC.of λ g9 w3 Wh oG f3 sX=>az.of f3 (aG.aR (cs:=[aa 0,aa 0]) oG rfl rfl λ w4 df f4 wS=>az.on f4 (λ k hk q=>by have:k=g9:=q;omega) ?_)))
 case' b=>
  refine aC.of λ g9 w3 Wh oG f3 sX=>az.of f3 (OF ((h3.ag f12).ag f3) s t (az.of (Fr.refl _ _) (aG.aR (cs:=[aa 0,aa 0]) oG rfl rfl λ w4 df f4 wS=>az.on f4 (λ k hk q=>by have:k=g9:=q;omega) ?_)))
 all_goals
  have f24:Fr none1 w2 w4:=f3.fresh f4 ab;have f14:=f12.trans f24;have no:∀ {w':ah},Fr none1 w w'->j9 w' F b m/\Fr F w w':=λ f=>⟨h0.ag f,f.mono λ _ _ t=>t.elim⟩;refine dc.of (λ st w'=>st.1=decide (gY s=false\/gY t=false\/(v≠0/\v≠1)\/yl d=false)/\Fr none1 w4 w') ?_ ?_
  ·refine an.of (zN s w4) ?_
   rintro _ w5 ⟨rfl,f5⟩;refine⟨_,rfl,ae.not (ae.by (λ hn=>?_) (λ hn=>⟨(decide_eq_true (.inl hn)).symm,f5⟩))⟩;refine an.of (zN t w5) ?_;rintro _ w6 ⟨rfl,f6⟩;refine⟨_,rfl,ae.not (ae.by (λ ht=>?_) (λ ht=>⟨(decide_eq_true (.inr (.inl ht))).symm,f5.trans f6⟩))⟩;have hn:gY s=true:=hn;have ht:gY t=true:=ht;have fin:(v≠0/\v≠1)\/¬ (v≠0/\v≠1):=Classical.em _;refine ae.ne (λ q=>ae.ne (λ q2=>⟨(decide_eq_true (.inr (.inr (.inl ⟨q,q2⟩)))).symm,f5.trans f6⟩) (λ q2=>?_)) (λ q=>?_)
   all_goals
    refine an.of (Wf d w6) ?_;rintro _ _ ⟨rfl,rfl⟩;refine⟨_,rfl,?_,f5.trans f6⟩;dsimp only;cases hr:yl d with
    | false=>rw[decide_eq_true (.inr (.inr (.inr rfl)))];rfl
    | true=>rw[decide_eq_false (by rw[hn,ht];simp;omega)];rfl
  rintro _ ⟨st,_⟩ w5 ⟨dH,f5⟩;dsimp only at dH ⊢;subst dH;have f15:=f14.trans f5;unfold oF;refine ae.dec (λ hc=>?_) (λ hc=>?_)
  ·rw[if_pos hc];exact⟨rfl,no f15⟩
  rw[if_neg hc];refine ae.by (λ hi=>?_) (λ hi=>?_)
  ·rw[if_pos hi];exact⟨rfl,no f15⟩
  rw[if_neg (λ q=>by rw[hi] at q;cases q)];refine aU.of λ w6 _ f6=>?_;have f16:=f15.trans f6;refine af.aw (f16.ag h1) (x:=some g2) rfl (aF.aR (cks:=[.str,.str]) (x:=(str s,str t,())) ((f24.trans (f5.trans f6)).ag ba) (afl (h3.ag f16) s t v d λ w7 Gq f7=>?_));have f17:Fr F w w7:=(f16.mono λ _ _ t=>t.elim).comp f7 λ k hk q=>by have:k=g2:=q;rw[this];exact h5
  exact⟨rfl,⟨⟨g1,g2,f7.ao (f16.ag h1) (λ q=>h8 q),(h2.ag f16).ao f7 (λ q=>h6 q),Gq,h4,h5,h6,h7,h8⟩,hm⟩,f17⟩
def C232 (p0:Int)(p1:Bool)(w:ah)(K:aP):Prop:=
 ae (!p1)
 (K (.tuple #[aa 0,.bool false]) w)
 (ak 208 #[aa p0] w bK (λ(x1:Bool) w2=>ae (!x1)
 (K (.tuple #[aa 0,.bool false]) w2)
 (K (.tuple #[aa p0,.bool true]) w2)))
def pl232:aN:=.auto
theorem c232 (p0 p1 w K)(h:C232 p0 p1 w K):au 232 #[aa p0,.bool p1] w K:=aQ Tryz.func232 (p:=pl232) aA h
def C269 (p0:Int)(p1:Int)(w:ah)(K:aP):Prop:=
 dc (Bool×Unit) (λ J1=>ak 208 #[aa p0] w bK (λ(x4:Bool) w5=>ae x4
 (ak 208 #[aa p1] w5 bK (λ(x6:Bool) w7=>J1 (x6,()) w7))
 (J1 (false,()) w5)))
 (λ _ s2 w3=>ae (!s2.1)
 (K (.tuple #[aa 0,.bool false]) w3)
 (ak 232 #[aa (IntKind.i64.wrap (p0+p1)),.bool s2.1] w3 (.bR [.one (.int .i64),.one .bool]) (λ(x8:Int×Bool×Unit) w9=>K (.tuple #[aa x8.1,.bool x8.2.1]) w9)))
def pl269:aN:=(.seq .auto (.join [(6,.one .bool)] .auto .auto))
theorem c269 (p0 p1 w K)(h:C269 p0 p1 w K):au 269 #[aa p0,aa p1] w K:=aQ Tryz.func269 (p:=pl269) aA h
def C231 (p0:Int)(w:ah)(K:aP):Prop:=
 K (aa (if IntKind.i64.wrap (0 - p0) > p0 then IntKind.i64.wrap (0 - p0) else p0)) w
def pl231:aN:=.auto
theorem c231 (p0 w K)(h:C231 p0 w K):au 231 #[aa p0] w K:=aQ Tryz.func231 (p:=pl231) aA h
def C203 (p0:Int)(p1:Int)(w:ah)(K:aP):Prop:=
 dc (Bool×Unit) (λ J1=>ak 208 #[aa p0] w bK (λ(x4:Bool) w5=>ae (!x4)
 (J1 (true,()) w5)
 (ak 208 #[aa p1] w5 bK (λ(x6:Bool) w7=>ae (!x6)
 (J1 (true,()) w7)
 (ae (p1 != 0)
 (ak 231 #[aa p0] w7 bN (λ(x8:Int) w9=>ak 231 #[aa p1] w9 bN (λ(bG:Int) bt=>y9 bG (J1 (decide (x8 > (IntKind.i64.wrap (Int.tdiv 1000000000000 bG))),()) bt))))
 (J1 (false,()) w7))))))
 (λ _ s2 w3=>ae s2.1
 (K (.tuple #[aa 0,.bool false]) w3)
 (ak 232 #[aa (IntKind.i64.wrap (p0 * p1)),.bool true] w3 (.bR [.one (.int .i64),.one .bool]) (λ(cn:Int×Bool×Unit) bM=>K (.tuple #[aa cn.1,.bool cn.2.1]) bM)))
def pl203:aN:=(.seq .auto (.seq (.join [(25,.one .bool)] .auto .auto) .auto))
theorem c203 (p0 p1 w K)(h:C203 p0 p1 w K):au 203 #[aa p0,aa p1] w K:=aQ Tryz.func203 (p:=pl203) aA h
def C272 (p0:Int)(w:ah)(K:aP):Prop:=
 ak 208 #[aa p0] w bK (λ(x1:Bool) w2=>ae (!x1)
 (K (.tuple #[aa 0,.bool false]) w2)
 (K (.tuple #[aa (IntKind.i64.wrap (0 - p0)),.bool true]) w2))
def pl272:aN:=.auto
theorem c272 (p0 w K)(h:C272 p0 w K):au 272 #[aa p0] w K:=aQ Tryz.func272 (p:=pl272) aA h
def C271 (p0:Int)(p1:Bool)(w:ah)(K:aP):Prop:=
 aC (.cells #[aa 0,.bool false] 391) w (λ g1 w2=>ae (!p1)
 (aG (ad g1) [aa 0,.bool false] w2 (λ w3=>aF [.int .i64,.bool] (ad g1) w3 (λ(x4:Int×Bool×Unit)=>K (.tuple #[.agg #[aa x4.1,.bool x4.2.1],aa 6]) w3)))
 (aG (ad g1) [aa p0,.bool true] w2 (λ w5=>aF [.int .i64,.bool] (ad g1) w5 (λ(x6:Int×Bool×Unit)=>K (.tuple #[.agg #[aa x6.1,.bool x6.2.1],aa 0]) w5))))
def pl271:aN:=.auto
theorem c271 (p0 p1 w K)(h:C271 p0 p1 w K):au 271 #[aa p0,.bool p1] w K:=aQ Tryz.func271 (p:=pl271) aA h
def C268 (p0:av)(p1:av)(p2:Int)(p3:Addr)(p4:av)(w:ah)(K:aP):Prop:=
 aC (.cells #[aa 0,.bool false] 391) w (λ g1 w2=>ak 247 #[p0,aa p2,aI p3] w2 (.bR [.agg [.int .i64,.bool],.one (.int .i64)]) (λ(x3:(Int×Bool×Unit)×Int×Unit) w4=>aC (.cells #[aa 0,.bool false] 391) w4 (λ g5 w6=>aG (ad g5) [aa x3.1.1,.bool x3.1.2.1] w6 (λ w7=>ae (x3.2.1 != 0)
 (aG (ad g1) [aa 0,.bool false] w7 (λ w8=>aF [.int .i64,.bool] (ad g1) w8 (λ(x9:Int×Bool×Unit)=>K (.tuple #[.agg #[aa x9.1,.bool x9.2.1],aa x3.2.1]) w8)))
 (ak 247 #[p1,aa p2,aI p3] w7 (.bR [.agg [.int .i64,.bool],.one (.int .i64)]) (λ(bG:(Int×Bool×Unit)×Int×Unit) bt=>aC (.cells #[aa 0,.bool false] 391) bt (λ g12 bM=>aG (ad g12) [aa bG.1.1,.bool bG.1.2.1] bM (λ bY=>ae (bG.2.1 != 0)
 (aG (ad g1) [aa 0,.bool false] bY (λ cB=>aF [.int .i64,.bool] (ad g1) cB (λ(bP:Int×Bool×Unit)=>K (.tuple #[.agg #[aa bP.1,.bool bP.2.1],aa bG.2.1]) cB)))
 (af .bool ((ad g5).add 1) bY (λ(bZ:Bool)=>ae (!bZ)
 (aG (ad g1) [aa 0,.bool false] bY (λ b9=>aF [.int .i64,.bool] (ad g1) b9 (λ(cJ:Int×Bool×Unit)=>K (.tuple #[.agg #[aa cJ.1,.bool cJ.2.1],aa bG.2.1]) b9)))
 (af .bool ((ad g12).add 1) bY (λ(dE:Bool)=>ae (!dE)
 (aG (ad g1) [aa 0,.bool false] bY (λ cr=>aF [.int .i64,.bool] (ad g1) cr (λ(cW:Int×Bool×Unit)=>K (.tuple #[.agg #[aa cW.1,.bool cW.2.1],aa bG.2.1]) cr)))
 (af (.int .i64) ((ad g5).add 0) bY (λ(eB:Int)=>af (.int .i64) ((ad g12).add 0) bY (λ(dr:Int)=>nH Tryz.prog p4 [aa eB,aa dr] (.bR [.one (.int .i64),.one .bool]) bY (λ(cR:Int×Bool×Unit) de=>ak 271 #[aa cR.1,.bool cR.2.1] de (.bR [.agg [.int .i64,.bool],.one (.int .i64)]) (λ(eD:(Int×Bool×Unit)×Int×Unit) cS=>aG (ad g1) [aa eD.1.1,.bool eD.1.2.1] cS (λ gr=>aF [.int .i64,.bool] (ad g1) gr (λ(gB:Int×Bool×Unit)=>K (.tuple #[.agg #[aa gB.1,.bool gB.2.1],aa eD.2.1]) gr)))))))))))))))))))
def pl268:aN:=.auto
theorem c268 (p0 p1 p2 p3 p4 w K)(h:C268 p0 p1 p2 p3 p4 w K):au 268 #[p0,p1,aa p2,aI p3,p4] w K:=aQ Tryz.func268 (p:=pl268) aA h
def C270 (p0:Int)(p1:Int)(w:ah)(K:aP):Prop:=
 K (.tuple #[aa (if p1 > p0 then p1 else p0),.bool true]) w
def pl270:aN:=.auto
theorem c270 (p0 p1 w K)(h:C270 p0 p1 w K):au 270 #[aa p0,aa p1] w K:=aQ Tryz.func270 (p:=pl270) aA h
def C247 (p0:av)(p1:Int)(p2:Addr)(w:ah)(K:aP):Prop:=
 aC (.cells #[aa 0,.bool false] 391) w (λ g1 w2=>aD p0 241 (.agg [.int .i64]) (λ(x3:Int×Unit)=>aC (.cells #[aa 0] 241) w2 (λ g4 w5=>aG (ad g4) [aa x3.1] w5 (λ w6=>af (.int .i64) ((ad g4).add 0) w6 (λ(x7:Int)=>aG (ad g1) [aa x7,.bool true] w6 (λ w8=>aF [.int .i64,.bool] (ad g1) w8 (λ(x9:Int×Bool×Unit)=>K (.tuple #[.agg #[aa x9.1,.bool x9.2.1],aa 0]) w8))))))
 (aD p0 243 (.agg [.str]) (λ(bG:ay×Unit)=>aC (.cells #[aj] 243) w2 (λ g11 br=>aG (ad g11) [.string bG.1] br (λ bM=>af .str ((ad g11).add 0) bM (λ(cj:ay)=>ak 250 #[aI p2,.string cj,aa p1] bM (.bR [.one (.int .i64),.one .bool]) (λ(cm:Int×Bool×Unit) bV=>aG (ad g1) [aa cm.1,.bool cm.2.1] bV (λ da=>aF [.int .i64,.bool] (ad g1) da (λ(cF:Int×Bool×Unit)=>K (.tuple #[.agg #[aa cF.1,.bool cF.2.1],aa 0]) da)))))))
 (aD p0 245 (.agg [.raw,.raw]) (λ(cJ:av×av×Unit)=>aC (.cells #[.nilIface,.nilIface] 245) w2 (λ g20 cr=>aG (ad g20) [cJ.1,cJ.2.1] cr (λ cH=>af .raw ((ad g20).add 0) cH (λ(eB:av)=>af .raw ((ad g20).add 1) cH (λ(dr:av)=>ak 268 #[eB,dr,aa p1,aI p2,.func (.func 269) #[] #[]] cH (.bR [.agg [.int .i64,.bool],.one (.int .i64)]) (λ(cR:(Int×Bool×Unit)×Int×Unit) de=>aG (ad g1) [aa cR.1.1,.bool cR.1.2.1] de (λ gD=>aF [.int .i64,.bool] (ad g1) gD (λ(ji:Int×Bool×Unit)=>K (.tuple #[.agg #[aa ji.1,.bool ji.2.1],aa cR.2.1]) gD))))))))
 (aD p0 248 (.agg [.raw,.raw]) (λ(eQ:av×av×Unit)=>aC (.cells #[.nilIface,.nilIface] 248) w2 (λ v8 gZ=>aG (ad v8) [eQ.1,eQ.2.1] gZ (λ dQ=>af .raw ((ad v8).add 0) dQ (λ(fk:av)=>af .raw ((ad v8).add 1) dQ (λ(fD:av)=>ak 268 #[fk,fD,aa p1,aI p2,.func (.func 203) #[] #[]] dQ (.bR [.agg [.int .i64,.bool],.one (.int .i64)]) (λ(eY:(Int×Bool×Unit)×Int×Unit) dW=>aG (ad g1) [aa eY.1.1,.bool eY.1.2.1] dW (λ fI=>aF [.int .i64,.bool] (ad g1) fI (λ(gn:Int×Bool×Unit)=>K (.tuple #[.agg #[aa gn.1,.bool gn.2.1],aa eY.2.1]) fI))))))))
 (aD p0 249 (.agg [.raw,.raw]) (λ(iT:av×av×Unit)=>aC (.cells #[.nilIface,.nilIface] 249) w2 (λ EC oB=>aG (ad EC) [iT.1,iT.2.1] oB (λ iI=>af .raw ((ad EC).add 0) iI (λ(mL:av)=>af .raw ((ad EC).add 1) iI (λ(lP:av)=>ak 268 #[mL,lP,aa p1,aI p2,.func (.func 270) #[] #[]] iI (.bR [.agg [.int .i64,.bool],.one (.int .i64)]) (λ(kZ:(Int×Bool×Unit)×Int×Unit) kf=>aG (ad g1) [aa kZ.1.1,.bool kZ.1.2.1] kf (λ jb=>aF [.int .i64,.bool] (ad g1) jb (λ(mr:Int×Bool×Unit)=>K (.tuple #[.agg #[aa mr.1,.bool mr.2.1],aa kZ.2.1]) jb))))))))
 (aD p0 247 (.agg [.raw]) (λ(iJ:av×Unit)=>ak 247 #[iJ.1,aa p1,aI p2] w2 (.bR [.agg [.int .i64,.bool],.one (.int .i64)]) (λ(jU:(Int×Bool×Unit)×Int×Unit) mO=>aC (.cells #[aa 0,.bool false] 391) mO (λ Dw rD=>aG (ad Dw) [aa jU.1.1,.bool jU.1.2.1] rD (λ kn=>ae (jU.2.1 != 0)
 (aG (ad g1) [aa 0,.bool false] kn (λ jI=>aF [.int .i64,.bool] (ad g1) jI (λ(oX:Int×Bool×Unit)=>K (.tuple #[.agg #[aa oX.1,.bool oX.2.1],aa jU.2.1]) jI)))
 (af .bool ((ad Dw).add 1) kn (λ(uU:Bool)=>ae (!uU)
 (aG (ad g1) [aa 0,.bool false] kn (λ xS=>aF [.int .i64,.bool] (ad g1) xS (λ(zQ:Int×Bool×Unit)=>K (.tuple #[.agg #[aa zQ.1,.bool zQ.2.1],aa jU.2.1]) xS)))
 (af (.int .i64) ((ad Dw).add 0) kn (λ(ry:Int)=>ak 272 #[aa ry] kn (.bR [.one (.int .i64),.one .bool]) (λ(vl:Int×Bool×Unit) lT=>ak 271 #[aa vl.1,.bool vl.2.1] lT (.bR [.agg [.int .i64,.bool],.one (.int .i64)]) (λ(uV:(Int×Bool×Unit)×Int×Unit) lQ=>aG (ad g1) [aa uV.1.1,.bool uV.1.2.1] lQ (λ Gr=>aF [.int .i64,.bool] (ad g1) Gr (λ(x0:Int×Bool×Unit)=>K (.tuple #[.agg #[aa x0.1,.bool x0.2.1],aa uV.2.1]) Gr)))))))))))) False))))))
def pl247:aN:=.auto
theorem c247 (p0 p1 p2 w K)(h:C247 p0 p1 p2 w K):au 247 #[p0,aa p1,aI p2] w K:=aQ Tryz.func247 (p:=pl247) aA h
def C228 (p0:av)(p1:Int)(p2:Addr)(w:ah)(K:aP):Prop:=
 ak 196 #[p0] w bN (λ(x1:Int) w2=>ae (x1 != 0)
 (K (.tuple #[aa 0,.bool false,aa 2]) w2)
 (ak 247 #[p0,aa p1,aI p2] w2 (.bR [.agg [.int .i64,.bool],.one (.int .i64)]) (λ(x3:(Int×Bool×Unit)×Int×Unit) w4=>aC (.cells #[aa 0,.bool false] 391) w4 (λ g5 w6=>aG (ad g5) [aa x3.1.1,.bool x3.1.2.1] w6 (λ w7=>aU w7 (λ w8=>af (.int .i64) ((ad g5).add 0) w8 (λ(x9:Int)=>af .bool ((ad g5).add 1) w8 (λ(bG:Bool)=>K (.tuple #[aa x9,.bool bG,aa x3.2.1]) w8))))))))
def pl228:aN:=(.seq .auto (.seq .auto (.seq .auto (.seq .still .auto))))
theorem c228 (p0 p1 p2 w K)(h:C228 p0 p1 p2 w K):au 228 #[p0,aa p1,aI p2] w K:=aQ Tryz.func228 (p:=pl228) aA h
def C230 (p0:av)(p1:Int)(p2:Addr)(w:ah)(K:aP):Prop:=
 ak 196 #[p0] w bN (λ(x1:Int) w2=>ae (x1 != 0)
 (K (.slice none 0 0) w2)
 (ak 249 #[p0] w2 aM (λ(x3:aB) w4=>cp (aB×Int×Unit) (λ _ s5 w6 xW=>ae (decide (s5.2.1<(x3.2.1:Int)))
 (cz x3.1 x3.2.1 s5.2.1 1 (λ a8=>af .str a8 w6 (λ(x9:ay)=>ak 250 #[aI p2,.string x9,aa p1] w6 (.bR [.one (.int .i64),.one .bool]) (λ(bG:Int×Bool×Unit) bt=>ae (!bG.2.1)
 (aT (Instr.buildSlice 56 1 #[(0,.string x9)]) bt aM (λ(cn:aB) bM=>aT (Builtin.append_ #[56,56] 56 #[.slice s5.1.1 s5.1.2.1 s5.1.2.2,aO cn]) bM aM (λ(cj:aB) cB=>xW ((cj.1,cj.2.1,cj.2.2),IntKind.i64.wrap (s5.2.1+1),()) cB)))
 (xW ((s5.1.1,s5.1.2.1,s5.1.2.2),IntKind.i64.wrap (s5.2.1+1),()) bt)))))
 (K (.slice s5.1.1 s5.1.2.1 s5.1.2.2) w6))
 ((none,0,0),0,()) w4)))
def pl230:aN:=(.seq .auto (.seq .auto (.seq .auto (.seq (.seq .auto (.block (.loop [(7,.one .bE),(18,.one (.int .i64))] .auto))) .auto))))
theorem c230 (p0 p1 p2 w K)(h:C230 p0 p1 p2 w K):au 230 #[p0,aa p1,aI p2] w K:=aQ Tryz.func230 (p:=pl230) aA h
def C249 (p0:av)(w:ah)(K:aP):Prop:=
 aD p0 243 (.agg [.str]) (λ(x1:ay×Unit)=>aC (.cells #[aj] 243) w (λ g2 w3=>aG (ad g2) [.string x1.1] w3 (λ w4=>af .str ((ad g2).add 0) w4 (λ(x5:ay)=>aT (Instr.buildSlice 56 1 #[(0,.string x5)]) w4 aM (λ(x6:aB) w7=>K (aO x6) w7)))))
 (aC (.cells #[aj] 243) w (λ g8 w9=>aG (ad g8) [aj] w9 (λ aX=>ak 227 #[p0] aX aM (λ(bQ:aB) br=>cp (aB×Int×Unit) (λ _ mN bY HJ=>ae (decide (mN.2.1<(bQ.2.1:Int)))
 (cz bQ.1 bQ.2.1 mN.2.1 1 (λ zL=>af .raw zL bY (λ(bZ:av)=>ak 249 #[bZ] bY aM (λ(cF:aB) ct=>cp (aB×Int×Unit) (λ _ ph cr Wi=>ae (decide (ph.2.1<(cF.2.1:Int)))
 (cz cF.1 cF.2.1 ph.2.1 1 (λ a23=>af .str a23 cr (λ(dr:ay)=>ak 158 #[.slice ph.1.1 ph.1.2.1 ph.1.2.2,.string dr] cr bK (λ(cR:Bool) de=>ae (!cR)
 (aT (Instr.buildSlice 56 1 #[(0,.string dr)]) de aM (λ(eD:aB) cS=>aT (Builtin.append_ #[56,56] 56 #[.slice ph.1.1 ph.1.2.1 ph.1.2.2,aO eD]) cS aM (λ(eQ:aB) cN=>Wi ((eQ.1,eQ.2.1,eQ.2.2),IntKind.i64.wrap (ph.2.1+1),()) cN)))
 (Wi ((ph.1.1,ph.1.2.1,ph.1.2.2),IntKind.i64.wrap (ph.2.1+1),()) de)))))
 (HJ ((ph.1.1,ph.1.2.1,ph.1.2.2),IntKind.i64.wrap (mN.2.1+1),()) cr))
 ((mN.1.1,mN.1.2.1,mN.1.2.2),0,()) ct))))
 (K (.slice mN.1.1 mN.1.2.1 mN.1.2.2) bY))
 ((none,0,0),0,()) br))))
def pl249:aN:=(.seq .auto (.seq .auto (.seq .auto (.seq (.seq .auto (.block (.loop [(3,.one .bE),(22,.one (.int .i64))] (.seq .auto (.seq .auto (.seq (.block (.seq .auto (.seq .auto (.block (.loop [(3,.one .bE),(29,.one (.int .i64))] .auto))))) .auto)))))) .auto))))
theorem c249 (p0 w K)(h:C249 p0 w K):au 249 #[p0] w K:=aQ Tryz.func249 (p:=pl249) aA h
theorem Wj (n:Int)(ok:Bool)(w:ah):au 232 #[aa n,.bool ok] w λ r w'=>r=.tuple #[aa (if ok&&dI n then n else 0),.bool (ok&&dI n)]/\w=w':=by
 refine c232 n ok w _ ?_;refine ae.not (ae.by (λ h=>?_) (λ h=>?_))
 ·subst h
  refine an.of (vY n w) ?_;rintro _ _ ⟨rfl,rfl⟩;refine⟨_,rfl,ae.not (ae.by (λ h=>?_) (λ h=>?_))⟩
  ·rw[h];exact⟨rfl,rfl⟩
  ·rw[h];exact⟨rfl,rfl⟩
 ·subst h;exact⟨rfl,rfl⟩
theorem afr (a b:Int)(w:ah):au 269 #[aa a,aa b] w λ r w'=>r=.tuple #[aa (Ar a b).1,.bool (Ar a b).2]/\w=w':=by
 refine c269 a b w _ ?_;refine dc.of (λ s w'=>s.1=(dI a&&dI b)/\w=w') ?_ ?_
 ·refine an.of (vY a w) ?_
  rintro _ _ ⟨rfl,rfl⟩;refine⟨_,rfl,ae.by (λ h=>?_) (λ h=>⟨by rw[h];rfl,rfl⟩)⟩;refine an.of (vY b w) ?_;rintro _ _ ⟨rfl,rfl⟩;exact⟨_,rfl,by rw[h];rfl,rfl⟩
 rintro _ ⟨s,_⟩ _ ⟨hs,rfl⟩;dsimp only at hs ⊢;subst hs;unfold Ar;refine ae.not (ae.by (λ h=>?_) (λ h=>?_))
 ·have h2:=h
  rw[dp,vo,vo] at h2;rw[h,wI (x:=a+b) ab ab];refine an.of (Wj (a+b) true w) ?_;rintro _ _ ⟨rfl,rfl⟩;refine⟨(if true&&dI (a+b) then a+b else 0,true&&dI (a+b),()),rfl,?_,rfl⟩;cases dI (a+b)<;>rfl
 ·rw[h];exact⟨rfl,rfl⟩
theorem afs {a b A B:Int}(hA:A=a/\0<=a\/A=-a/\a<=0)(hB:B=b/\0<=b\/B=-b/\b<=0):(A * B=a * b\/A * B=-(a * b))/\0<=A * B:=by
 have h0:0<=A:=ab;have h1:0<=B:=ab;refine⟨?_,Int.mul_nonneg h0 h1⟩
 rcases hA with⟨rfl,_⟩ | ⟨rfl,_⟩<;>rcases hB with⟨rfl,_⟩ | ⟨rfl,_⟩
 ·exact .inl rfl
 ·exact .inr (Int.mul_neg _ _)
 ·exact .inr (Int.neg_mul _ _)
 ·exact .inl (Int.neg_mul_neg _ _)
theorem Wk (a:Int)(h:dI a=true)(w:ah):au 231 #[aa a] w λ r w'=>∃ A,r=aa A/\(A=a/\0<=a\/A=-a/\a<=0)/\w=w':=by
 rw[vo] at h;refine c231 a w _ ?_;unfold C231;rw[wI (x:=0 - a) ab ab];refine⟨_,rfl,?_,rfl⟩;split<;>omega
theorem Wl (a b:Int)(w:ah):au 203 #[aa a,aa b] w λ r w'=>r=.tuple #[aa (nZ a b).1,.bool (nZ a b).2]/\w=w':=by
 refine c203 a b w _ ?_;refine dc.of (λ s w'=>s.1=!((dI a&&dI b)&&dI (a * b))/\w=w') ?_ ?_
 ·refine an.of (vY a w) ?_
  rintro _ _ ⟨rfl,rfl⟩;refine⟨_,rfl,ae.not (ae.by (λ ha=>?_) (λ ha=>⟨by rw[ha];rfl,rfl⟩))⟩;refine an.of (vY b w) ?_;rintro _ _ ⟨rfl,rfl⟩;refine⟨_,rfl,ae.not (ae.by (λ hb=>?_) (λ hb=>⟨by rw[ha,hb];rfl,rfl⟩))⟩;refine ae.ne (λ aL=>?_) (λ he=>⟨by rw[ha,hb,he,Int.mul_zero];rfl,rfl⟩);refine an.of (Wk a ha w) ?_;rintro _ _ ⟨A,rfl,hA,rfl⟩;refine⟨A,rfl,?_⟩;refine an.of (Wk b hb w) ?_;rintro _ _ ⟨B,rfl,hB,rfl⟩;refine⟨B,rfl,⟨by omega,?_,rfl⟩⟩;have hB0:0<B:=ab;have hd:Int.tdiv 1000000000000 B=1000000000000 / B:=Int.tdiv_eq_ediv_of_nonneg ar;have Ap:0<=1000000000000 / B:=Int.ediv_nonneg ar ab;have JD:1000000000000 / B<=1000000000000:=Int.ediv_le_self _ ar;rw[ha,hb,hd,wI (x:=1000000000000 / B) ab ab];have hk:A<=1000000000000 / B↔A * B<=1000000000000:=Int.le_ediv_iff_mul_le hB0;obtain⟨m1,m2⟩:=afs hA hB;dsimp only;cases hv:dI (a * b) with
  | true=>
   rw[vo] at hv;have:A * B<=1000000000000:=ab;rw[decide_eq_false (by have:=hk.2 this;omega)];rfl
  | false=>
   have:¬ A * B<=1000000000000:=λ t=>by
    have:dI (a * b)=true:=by rw[vo];omega
    rw[this] at hv;cases hv
   rw[decide_eq_true (by have:=mt hk.1 this;omega)];rfl
 rintro _ ⟨s,_⟩ _ ⟨hs,rfl⟩;dsimp only at hs ⊢;subst hs;unfold nZ;refine ae.not (ae.by (λ h=>?_) (λ h=>?_))
 ·have h2:=h
  rw[dp,vo] at h2;rw[h,wI (x:=a * b) ab ab];refine an.of (Wj (a * b) true w) ?_;rintro _ _ ⟨rfl,rfl⟩;refine⟨(if true&&dI (a * b) then a * b else 0,true&&dI (a * b),()),rfl,?_,rfl⟩;rw[dp] at h;rw[h.2];rfl
 ·rw[h];exact⟨rfl,rfl⟩
theorem aft (a:Int)(w:ah):au 272 #[aa a] w λ r w'=>r=.tuple #[aa (if dI a then(-a,true) else((0:Int),false)).1,.bool (if dI a then(-a,true) else((0:Int),false)).2]/\w=w':=by
 refine c272 a w _ ?_;refine an.of (vY a w) ?_;rintro _ _ ⟨rfl,rfl⟩;refine⟨_,rfl,ae.not (ae.by (λ h=>?_) (λ h=>?_))⟩
 ·rw[if_pos h]
  rw[vo] at h;rw[wI (x:=0 - a) ab ab,Int.zero_sub];exact⟨rfl,rfl⟩
 ·rw[h];exact⟨rfl,rfl⟩
abbrev Wm:List Ck:=[.int .i64,.bool]
def Dx (n:Int×Bool×Int):av:=.tuple #[.agg #[aa n.1,.bool n.2.1],aa n.2.2]
theorem qh {wc:ah}{a:Int}{b:Bool}(f:Fr none1 w wc)(hg:w.heap.size<=g)(hb:wc.heap[g]? = some (.cells #[aa a,.bool b] T (0,0)))(n:Int×Bool×Int):
  aG ⟨g,0,none⟩ [aa n.1,.bool n.2.1] wc (λ w2=>aF Wm ⟨g,0,none⟩ w2 (λ(x:Int×Bool×Unit)=>(Value.tuple #[.agg #[aa x.1,.bool x.2.1],aa n.2.2])=Dx n/\Fr none1 w w2)):=
 aG.aR (cs:=[aa a,.bool b]) hb rfl rfl λ w2 ba f2 _=>aF.aR (cks:=Wm) (x:=(n.1,n.2.1,())) ba ⟨rfl,f.fresh f2 hg⟩
theorem Wn (n:Int)(ok:Bool)(w:ah):au 271 #[aa n,.bool ok] w λ r w'=>r=Dx (sU (n,ok))/\Fr none1 w w':=by
 refine c271 n ok w _ ?_;unfold C271 sU;refine aC.of λ g w1 hg hb f1 _=>ae.not (ae.by (λ h=>?_) (λ h=>?_))
 ·rw[if_pos h];exact qh f1 ab hb (n,true,0)
 ·rw[if_neg (by simp[h])];exact qh f1 ab hb (0,false,6)
theorem afu (a b:Int)(w:ah):au 270 #[aa a,aa b] w λ r w'=>r=.tuple #[aa (As a b).1,.bool (As a b).2]/\w=w':=by
 refine c270 a b w _ ?_;refine⟨?_,rfl⟩;unfold As;dsimp only
 congr 4
 rw[Int.max_def];split<;>split<;>omega
theorem afv (d:Int)(o:Ob):eF o=true->∀ {w:ah} {F:bz} {b:Nat} {m:eH},j9 w F b m->au 247 #[o.v,aa d,aZ b] w λ r w'=>r=Dx (gz m d o)/\Fr none1 w w':=by
 have pair:∀ (l r:Ob) (fn:FuncId) (put:Int->Int->Int×Bool),(∀ (a b:Int) (w:ah) {K:Int×Bool×Unit->ah->Prop},K ((put a b).1,(put a b).2,()) w->nH Tryz.prog (.func (.func fn) #[] #[]) [aa a,aa b] (.bR [.one (.int .i64),.one .bool]) w K) ->
   (∀ {w:ah} {F:bz} {b:Nat} {m:eH},j9 w F b m->au 247 #[l.v,aa d,aZ b] w λ r w'=>r=Dx (gz m d l)/\Fr none1 w w') ->
   (∀ {w:ah} {F:bz} {b:Nat} {m:eH},j9 w F b m->au 247 #[r.v,aa d,aZ b] w λ q w'=>q=Dx (gz m d r)/\Fr none1 w w') ->
   ∀ {w:ah} {F:bz} {b:Nat} {m:eH},j9 w F b m->au 268 #[l.v,r.v,aa d,aZ b,.func (.func fn) #[] #[]] w λ q w'=>q=Dx (E0 (gz m d l) (gz m d r) put)/\Fr none1 w w':=by
  intro l r fn put afw hl hr w F b m h;refine c268 l.v r.v d _ _ w _ ?_;unfold C268 E0;refine aC.of λ g w1 hg hb f1 _=>?_;refine an.of (hl (h.ag f1)) ?_;rintro _ w2 ⟨rfl,f2⟩;generalize gz m d l=X;refine⟨((X.1,X.2.1,()),X.2.2,()),rfl,?_⟩;refine dO (zs:=[aa 0,.bool false]) (vs:=[aa X.1,.bool X.2.1]) rfl rfl λ g5 w3 CF dN f3=>?_;have f13:=f2.trans f3;have F3:=f1.trans f13;refine ae.ne (λ aL=>?_) (λ he=>?_)
  ·rw[if_pos aL];exact qh F3 ab (f13.ag hb) (0,false,X.2.2)
  rw[if_neg (λ t=>t he)];refine an.of (hr (h.ag F3)) ?_;rintro _ w4 ⟨rfl,f4⟩;generalize gz m d r=Y;refine⟨((Y.1,Y.2.1,()),Y.2.2,()),rfl,?_⟩;refine dO (zs:=[aa 0,.bool false]) (vs:=[aa Y.1,.bool Y.2.1]) rfl rfl λ g12 w5 aiD Wo f5=>?_;have f35:=f4.trans f5;have F5:=F3.trans f35;have aE:=f35.ag (f13.ag hb);refine ae.ne (λ aL=>?_) (λ mW=>?_)
  ·rw[if_pos (.inl aL)];exact qh F5 ab aE (0,false,Y.2.2)
  refine af.aw (f35.ag dN) (x:=X.2.1) rfl (ae.not (ae.by (λ hx=>?_) (λ hx=>?_)))
  rotate_left
  ·rw[if_pos (.inr (.inl hx))];exact qh F5 ab aE (0,false,Y.2.2)
  refine af.aw Wo (x:=Y.2.1) rfl (ae.not (ae.by (λ hy=>?_) (λ hy=>?_)))
  rotate_left
  ·rw[if_pos (.inr (.inr hy))];exact qh F5 ab aE (0,false,Y.2.2)
  have mW:Y.2.2=0:=mW;have hx:X.2.1=true:=hx;have hy:Y.2.1=true:=hy;rw[if_neg (by rintro(t | t | t)<;>simp_all)]
  refine af.aw (f35.ag dN) (x:=X.1) rfl (af.aw Wo (x:=Y.1) rfl (afw X.1 Y.1 w5 ?_));refine an.of (Wn _ _ w5) ?_;rintro _ w6 ⟨rfl,f6⟩;refine⟨(((sU (put X.1 Y.1)).1,(sU (put X.1 Y.1)).2.1,()),(sU (put X.1 Y.1)).2.2,()),rfl,?_⟩;exact qh (F5.trans f6) ab (f6.ag aE) (sU (put X.1 Y.1))
 induction o with
 | none=>intro h;cases h
 | const n=>
  intro _ w F b m h;refine c247 _ d _ w _ ?_;unfold C247;refine aC.of λ g w1 hg hb f1 _=>aD.hit (n,()) rfl (dO (zs:=[aa 0]) (vs:=[aa n]) rfl rfl λ g4 w2 _ ba f2=>af.aw ba (x:=n) rfl ?_);exact qh (f1.trans f2) ab (f2.ag hb) (n,true,0)
 | fix s=>
  intro _ w F b m h;refine c247 _ d _ w _ ?_;unfold C247;refine aC.of λ g w1 hg hb f1 _=>aD.bn rfl ar (aD.hit (str s,()) rfl (dO (zs:=[aj]) (vs:=[.string (str s)]) rfl rfl λ g4 w2 _ ba f2=>af.aw ba (x:=str s) rfl ?_));refine an.of (Wg (h.ag (f1.trans f2)) s d) ?_;rintro _ _ ⟨rfl,rfl⟩;refine⟨((cg (s,d) m.fx).getD 0,(cg (s,d) m.fx).isSome,()),rfl,?_⟩;have e:gz m d (.fix s)=((cg (s,d) m.fx).getD 0,(cg (s,d) m.fx).isSome,0):=by
   unfold gz;cases cg (s,d) m.fx<;>rfl
  rw[e];exact qh (f1.trans f2) ab (f2.ag hb) ((cg (s,d) m.fx).getD 0,(cg (s,d) m.fx).isSome,0)
 | add l r a b=>
  intro hf w F b' m h;unfold eF at hf;rw[dp] at hf;refine c247 _ d _ w _ ?_;unfold C247;refine aC.of λ g w1 hg hb f1 _=>aD.bn rfl ar (aD.bn rfl ar (aD.hit (l.v,r.v,()) rfl (dO (zs:=[.nilIface,.nilIface]) (vs:=[l.v,r.v]) rfl (by simp[Ob.cU]) λ g4 w2 _ ba f2=>af.aw (c:=.raw) ba (x:=l.v) rfl (af.aw (c:=.raw) ba (x:=r.v) rfl ?_))));refine an.of (pair l r _ Ar (λ x y w K k=>pC aA Tryz.func269 aA ((afr x y w).mono λ v w' ⟨e,e2⟩=>⟨((Ar x y).1,(Ar x y).2,()),e,e2 ▸ k⟩)) (a hf.1) (b hf.2) (h.ag (f1.trans f2))) ?_;rintro _ w3 ⟨rfl,f3⟩;refine⟨(((gz m d (.add l r)).1,(gz m d (.add l r)).2.1,()),(gz m d (.add l r)).2.2,()),rfl,?_⟩;exact qh ((f1.trans f2).trans f3) ab ((f2.trans f3).ag hb) (gz m d (.add l r))
 | mul l r a b=>
  intro hf w F b' m h;unfold eF at hf;rw[dp] at hf;refine c247 _ d _ w _ ?_;unfold C247;refine aC.of λ g w1 hg hb f1 _=>aD.bn rfl ar (aD.bn rfl ar (aD.bn rfl ar (aD.hit (l.v,r.v,()) rfl (dO (zs:=[.nilIface,.nilIface]) (vs:=[l.v,r.v]) rfl (by simp[Ob.cU]) λ g4 w2 _ ba f2=>af.aw (c:=.raw) ba (x:=l.v) rfl (af.aw (c:=.raw) ba (x:=r.v) rfl ?_)))));refine an.of (pair l r _ nZ (λ x y w K k=>pC aA Tryz.func203 aA ((Wl x y w).mono λ v w' ⟨e,e2⟩=>⟨((nZ x y).1,(nZ x y).2,()),e,e2 ▸ k⟩)) (a hf.1) (b hf.2) (h.ag (f1.trans f2))) ?_;rintro _ w3 ⟨rfl,f3⟩;refine⟨(((gz m d (.mul l r)).1,(gz m d (.mul l r)).2.1,()),(gz m d (.mul l r)).2.2,()),rfl,?_⟩;exact qh ((f1.trans f2).trans f3) ab ((f2.trans f3).ag hb) (gz m d (.mul l r))
 | max l r a b=>
  intro hf w F b' m h;unfold eF at hf;rw[dp] at hf;refine c247 _ d _ w _ ?_;unfold C247;refine aC.of λ g w1 hg hb f1 _=>aD.bn rfl ar (aD.bn rfl ar (aD.bn rfl ar (aD.bn rfl ar (aD.hit (l.v,r.v,()) rfl (dO (zs:=[.nilIface,.nilIface]) (vs:=[l.v,r.v]) rfl (by simp[Ob.cU]) λ g4 w2 _ ba f2=>af.aw (c:=.raw) ba (x:=l.v) rfl (af.aw (c:=.raw) ba (x:=r.v) rfl ?_))))));refine an.of (pair l r _ As (λ x y w K k=>pC aA Tryz.func270 aA ((afu x y w).mono λ v w' ⟨e,e2⟩=>⟨((As x y).1,(As x y).2,()),e,e2 ▸ k⟩)) (a hf.1) (b hf.2) (h.ag (f1.trans f2))) ?_;rintro _ w3 ⟨rfl,f3⟩;refine⟨(((gz m d (.max l r)).1,(gz m d (.max l r)).2.1,()),(gz m d (.max l r)).2.2,()),rfl,?_⟩;exact qh ((f1.trans f2).trans f3) ab ((f2.trans f3).ag hb) (gz m d (.max l r))
 | neg o ih=>
  intro hf w F b' m h;refine c247 _ d _ w _ ?_;unfold C247;refine aC.of λ g w1 hg hb f1 _=>aD.bn rfl ar (aD.bn rfl ar (aD.bn rfl ar (aD.bn rfl ar (aD.bn rfl ar (aD.hit (o.v,()) rfl ?_)))));refine an.of (ih hf (h.ag f1)) ?_;rintro _ w2 ⟨rfl,f2⟩;have e:gz m d (.neg o)=Mw (gz m d o):=rfl;rw[e];generalize gz m d o=X;refine⟨((X.1,X.2.1,()),X.2.2,()),rfl,?_⟩;unfold Mw;refine dO (zs:=[aa 0,.bool false]) (vs:=[aa X.1,.bool X.2.1]) rfl rfl λ g5 w3 CF dN f3=>?_;have F3:=(f1.trans f2).trans f3;have aE:=(f2.trans f3).ag hb;refine ae.ne (λ aL=>?_) (λ he=>?_)
  ·rw[if_pos (.inl aL)];exact qh F3 ab aE (0,false,X.2.2)
  refine af.aw dN (x:=X.2.1) rfl (ae.not (ae.by (λ hx=>?_) (λ hx=>?_)))
  rotate_left
  ·rw[if_pos (.inr hx)];exact qh F3 ab aE (0,false,X.2.2)
  have he:X.2.2=0:=he;have hx:X.2.1=true:=hx;rw[if_neg (by rintro(t | t)<;>simp_all)]
  refine af.aw dN (x:=X.1) rfl ?_;refine an.of (aft X.1 w3) ?_;rintro _ _ ⟨rfl,rfl⟩;generalize(if dI X.1 then(-X.1,true) else((0:Int),false))=Z;refine⟨(Z.1,Z.2,()),rfl,?_⟩;refine an.of (Wn Z.1 Z.2 w3) ?_;rintro _ w4 ⟨rfl,f4⟩;refine⟨(((sU Z).1,(sU Z).2.1,()),(sU Z).2.2,()),rfl,?_⟩;exact qh (F3.trans f4) ab (f4.ag aE) (sU Z)
theorem afx (d:Int)(o:Ob)(hn:cv o<=1000000){w:ah}{F:bz}{b:Nat}{m:eH}(h:j9 w F b m):au 228 #[o.v,aa d,aZ b] w λ r w'=>r=.tuple #[aa (hU m d o).1,.bool (hU m d o).2.1,aa (hU m d o).2.2]/\Fr none1 w w':=by
 refine c228 _ d _ w _ ?_;unfold C228 hU;refine an.of (LH o hn w) ?_;rintro _ w1 ⟨rfl,f1⟩;refine⟨_,rfl,ae.ne (λ aL=>?_) (λ he=>?_)⟩
 ·rw[if_pos aL];exact⟨rfl,f1⟩
 rw[if_neg (λ t=>t he)];have hf:eF o=true:=by
  unfold zY at he
  by_cases hf:eF o=false
  ·rw[if_pos hf] at he;cases he
  ·simpa using hf
 refine an.of (afv d o hf (h.ag f1)) ?_;rintro _ w2 ⟨rfl,f2⟩;generalize gz m d o=X;refine⟨((X.1,X.2.1,()),X.2.2,()),rfl,?_⟩;refine dO (zs:=[aa 0,.bool false]) (vs:=[aa X.1,.bool X.2.1]) rfl rfl λ g5 w3 CF dN f3=>aU.of λ w4 _ f4=>?_;exact af.aw (f4.ag dN) (x:=X.1) rfl (af.aw (f4.ag dN) (x:=X.2.1) rfl ⟨rfl,((f1.trans f2).trans f3).trans f4⟩)
theorem Gs {α β:Type}(g:β->α->β)(l:List α)(i:Nat){x:α}(h:l[i]? = some x)(a:β):(l.take (i+1)).foldl g a=g ((l.take i).foldl g a) x:=by
 rw[oz,h,sF];rfl
theorem afy (o:List (ai))(s:ai):(jm o s).length<=o.length+1:=by unfold jm;split<;>simp
theorem vy:∀ (l o:List (ai)),(l.foldl jm o).length<=o.length+l.length
 | [],o=>by simp
 | s::l,o=>by
  have:=vy l (jm o s);have:=afy o s;rw[lO,cY];omega
theorem afz (o:Ob)(h:∀ s,o≠.fix s):dm o=(dY o).foldl (λ a k=>(dm k).foldl jm a) []:=by cases o<;>first | rfl | exact absurd rfl (h _)
theorem OI (o:Ob):(dm o).length<=cv o:=by
 induction o with
 | none=>exact eR _
 | const=>exact fj _
 | fix=>exact eR _
 | neg o ih=>have:=vy (dm o) [];simp only[dm,cv];simp only[kX] at this;omega
 | add l r a b=>have:=vy (dm r) ((dm l).foldl jm []);have:=vy (dm l) [];simp only[dm,cv];simp only[kX] at this;omega
 | mul l r a b=>have:=vy (dm r) ((dm l).foldl jm []);have:=vy (dm l) [];simp only[dm,cv];simp only[kX] at this;omega
 | max l r a b=>have:=vy (dm r) ((dm l).foldl jm []);have:=vy (dm l) [];simp only[dm,cv];simp only[kX] at this;omega
theorem afA (o:Ob)(i:Nat):(((dY o).take i).foldl (λ a k=>(dm k).foldl jm a) []).length<=lS (((dY o).take i).map cv):=by
 have h:∀ (l:List Ob) (a:List (ai)) (n:Nat),a.length<=n->(l.foldl (λ a k=>(dm k).foldl jm a) a).length<=(l.map cv).foldl (·+·) n:=by
  intro l
  induction l with
  | nil=>intro a n h;exact h
  | cons k l ih=>
   intro a n h;have:=vy (dm k) a;have:=OI k;refine ih _ _ ?_;show((dm k).foldl jm a).length<=n+cv k;omega
 exact h _ _ _ (eR _)
theorem Ob.afB {o:Ob}(h:∀ s,o≠.fix s){K:ay×Unit->Prop}{M:Prop}(m:M):aD o.v 243 (.agg [.str]) K M:=by
 cases o<;>first | exact aD.nil rfl m | exact absurd rfl (h _) | exact aD.bn rfl ar m
theorem Wp (o:Ob)(hn:cv o<=1000000)(w:ah):au 249 #[o.v] w λ r w'=>∃ u:Sl,r=.slice u.1 u.2.1 u.2.2/\jy w' u (dm o)/\Fr none1 w w'/\∀ k,aH u k->w.heap.size<=k:=by
 refine c249 o.v w _ ?_;have ih:∀ k∈dY o,cv k<=1000000->∀ w,au 249 #[k.v] w λ r w'=>∃ u:Sl,r=.slice u.1 u.2.1 u.2.2/\jy w' u (dm k)/\Fr none1 w w'/\∀ k,aH u k->w.heap.size<=k:=λ k hk hn w=>Wp k hn w
 by_cases h2:∃ s,o=.fix s
 ·obtain⟨s,rfl⟩:=h2
  refine aD.hit (str s,()) rfl (dO (zs:=[aj]) (vs:=[.string (str s)]) rfl rfl λ g w2 _ hb f2=>af.aw hb (x:=str s) rfl ?_);obtain⟨u,w3,hr,hu,dP,f3,uf⟩:=oT (P:=Tryz.prog) (w:=w2) Cc (sv s) rfl;exact⟨u,w3,hr,u,rfl,hu,f2.trans f3,λ k hk=>by have:=uf k hk;have:=f2.size;omega⟩
 have h2:∀ s,o≠.fix s:=λ s e=>h2 ⟨s,e⟩;refine Ob.afB h2 (pP (zs:=[aj]) rfl rfl λ w1 f1=>?_);refine an.of (Ce o w1) ?_;rintro _ w2 ⟨u,rfl,hu,f2⟩;refine⟨u,rfl,?_⟩;have dP:=hu.len;have EB:=HP o;rw[afz o h2];refine cp.of (λ s w'=>∃ i:Nat,s.2.1=i/\i<=(dY o).length/\jy w' s.1 (((dY o).take i).foldl (λ a k=>(dm k).foldl jm a) [])/\Fr none1 w w'/\oY w' u (dY o)/\(∀ k,aH s.1 k->w.heap.size<=k/\¬ aH u k)) (λ s _=>(2 - s.2.1).toNat)
  ⟨0,rfl,fj _,EE _,f1.trans f2,hu,λ k t=>(nt k t).elim⟩ ?_
 rintro _ ⟨v,i',_⟩ w3 ⟨i,hi,jV,hv,f3,nL,vf⟩;dsimp only at hi hv vf ⊢;subst hi;refine ae.dec (λ bI=>?_) (λ gk=>?_)
 rotate_left
 ·have:i=(dY o).length:=ab
  subst this;rw[qx] at hv;exact⟨v,rfl,hv,f3,λ k hk=>(vf k hk).1⟩
 have ir:i<(dY o).length:=ab;obtain⟨k,hk⟩:∃ k,(dY o)[i]? = some k:=⟨_,cV ir⟩;have rA:=mI hk;have rB:lS (((dY o).take (i+1)).map cv)<=cv o:=by
  have jQ:rz o=false:=by cases o<;>first | rfl | (simp[dY] at ir)
  have:=Rf o jQ;rw[uR];have:=Cd ((dY o).map cv) (i+1);omega
 rw[v7 _ _ _ hk,Ae] at rB;have hA:=afA o i;have aiE:=OI k;refine nL.ld hk ?_;refine an.of (ih k rA ab w3) ?_;rintro _ w4 ⟨x,rfl,hx,f4,xf⟩;refine⟨x,rfl,?_⟩;have nU:=hx.len;generalize hAe:((dY o).take i).foldl (λ a k=>(dm k).foldl jm a) []=A at hv hA;have ult:∀ b,aH u b->b<w3.heap.size:=λ b hb=>aV.lt nL hb;refine cp.of (λ s w'=>∃ j:Nat,s.2.1=j/\j<=(dm k).length/\jy w' s.1 (((dm k).take j).foldl jm A)/\Fr none1 w w'/\oY w' u (dY o)/\jy w' x (dm k)/\(∀ b,aH s.1 b->w.heap.size<=b/\¬ aH u b/\¬ aH x b)) (λ s _=>(x.2.1 - s.2.1).toNat)
  ⟨0,rfl,fj _,hv.ag f4,f3.trans f4,nL.ag f4,hx,λ b hb=>⟨(vf b hb).1,(vf b hb).2,λ t=>by have:=xf b t;have:=aV.lt hv hb;omega⟩⟩ ?_
 rintro _ ⟨v5,j',_⟩ w5 ⟨j,hj,IW,mn,f5,qE,xo,qi⟩;dsimp only at hj mn qi ⊢;subst hj;have hB:=vy ((dm k).take j) A;rw[ga] at hB;refine ae.dec (λ rR=>?_) (λ afC=>?_)
 rotate_left
 ·have:j=(dm k).length:=ab
  subst this;rw[qx] at mn;exact⟨⟨i+1,by rw[wI ab ab];omega,by omega,by rw[Gs _ _ _ hk,hAe];exact mn,f5,qE,λ b hb=>⟨(qi b hb).1,(qi b hb).2.1⟩⟩,by rw[wI ab ab];omega⟩
 have mC:j<(dm k).length:=ab;obtain⟨s,hs⟩:∃ s,(dm k)[j]? = some s:=⟨_,cV mC⟩;refine xo.ld hs ?_;refine an.of (Rv (aV.rd mn) ab s) ?_;rintro _ _ ⟨rfl,rfl⟩;have OJ:=mn.len;refine⟨_,rfl,ae.not (ae.dec (λ hm=>?_) (λ hm=>?_))⟩
 ·refine⟨⟨j+1,by rw[wI ab ab];omega,by omega,?_,f5,qE,xo,qi⟩,by rw[wI ab ab];omega⟩
  rw[Gs _ _ _ hs,jm,if_pos hm];exact mn
 ·refine K6 Cc 56 mn (sv s) rfl rfl (by rw[OJ];omega) λ y w6 hy gG f6 yf=>?_
  have lt5:∀ b,w5.heap.size<=b->w.heap.size<=b/\¬ aH u b/\¬ aH x b:=λ b hb=>⟨by have:=f5.size;omega,λ t=>by have:=aV.lt qE t;omega,λ t=>by have:=aV.lt xo t;omega⟩;refine⟨⟨j+1,by rw[wI ab ab];omega,by omega,?_,f5.comp f6 (λ b _ t=>by have:=(qi b t).1;omega),aV.ao qE f6 (λ b hb t=>(qi b t).2.1 hb),aV.ao xo f6 (λ b hb t=>(qi b t).2.2 hb),λ b hb=>?_⟩,by rw[wI ab ab];omega⟩
  ·rw[Gs _ _ _ hs,jm,if_neg hm]
   unfold jy;rw[jG];exact hy
  ·rcases yf b hb with t | t
   ·exact qi b t
   ·exact lt5 b t
termination_by SizeOf.sizeOf o
decreasing_by exact HN hk
theorem afD (d:Int)(o:Ob)(hn:cv o<=1000000){w:ah}{F:bz}{b:Nat}{m:eH}(h:j9 w F b m):au 230 #[o.v,aa d,aZ b] w λ r w'=>∃ u:Sl,r=.slice u.1 u.2.1 u.2.2/\jy w' u (qM m d o)/\Fr none1 w w'/\∀ k,aH u k->w.heap.size<=k:=by
 refine c230 o.v d _ w _ ?_;unfold C230 qM;refine an.of (LH o hn w) ?_;rintro _ w1 ⟨rfl,f1⟩;refine⟨_,rfl,ae.ne (λ aL=>?_) (λ he=>?_)⟩
 ·rw[if_pos aL];exact⟨(none,0,0),rfl,EE _,f1,λ k t=>(nt k t).elim⟩
 rw[if_neg (λ t=>t he)];refine an.of (Wp o hn w1) ?_;rintro _ w2 ⟨x,rfl,hx,f2,xf⟩;refine⟨x,rfl,?_⟩;have nU:=hx.len;have hol:=OI o;refine cp.of (λ s w'=>∃ j:Nat,s.2.1=j/\j<=(dm o).length/\jy w' s.1 (((dm o).take j).filter λ s=>(cg (s,d) m.fx).isNone)/\Fr none1 w w'/\jy w' x (dm o)/\(∀ b,aH s.1 b->w.heap.size<=b/\¬ aH x b)) (λ s _=>(x.2.1 - s.2.1).toNat)
  ⟨0,rfl,fj _,EE _,f1.trans f2,hx,λ k t=>(nt k t).elim⟩ ?_
 rintro _ ⟨v5,j',_⟩ w5 ⟨j,hj,IW,mn,f5,xo,qi⟩;dsimp only at hj mn qi ⊢;subst hj;have hB:=Ed (λ s=>(cg (s,d) m.fx).isNone) ((dm o).take j);rw[ga] at hB;have OJ:=mn.len;refine ae.dec (λ rR=>?_) (λ afC=>?_)
 rotate_left
 ·have:j=(dm o).length:=ab
  subst this;rw[qx] at mn;exact⟨v5,rfl,mn,f5,λ b hb=>(qi b hb).1⟩
 have mC:j<(dm o).length:=ab;obtain⟨s,hs⟩:∃ s,(dm o)[j]? = some s:=⟨_,cV mC⟩;refine xo.ld hs ?_;refine an.of (Wg (h.ag f5) s d) ?_;rintro _ _ ⟨rfl,rfl⟩;refine⟨((cg (s,d) m.fx).getD 0,(cg (s,d) m.fx).isSome,()),rfl,ae.not (ae.by (λ hm=>?_) (λ hm=>?_))⟩
 ·refine⟨⟨j+1,by rw[wI ab ab];omega,by omega,?_,f5,xo,qi⟩,by rw[wI ab ab];omega⟩
  have hm:(cg (s,d) m.fx).isSome=true:=hm;rw[oz,hs,List.filter_append];have:([s].filter λ s=>(cg (s,d) m.fx).isNone)=[]:=by
   cases hg:cg (s,d) m.fx with
   | none=>rw[hg] at hm;cases hm
   | some x=>simp[hg]
  simp only[B0,this,dV];exact mn
 ·have hm:(cg (s,d) m.fx).isSome=false:=hm
  refine K6 Cc 56 mn (sv s) rfl rfl (by rw[OJ];omega) λ y w6 hy gG f6 yf=>?_;refine⟨⟨j+1,by rw[wI ab ab];omega,by omega,?_,f5.comp f6 (λ b _ t=>by have:=(qi b t).1;omega),aV.ao xo f6 (λ b hb t=>(qi b t).2 hb),λ b hb=>?_⟩,by rw[wI ab ab];omega⟩
  ·have:([s].filter λ s=>(cg (s,d) m.fx).isNone)=[s]:=by
    cases hg:cg (s,d) m.fx with
    | none=>simp[hg]
    | some x=>rw[hg] at hm;cases hm
   rw[oz,hs,List.filter_append];simp only[B0,this];unfold jy;rw[jG];exact hy
  ·rcases yf b hb with t | t
   ·exact qi b t
   ·exact⟨by have:=f5.size;omega,λ q=>by have:=aV.lt xo q;omega⟩
def C229 (p0:Addr)(p1:Int)(p2:aS)(pj tk:Nat)(w:ah)(K:aP):Prop:=
 cp (Int×Unit) (λ _ s1 w2 jh=>ae (decide (s1.1<(pj:Int)))
 (cz p2 pj s1.1 1 (λ a4=>af .str a4 w2 (λ(x5:ay)=>aC (.cells #[.bool false,aj,aj,aa 0,aa 0] 122) w2 (λ g6 w7=>aG (ad g6) [.bool false,.string x5,aj,aa p1,aa 0] w7 (λ w8=>aU w8 (λ w9=>af .bE (p0.add 3) w9 (λ(bG:aB)=>aF BR (ad g6) w9 (λ(bQ:uP)=>ak 248 #[aO bG,.agg (qv bQ).toArray] w9 bK (λ(cn:Bool) bM=>ae (!cn)
 (aU bM (λ bY=>bL (λ q7=>aJ q7 (p0.add 3) (af .bE (p0.add 3) bY (λ(bP:aB)=>aJ q7 (ad g6) (aF BR (ad g6) bY (λ(bZ:uP)=>aT (Instr.buildSlice 119 1 #[(0,.agg (qv bZ).toArray)]) bY aM (λ(cF:aB) ct=>az q7 bY ct (aT (Builtin.append_ #[119,119] 119 #[aO bP,aO cF]) ct aM (λ(dE:aB) cr=>aK (p0.add 3) (aO dE) cr (λ cH=>jh (IntKind.i64.wrap (s1.1+1),()) cH)))))))))))
 (jh (IntKind.i64.wrap (s1.1+1),()) bM))))))))))
 (K (.tuple #[]) w2))
 (0,()) w
def pl229:aN:=(.seq .auto (.block (.loop [(11,.one (.int .i64))] (.seq .auto (.seq .auto (.seq (.block (.seq .auto (.seq .auto (.seq (.tail 5) (.cond (.held (.soft 0 (.soft 1 (.soft 2 (.soft 3 (.soft 4 (.soft 5 (.pick 6 (.last 7 (.soft 8 (.soft 9 (.last 10 .done)))) .stop)))))))) .auto))))) .auto))))))
theorem c229 (p0 p1 p2 pj tk w K)(h:C229 p0 p1 p2 pj tk w K):au 229 #[aI p0,aa p1,.slice p2 pj tk] w K:=aQ Tryz.func229 (p:=pl229) aA h
def C202 (p0:Addr)(p1:av)(p2:Int)(w:ah)(K:aP):Prop:=
 af .ptr (p0.add 1) w (λ(x1:aS)=>ak 228 #[p1,aa p2,.pointer x1] w (.bR [.one (.int .i64),.one .bool,.one (.int .i64)]) (λ(x2:Int×Bool×Int×Unit) w3=>ae (x2.2.2.1==0)
 (ae (!x2.2.1)
 (af .ptr (p0.add 1) w3 (λ(x4:aS)=>ak 230 #[p1,aa p2,.pointer x4] w3 aM (λ(x5:aB) w6=>ak 229 #[aI p0,aa p2,aO x5] w6 gR (λ(x7:Unit) w8=>K (.tuple #[aa x2.1,.bool x2.2.1,aa x2.2.2.1]) w8))))
 (K (.tuple #[aa x2.1,.bool x2.2.1,aa x2.2.2.1]) w3))
 (K (.tuple #[aa x2.1,.bool x2.2.1,aa x2.2.2.1]) w3)))
def pl202:aN:=.auto
theorem c202 (p0 p1 p2 w K)(h:C202 p0 p1 p2 w K):au 202 #[aI p0,p1,aa p2] w K:=aQ Tryz.func202 (p:=pl202) aA h
def C159 (p0:Addr)(p1:av)(p2:av)(p3:Int)(p4:Int)(w:ah)(K:aP):Prop:=
 ak 127 #[aI p0,p1,aa p3,aa p4] w bN (λ(x1:Int) w2=>ae (x1 != 0)
 (K (aa x1) w2)
 (ak 127 #[aI p0,p2,aa p3,aa p4] w2 bN (λ(x3:Int) w4=>K (aa x3) w4)))
def pl159:aN:=.auto
theorem c159 (p0 p1 p2 p3 p4 w K)(h:C159 p0 p1 p2 p3 p4 w K):au 159 #[aI p0,p1,p2,aa p3,aa p4] w K:=aQ Tryz.func159 (p:=pl159) aA h
def C160 (p0:Addr)(p1:av×av×Unit)(p2:Int)(p3:Int)(w:ah)(K:aP):Prop:=
 aC (.cells #[p1.1,p1.2.1] 188) w (λ g1 w2=>af .raw ((ad g1).add 0) w2 (λ(x3:av)=>ak 202 #[aI p0,x3,aa p2] w2 (.bR [.one (.int .i64),.one .bool,.one (.int .i64)]) (λ(x4:Int×Bool×Int×Unit) w5=>ae (x4.2.2.1 != 0)
 (K (aa x4.2.2.1) w5)
 (ae (!x4.2.1)
 (K (aa x4.2.2.1) w5)
 (ak 203 #[aa p3,aa x4.1] w5 (.bR [.one (.int .i64),.one .bool]) (λ(x6:Int×Bool×Unit) w7=>ae (!x6.2.1)
 (K (aa 6) w7)
 (ae (x6.1==0)
 (K (aa 0) w7)
 (af .raw ((ad g1).add 1) w7 (λ(x8:av)=>ak 127 #[aI p0,x8,aa p2,aa x6.1] w7 bN (λ(x9:Int) aX=>K (aa x9) aX))))))))))
def pl160:aN:=.auto
theorem c160 (p0 p1 p2 p3 w K)(h:C160 p0 p1 p2 p3 w K):au 160 #[aI p0,.agg #[p1.1,p1.2.1],aa p2,aa p3] w K:=aQ Tryz.func160 (p:=pl160) aA h
def C161 (p0:Addr)(p1:av×av×av×Unit)(p2:Int)(p3:Int)(w:ah)(K:aP):Prop:=
 aC (.cells #[p1.1,p1.2.1,p1.2.2.1] 192) w (λ g1 w2=>af .raw ((ad g1).add 0) w2 (λ(x3:av)=>ak 202 #[aI p0,x3,aa p2] w2 (.bR [.one (.int .i64),.one .bool,.one (.int .i64)]) (λ(x4:Int×Bool×Int×Unit) w5=>ae (x4.2.2.1 != 0)
 (K (aa x4.2.2.1) w5)
 (ae (!x4.2.1)
 (K (aa x4.2.2.1) w5)
 (ae (decide (x4.1 > 0))
 (af .raw ((ad g1).add 1) w5 (λ(x6:av)=>ak 127 #[aI p0,x6,aa p2,aa p3] w5 bN (λ(x7:Int) w8=>K (aa x7) w8)))
 (af .raw ((ad g1).add 2) w5 (λ(x9:av)=>ak 127 #[aI p0,x9,aa p2,aa p3] w5 bN (λ(bG:Int) bt=>K (aa bG) bt))))))))
def pl161:aN:=.auto
theorem c161 (p0 p1 p2 p3 w K)(h:C161 p0 p1 p2 p3 w K):au 161 #[aI p0,.agg #[p1.1,p1.2.1,p1.2.2.1],aa p2,aa p3] w K:=aQ Tryz.func161 (p:=pl161) aA h
def C162 (p0:Addr)(p1:ay×av×av×Unit)(p2:Int)(p3:Int)(w:ah)(K:aP):Prop:=
 aC (.cells #[.string p1.1,p1.2.1,p1.2.2.1] 184) w (λ g1 w2=>aU w2 (λ w3=>bL (λ S4=>aJ S4 (p0.add 1) (af .ptr (p0.add 1) w3 (λ(x5:aS)=>aJ S4 (p0.add 0) (af .str (p0.add 0) w3 (λ(x6:ay)=>aJ S4 ((ad g1).add 0) (af .str ((ad g1).add 0) w3 (λ(x7:ay)=>ak 204 #[.pointer x5,.string x6,.string x7] w3 (.bR [.one (.int .i64),.one (.int .i64),.one .bool]) (λ(x8:Int×Int×Bool×Unit) w9=>dc (Bool×Unit) (λ Bf=>ae (!x8.2.2.1)
 (Bf (decide (p3 > 0),()) w9)
 (Bf (false,()) w9))
 (λ _ Gt br=>ae Gt.1
 (aU br (λ bM=>bL (λ yP=>aJ yP (p0.add 3) (af .bE (p0.add 3) bM (λ(cm:aB)=>aJ yP ((ad g1).add 0) (af .str ((ad g1).add 0) bM (λ(bP:ay)=>aT (Instr.buildSlice 119 1 #[(0,.agg #[.bool true,aj,.string bP,aa p2,aa 0])]) bM aM (λ(bZ:aB) b9=>az yP bM b9 (aT (Builtin.append_ #[119,119] 119 #[aO cm,aO bZ]) b9 aM (λ(cJ:aB) bW=>aK (p0.add 3) (aO cJ) bW (λ cr=>K (aa 0) cr)))))))))))
 (ae (!x8.2.2.1)
 (aU br (λ cH=>bL (λ OK=>aJ OK (p0.add 3) (af .bE (p0.add 3) cH (λ(dr:aB)=>aJ OK ((ad g1).add 0) (af .str ((ad g1).add 0) cH (λ(cR:ay)=>aT (Instr.buildSlice 119 1 #[(0,.agg #[.bool true,aj,.string cR,aa p2,aa 1])]) cH aM (λ(eX:aB) gD=>az OK cH gD (aT (Builtin.append_ #[119,119] 119 #[aO dr,aO eX]) gD aM (λ(ji:aB) gr=>aK (p0.add 3) (aO ji) gr (λ cN=>K (aa 0) cN)))))))))))
 (ae (x8.1==0)
 (af .raw ((ad g1).add 1) br (λ(dt:av)=>ak 127 #[aI p0,dt,aa (if x8.2.1 > p2 then x8.2.1 else p2),aa p3] br bN (λ(gx:Int) fT=>K (aa gx) fT)))
 (af .raw ((ad g1).add 2) br (λ(fD:av)=>ak 127 #[aI p0,fD,aa (if x8.2.1 > p2 then x8.2.1 else p2),aa p3] br bN (λ(eY:Int) dW=>K (aa eY) dW))))))))))))))))
def pl162:aN:=(.seq .auto (.seq (.held (.soft 0 (.soft 1 (.soft 2 (.soft 3 (.soft 4 (.soft 5 (.soft 6 (.soft 7 (.soft 8 (.soft 9 (.last 10 (.soft 11 (.soft 12 (.soft 13 (.soft 14 (.soft 15 (.soft 16 (.soft 17 .done))))))))))))))))))) (.seq (.block (.join [(27,.one .bool)] .auto (.cond (.seq (.held (.soft 0 (.soft 1 (.soft 2 (.soft 3 (.soft 4 (.soft 5 (.soft 6 (.soft 7 (.soft 8 (.pick 9 (.last 10 (.soft 11 (.soft 12 (.last 13 .done)))) .stop))))))))))) .auto) (.seq .auto (.cond (.seq (.held (.soft 0 (.soft 1 (.soft 2 (.soft 3 (.soft 4 (.soft 5 (.soft 6 (.soft 7 (.soft 8 (.pick 9 (.last 10 (.soft 11 (.soft 12 (.last 13 .done)))) .stop))))))))))) .auto) .auto))))) .auto)))
theorem c162 (p0 p1 p2 p3 w K)(h:C162 p0 p1 p2 p3 w K):au 162 #[aI p0,.agg #[.string p1.1,p1.2.1,p1.2.2.1],aa p2,aa p3] w K:=aQ Tryz.func162 (p:=pl162) aA h
def C127 (p0:Addr)(p1:av)(p2:Int)(p3:Int)(w:ah)(K:aP):Prop:=
 aD p1 178 (.agg [.str]) (λ(x1:ay×Unit)=>aC (.cells #[aj] 178) w (λ g2 w3=>aG (ad g2) [.string x1.1] w3 (λ w4=>aU w4 (λ w5=>bL (λ S6=>aJ S6 (p0.add 2) (af .bE (p0.add 2) w5 (λ(x7:aB)=>aJ S6 ((ad g2).add 0) (af .str ((ad g2).add 0) w5 (λ(x8:ay)=>aT (Instr.buildSlice 72 1 #[(0,.agg #[aa p2,.string x8,aa p3])]) w5 aM (λ(x9:aB) aX=>az S6 w5 aX (aT (Builtin.append_ #[72,72] 72 #[aO x7,aO x9]) aX aM (λ(bQ:aB) br=>aK (p0.add 2) (aO bQ) br (λ bM=>K (aa 0) bM)))))))))))))
 (aD p1 180 (.agg [.raw]) (λ(cj:av×Unit)=>aC (.cells #[.nilIface] 180) w (λ g15 bV=>aG (ad g15) [cj.1] bV (λ da=>af .raw ((ad g15).add 0) da (λ(cF:av)=>ak 127 #[aI p0,cF,aa p2,aa (IntKind.i64.wrap (0 - p3))] da bN (λ(cJ:Int) bW=>K (aa cJ) bW)))))
 (aD p1 182 (.agg [.raw,.raw]) (λ(du:av×av×Unit)=>aC (.cells #[.nilIface,.nilIface] 182) w (λ g22 dM=>aG (ad g22) [du.1,du.2.1] dM (λ cZ=>af .raw ((ad g22).add 0) cZ (λ(cR:av)=>af .raw ((ad g22).add 1) cZ (λ(eX:av)=>ak 159 #[aI p0,cR,eX,aa p2,aa p3] cZ bN (λ(eD:Int) cS=>K (aa eD) cS))))))
 (aD p1 190 (.agg [.int .i64,.raw]) (λ(eQ:Int×av×Unit)=>aC (.cells #[aa 0,.nilIface] 190) w (λ v8 gZ=>aG (ad v8) [aa eQ.1,eQ.2.1] gZ (λ dQ=>af .raw ((ad v8).add 1) dQ (λ(fk:av)=>af (.int .i64) ((ad v8).add 0) dQ (λ(fD:Int)=>ak 127 #[aI p0,fk,aa (if fD > p2 then fD else p2),aa p3] dQ bN (λ(eY:Int) dW=>K (aa eY) dW))))))
 (aD p1 188 (.agg [.raw,.raw]) (λ(ka:av×av×Unit)=>aC (.cells #[.nilIface,.nilIface] 188) w (λ Wq gq=>aG (ad Wq) [ka.1,ka.2.1] gq (λ fw=>aF [.raw,.raw] (ad Wq) fw (λ(gC:av×av×Unit)=>ak 160 #[aI p0,.agg #[gC.1,gC.2.1],aa p2,aa p3] fw bN (λ(kY:Int) nv=>K (aa kY) nv)))))
 (aD p1 192 (.agg [.raw,.raw,.raw]) (λ(lP:av×av×av×Unit)=>aC (.cells #[.nilIface,.nilIface,.nilIface] 192) w (λ xZ kf=>aG (ad xZ) [lP.1,lP.2.1,lP.2.2.1] kf (λ jb=>aF [.raw,.raw,.raw] (ad xZ) jb (λ(mr:av×av×av×Unit)=>ak 161 #[aI p0,.agg #[mr.1,mr.2.1,mr.2.2.1],aa p2,aa p3] jb bN (λ(iJ:Int) pT=>K (aa iJ) pT)))))
 (aD p1 184 (.agg [.str,.raw,.raw]) (λ(nV:ay×av×av×Unit)=>aC (.cells #[aj,.nilIface,.nilIface] 184) w (λ Dw rD=>aG (ad Dw) [.string nV.1,nV.2.1,nV.2.2.1] rD (λ kn=>aF [.str,.raw,.raw] (ad Dw) kn (λ(Bg:ay×av×av×Unit)=>ak 162 #[aI p0,.agg #[.string Bg.1,Bg.2.1,Bg.2.2.1],aa p2,aa p3] kn bN (λ(oX:Int) rE=>K (aa oX) rE)))))
 (K (aa 0) w)))))))
def pl127:aN:=(.seq .auto (.seq (.seq .auto (.block (.seq .auto (.cond (.seq .auto (.held (.soft 0 (.soft 1 (.soft 2 (.soft 3 (.soft 4 (.soft 5 (.soft 6 (.soft 7 (.soft 8 (.soft 9 (.pick 10 (.last 11 (.soft 12 (.soft 13 (.last 14 .done)))) .stop))))))))))))) .auto)))) .auto))
theorem c127 (p0 p1 p2 p3 w K)(h:C127 p0 p1 p2 p3 w K):au 127 #[aI p0,p1,aa p2,aa p3] w K:=aQ Tryz.func127 (p:=pl127) aA h
def C87 (p0:ay)(p1:av)(p2:Int)(p3:Addr)(w:ah)(K:aP):Prop:=
 ak 126 #[p1] w bN (λ(x1:Int) w2=>ae (x1 != 0)
 (K (.tuple #[.slice none 0 0,.slice none 0 0,aa 1]) w2)
 (ae (decide (p2<0))
 (K (.tuple #[.slice none 0 0,.slice none 0 0,aa 1]) w2)
 (ae (decide (p2 > 10000))
 (K (.tuple #[.slice none 0 0,.slice none 0 0,aa 1]) w2)
 (aC (.cells #[.string p0,aI p3,.slice none 0 0,.slice none 0 0] 268) w2 (λ g3 w4=>ak 127 #[.pointer (some (ad g3)),p1,aa p2,aa 1] w4 bN (λ(x5:Int) w6=>ae (x5 != 0)
 (K (.tuple #[.slice none 0 0,.slice none 0 0,aa x5]) w6)
 (aU w6 (λ w7=>af .bE ((ad g3).add 2) w7 (λ(x8:aB)=>af .bE ((ad g3).add 3) w7 (λ(x9:aB)=>K (.tuple #[aO x8,aO x9,aa 0]) w7))))))))))
def pl87:aN:=(.seq .auto (.seq .auto (.seq .auto (.seq .auto (.seq .still .auto)))))
theorem c87 (p0 p1 p2 p3 w K)(h:C87 p0 p1 p2 p3 w K):au 87 #[.string p0,p1,aa p2,aI p3] w K:=aQ Tryz.func87 (p:=pl87) aA h
def C248 (p0:aS)(bh bC:Nat)(p1:uP)(w:ah)(K:aP):Prop:=
 aC (.cells ((qv p1).toArray) 122) w (λ g1 w2=>aF BR (ad g1) w2 (λ(x3:uP)=>ak 273 #[.slice p0 bh bC,.agg (qv x3).toArray] w2 bN (λ(x4:Int) w5=>K (.bool (decide (x4 >= 0))) w5)))
def pl248:aN:=.auto
theorem c248 (p0 bh bC p1 w K)(h:C248 p0 bh bC p1 w K):au 248 #[.slice p0 bh bC,.agg (qv p1).toArray] w K:=aQ Tryz.func248 (p:=pl248) aA h
def C273 (p0:aS)(bh bC:Nat)(p1:uP)(w:ah)(K:aP):Prop:=
 aC (.cells ((qv p1).toArray) 122) w (λ g1 w2=>cp (Int×Unit) (λ _ s3 w4 nT=>ae (decide (s3.1<(bh:Int)))
 (aU w4 (λ w6=>aF BR (ad g1) w6 (λ(x7:uP)=>cz p0 bh s3.1 5 (λ a8=>aF BR a8 w6 (λ(x9:uP)=>aT (do eqGuard .eql 122 (.tmp 11) (.tmp 15) (.agg (qv x7).toArray) (.agg (qv x9).toArray);binOp .eql 122 (.agg (qv x7).toArray) (.agg (qv x9).toArray)) w6 bK (λ(bG:Bool) bt=>ae bG
 (K (aa s3.1) bt)
 (nT (IntKind.i64.wrap (s3.1+1),()) bt)))))))
 (K (aa (-1)) w4))
 (0,()) w2)
def pl273:aN:=(.seq .auto (.seq (.seq .auto (.block (.loop [(8,.one (.int .i64))] (.seq .auto (.seq .auto (.seq (.block (.seq .auto (.seq (.tail 5) .auto))) .auto)))))) .auto))
theorem c273 (p0 bh bC p1 w K)(h:C273 p0 bh bC p1 w K):au 273 #[.slice p0 bh bC,.agg (qv p1).toArray] w K:=aQ Tryz.func273 (p:=pl273) aA h
theorem Dy {α:Type}{s:Nat}:∀ {vs:List (List α)},(∀ l∈vs,l.length=s)->vs.flatten.length=vs.length * s
 | [],_=>by simp
 | l::vs,h=>by
  rw[vV,bU,h l bm,Dy (λ x hx=>h x (by simp[hx])),cY,Nat.succ_mul];omega
theorem Dz {v:Sl}{vs:List (List av)}{s:Nat}(h:eW w s v vs.flatten)(uM:0<s)(hs:∀ l∈vs,l.length=s){cks:List Ck}{x:Cs cks}{i:Nat}(hx:vs[i]? = some (Cs.vals cks x)){K:Cs cks->Prop}(k:K x):
  cz v.1 v.2.1 (i:Int) s λ a=>aF cks a w K:=by
 have hl:=Dy hs;rw[h.1] at hl;have hl:=Nat.eq_of_mul_eq_mul_right uM hl;have hi:=(nj.1 hx).1;cases hv:v.1 with
 | none=>have:=(h.2.1 hv).1;omega
 | some p=>exact⟨p,rfl,by omega,by omega,by rw[iH];exact h.yp hs hx ab k hv⟩
theorem po {P:Program}{t E s bytes:Nat}{z:av}(he:jR P t E s z bytes)(vs:List av)(hl:vs.length=s)(hs:s<=2 ^ 24):
  ∃ (y:Sl) (w':ah),(Instr.buildSlice t 1 #[(0,.agg vs.toArray)]).run P w=.ok (.slice y.1 y.2.1 y.2.2) w'/\aV w' E s y vs/\y.2.1=1/\Fr none1 w w'/\(∀ k,aH y k->w.heap.size<=k):=by
 obtain⟨y,w',a,b,c,d⟩:=SR (w:=w) he [vs] (by simpa using hl) (by simpa using hs);rw[vV,List.flatten_nil,dV] at b;exact⟨y,w',a,b,c,d⟩
abbrev yQ:List Ck:=[.bool,.str,.str,.int .i64,.int .i64]
abbrev Wr:List Ck:=[.int .i64,.str,.int .i64]
abbrev uy (x:jn):Cs yQ:=(x.1,str x.2.1,str x.2.2.1,x.2.2.2.1,x.2.2.2.2,())
abbrev flV (x:oD):Cs Wr:=(x.1,str x.2.1,x.2.2,())
def qj (x:jn):List av:=[.bool x.1,.string (str x.2.1),.string (str x.2.2.1),aa x.2.2.2.1,aa x.2.2.2.2]
def yR (x:oD):List av:=[aa x.1,.string (str x.2.1),aa x.2.2]
def mE (l:List jn):List av:=(l.map qj).flatten
def oO (l:List oD):List av:=(l.map yR).flatten
theorem JE (l:List jn):∀ x∈l.map qj,x.length=5:=by intro x hx;obtain⟨y,_,rfl⟩:=kF.1 hx;rfl
theorem Ws (l:List oD):∀ x∈l.map yR,x.length=3:=by intro x hx;obtain⟨y,_,rfl⟩:=kF.1 hx;rfl
theorem DA (l:List jn):(mE l).length=l.length * 5:=by unfold mE;rw[Dy (JE l),eI]
theorem JF (l:List oD):(oO l).length=l.length * 3:=by unfold oO;rw[Dy (Ws l),eI]
theorem afE (l:List jn)(x:jn):mE (l++[x])=mE l++qj x:=by unfold mE;simp
theorem afF (l:List oD)(x:oD):oO (l++[x])=oO l++yR x:=by unfold oO;simp
theorem afG (l m:List jn):mE (l++m)=mE l++mE m:=by unfold mE;simp
theorem afH (l m:List oD):oO (l++m)=oO l++oO m:=by unfold oO;simp
theorem Wt (x:jn):∀ v∈qj x,cG v=true:=by intro v hv;simp[qj] at hv;rcases hv with rfl | rfl | rfl | rfl | rfl<;>rfl
theorem Wu (x:oD):∀ v∈yR x,cG v=true:=by intro v hv;simp[yR] at hv;rcases hv with rfl | rfl | rfl<;>rfl
theorem afI (l:List jn):∀ v∈mE l,cG v=true:=by intro v hv;unfold mE at hv;obtain⟨x,hx,hv⟩:=List.mem_flatten.1 hv;obtain⟨y,_,rfl⟩:=kF.1 hx;exact Wt y v hv
theorem afJ (l:List oD):∀ v∈oO l,cG v=true:=by intro v hv;unfold oO at hv;obtain⟨x,hx,hv⟩:=List.mem_flatten.1 hv;obtain⟨y,_,rfl⟩:=kF.1 hx;exact Wu y v hv
theorem OL:jR Tryz.prog 119 122 5 (.agg #[.bool false,.string ⟨#[]⟩,.string ⟨#[]⟩,aa 0,aa 0]) 56:=⟨Tryz.underlying119,⟨Tryz.t122,by kernel_rfl,rfl,rfl,rfl⟩,rfl,by decide⟩
theorem OM:jR Tryz.prog 72 203 3 (.agg #[aa 0,.string ⟨#[]⟩,aa 0]) 32:=⟨Tryz.underlying72,⟨Tryz.t203,by kernel_rfl,rfl,rfl,rfl⟩,rfl,by decide⟩
def DB (x:jn):List Pv:=[.b x.1,.s x.2.1,.s x.2.2.1,.i x.2.2.2.1,.i x.2.2.2.2]
theorem afK {x y:jn}(h:DB x=DB y):x=y:=by
 obtain⟨a,b,c,d,e⟩:=x;obtain⟨a',b',c',d',e'⟩:=y;simp only[DB,List.cons.injEq,Pv.b.injEq,Pv.s.injEq,Pv.i.injEq,and_true] at h;obtain⟨rfl,rfl,rfl,rfl,rfl⟩:=h;rfl
theorem Wv (a:jn):Bc Tryz.prog 122 (DB a):=by
 have hf:∃ fs,Tryz.prog.underlying 122=some (.struct fs)/\Tryz.prog.fieldsOf 122=fs:=by
  unfold Program.fieldsOf;rw[Tryz.underlying122];exact⟨_,rfl,rfl⟩
 refine⟨by obtain⟨fs,h1,h2⟩:=hf;rw[h1,h2],by kernel_rfl,by kernel_rfl,?_⟩;unfold Program.fieldsOf;rw[Tryz.underlying122];exact⟨by decide,rfl,Tryz.underlying4,by decide,rfl,Tryz.underlying9,by decide,rfl,Tryz.underlying9,by decide,rfl,Tryz.underlying3,by decide,rfl,Tryz.underlying3,trivial⟩
theorem afL {v:Sl}{l:List jn}(h:eW w 5 v (mE l))(hl:l.length<=100000000)(y:jn):
  au 273 #[.slice v.1 v.2.1 v.2.2,.agg (qj y).toArray] w λ r w'=>(∃ i:Int,r=aa i/\decide (i >= 0)=decide (y∈l))/\Fr none1 w w':=by
 have hlen:v.2.1=l.length:=by have:=h.1;rw[DA] at this;omega
 refine c273 v.1 v.2.1 v.2.2 (uy y) w _ ?_;refine aC.of λ g w1 hg hb f1 _=>?_;refine cp.of (λ st w'=>∃ i:Nat,st.1=i/\i<=l.length/\y ∉ l.take i/\Fr none1 w1 w') (λ st _=>(v.2.1 - st.1).toNat) ⟨0,rfl,fj _,by simp,Fr.refl _ _⟩ ?_;rintro _ ⟨i',_⟩ w2 ⟨i,hi,jV,jQ,f2⟩;dsimp only at hi ⊢;subst hi;refine ae.dec (λ bI=>?_) (λ gk=>?_)
 ·have ir:i<l.length:=ab
  obtain⟨x,hx⟩:∃ x,l[i]? = some x:=⟨_,cV ir⟩;refine aU.of λ w3 _ f3=>aF.aR (cks:=yQ) (x:=uy y) (f3.ag (f2.ag hb)) ?_;have h3:=((h.ag f1).ag f2).ag f3;refine Dz (cks:=yQ) (x:=uy x) h3 ar (JE l) (by rw[ig,hx];rfl) ?_;have he:=afh (Wv y) (Wv x) (.tmp 11) (.tmp 15) w3;refine⟨decide (DB y=DB x),w3,he,ae.dec (λ he=>?_) (λ aL=>?_)⟩
  ·have:=afK he
   subst this;refine⟨⟨(i:Int),rfl,?_⟩,(f1.trans f2).trans f3⟩;rw[decide_eq_true ab,decide_eq_true (mI hx)]
  ·refine⟨⟨i+1,by rw[wI ab ab];omega,by omega,?_,f2.trans f3⟩,by rw[wI ab ab];omega⟩
   rw[oz,hx];simp only[B0,kE,nR];rintro(t | t)
   ·exact jQ t
   ·exact aL (by rw[t])
 ·refine⟨⟨-1,rfl,?_⟩,f1.trans f2⟩
  rw[gV ab] at jQ;rw[decide_eq_false jQ];rfl
theorem afM {v:Sl}{l:List jn}(h:eW w 5 v (mE l))(hl:l.length<=100000000)(y:jn):
  au 248 #[.slice v.1 v.2.1 v.2.2,.agg (qj y).toArray] w λ r w'=>r=.bool (decide (y∈l))/\Fr none1 w w':=by
 refine c248 v.1 v.2.1 v.2.2 (uy y) w _ ?_;refine aC.of λ g w1 hg hb f1 _=>aF.aR (cks:=yQ) (x:=uy y) hb ?_;refine an.of (afL (h.ag f1) hl y) ?_;rintro _ w2 ⟨⟨i,rfl,hi⟩,f2⟩;exact⟨i,rfl,by rw[hi],f1.trans f2⟩
structure q8 (w:ah)(B g b:Nat)(F:bz)(id:ai)(m:eH)(x:kL)(fl wl:Sl):Prop where
 aR:w.heap[g]? = some (.cells #[.string (str id),aZ b,.slice fl.1 fl.2.1 fl.2.2,.slice wl.1 wl.2.1 wl.2.2] 268 (0,0))
 DC:aV w 203 3 fl (oO x.1)
 waits:aV w 122 5 wl (mE x.2)
 sh:∀ k,aH fl k->B<=k/\k≠g
 ou:∀ k,aH wl k->B<=k/\k≠g/\¬ aH fl k
 wr:j9 w F b m
 low:∀ k,F k->k<B
 mem:B<=g
theorem q8.ag {B:Nat}{id:ai}{m:eH}{x:kL}{fl wl:Sl}(h:q8 w B g b F id m x fl wl)(f:Fr none1 w w'):q8 w' B g b F id m x fl wl:=
 ⟨f.ag h.aR,h.DC.ag f,h.waits.ag f,h.sh,h.ou,h.wr.ag f,h.low,h.mem⟩
def qk (w:ah)(B g b:Nat)(F:bz)(id:ai)(m:eH)(x:kL):Prop:=∃ fl wl,q8 w B g b F id m x fl wl
theorem qk.ag {B:Nat}{id:ai}{m:eH}{x:kL}(h:qk w B g b F id m x)(f:Fr none1 w w'):qk w' B g b F id m x:=by
 obtain⟨fl,wl,h⟩:=h;exact⟨fl,wl,h.ag f⟩
def xp (B:Nat):bz:=λ k=>B<=k
theorem Vc.Fr.si {B:Nat}(f:Fr none1 w w'):Fr (xp B) w w':=f.mono λ _ _ t=>t.elim
def tn (g:Nat)(wl:Sl):bz:=λ k=>k=g\/aH wl k
theorem q8.tn {B:Nat}{id:ai}{m:eH}{x:kL}{fl wl:Sl}(h:q8 w B g b F id m x fl wl){k:Nat}(q:tn g wl k):B<=k/\k<w.heap.size:=by
 rcases q with rfl | q
 ·exact⟨h.mem,cQ h.aR⟩
 ·exact⟨(h.ou k q).1,aV.lt h.waits q⟩
theorem ON {B:Nat}{id:ai}{m:eH}{x:kL}{fl wl:Sl}(h:q8 w B g b F id m x fl wl)(y:jn)(hl:x.2.length<=10000000){S:bz}{K:ah->Prop}
  (k:∀ w' DD,q8 w' B g b F id m (x.1,x.2++[y]) fl DD->(∀ k,aH DD k->aH wl k\/w.heap.size<=k)->Fr (tn g wl) w w'->K w') :
  aT (Instr.buildSlice 119 1 #[(0,.agg (qj y).toArray)]) w aM λ(u:aS×Nat×Nat) w1=>az S w w1 (aT (Builtin.append_ #[119,119] 119 #[.slice wl.1 wl.2.1 wl.2.2,.slice u.1 u.2.1 u.2.2]) w1 aM λ(v:aS×Nat×Nat) w2=>
   aK ((⟨g,0,none⟩:Addr).add 3) (.slice v.1 v.2.1 v.2.2) w2 λ w3=>K w3):=by
 obtain⟨u,w1,hr,hu,dP,f1,uf⟩:=po (P:=Tryz.prog) (w:=w) OL (qj y) rfl ar;refine⟨u,w1,hr,az.of f1 ?_⟩;have q9:=h.waits.len;rw[DA] at q9;obtain⟨v,w2,iD,hv,dD,f2,vf⟩:=jf OL 119 (h.waits.ag f1) hu.rd (Wt y) (by rw[dP];omega);refine⟨v,w2,iD,?_⟩;have Ax:¬ aH wl g:=λ q=>(h.ou g q).2.1 rfl;have ba:=f2.ao (f1.ag h.aR) Ax;refine aK.aw ba (show 3<4 by decide) rfl λ w3 bJ f3 _=>?_;have gl:=cQ h.aR;have s1:=f1.size;have s2:=f2.size;have kI:∀ k,aH v k->aH wl k\/w.heap.size<=k:=λ k hk=>(vf k hk).imp_right λ q=>ez s1 q;have Bh:∀ k,aH v k->B<=k/\k≠g/\¬ aH fl k:=λ k hk=>by
  rcases kI k hk with q | q
  ·exact h.ou k q
  ·exact⟨by have:=h.mem;omega,by omega,λ t=>by have:=aV.lt h.DC t;omega⟩
 refine k w3 v ⟨bJ,((h.DC.ag f1).ao f2 λ k hk q=>(h.ou k q).2.2 hk).ao f3 (λ k hk q=>(h.sh k hk).2 q),?_,h.sh,Bh,((h.wr.ag f1).ao f2 λ k hk q=>by have:=h.low k hk;have:=(h.ou k q).1;omega).ao f3 (λ k hk q=>by have:=h.low k hk;have:=h.mem;have:k=g:=q;omega),h.low,h.mem⟩ kI ?_
 ·dsimp only
  rw[afE];exact hv.ao f3 λ k hk q=>(Bh k hk).2.1 q
 ·refine((f1.mono λ _ _ t=>t.elim).comp f2 λ k _ q=>.inr q).comp f3 λ k _ q=>.inl q
theorem afN {B:Nat}{id:ai}{m:eH}{x:kL}{fl wl:Sl}(h:q8 w B g b F id m x fl wl)(y:oD)(hl:x.1.length<=10000000){S:bz}{K:ah->Prop}
  (k:∀ w' fl',q8 w' B g b F id m (x.1++[y],x.2) fl' wl->Fr (xp B) w w'->K w') :
  aT (Instr.buildSlice 72 1 #[(0,.agg (yR y).toArray)]) w aM λ(u:aS×Nat×Nat) w1=>az S w w1 (aT (Builtin.append_ #[72,72] 72 #[.slice fl.1 fl.2.1 fl.2.2,.slice u.1 u.2.1 u.2.2]) w1 aM λ(v:aS×Nat×Nat) w2=>
   aK ((⟨g,0,none⟩:Addr).add 2) (.slice v.1 v.2.1 v.2.2) w2 λ w3=>K w3):=by
 obtain⟨u,w1,hr,hu,dP,f1,uf⟩:=po (P:=Tryz.prog) (w:=w) OM (yR y) rfl ar;refine⟨u,w1,hr,az.of f1 ?_⟩;have q9:=h.DC.len;rw[JF] at q9;obtain⟨v,w2,iD,hv,dD,f2,vf⟩:=jf OM 72 (h.DC.ag f1) hu.rd (Wu y) (by rw[dP];omega);refine⟨v,w2,iD,?_⟩;have Ax:¬ aH fl g:=λ q=>(h.sh g q).2 rfl;have ba:=f2.ao (f1.ag h.aR) Ax;refine aK.aw ba (show 2<4 by decide) rfl λ w3 bJ f3 _=>?_;have gl:=cQ h.aR;have s1:=f1.size;have s2:=f2.size;have Bh:∀ k,aH v k->B<=k/\k≠g/\¬ aH wl k:=λ k hk=>by
  rcases vf k hk with q | q
  ·exact⟨(h.sh k q).1,(h.sh k q).2,λ t=>(h.ou k t).2.2 q⟩
  ·exact⟨by have:=h.mem;omega,by omega,λ t=>by have:=aV.lt h.waits t;omega⟩
 refine k w3 v ⟨bJ,?_,((h.waits.ag f1).ao f2 λ k hk q=>(h.ou k hk).2.2 q).ao f3 (λ k hk q=>(h.ou k hk).2.1 q),λ k hk=>⟨(Bh k hk).1,(Bh k hk).2.1⟩,λ k hk=>⟨(h.ou k hk).1,(h.ou k hk).2.1,λ t=>(Bh k t).2.2 hk⟩,((h.wr.ag f1).ao f2 λ k hk q=>by have:=h.low k hk;have:=(h.sh k q).1;omega).ao f3 (λ k hk q=>by have:=h.low k hk;have:=h.mem;have:k=g:=q;omega),h.low,h.mem⟩ ?_
 ·dsimp only
  rw[afF];exact hv.ao f3 λ k hk q=>(Bh k hk).2.1 q
 ·refine((f1.mono λ _ _ t=>t.elim).comp f2 λ k _ q=>(h.sh k q).1).comp f3 λ k _ q=>by have:k=g:=q;rw[this];exact h.mem
theorem afO {B:Nat}{id:ai}{m:eH}{x:kL}{fl wl:Sl}(h:q8 w B g b F id m x fl wl)(d:Int){v:Sl}{l:List (ai)}(hv:jy w v l)(Ww:∀ k,aH v k->k≠g/\¬ aH wl k)(hl:x.2.length+l.length<=1000000):
  au 229 #[aZ g,aa d,.slice v.1 v.2.1 v.2.2] w λ r w'=>r=.tuple #[]/\qk w' B g b F id m (x.1,oE d l x.2)/\Fr (tn g wl) w w':=by
 refine c229 _ d v.1 v.2.1 v.2.2 w _ ?_;have hlen:=hv.len;refine cp.of (λ st w'=>∃ (i:Nat) (DD:Sl),st.1=i/\i<=l.length/\q8 w' B g b F id m (x.1,oE d (l.take i) x.2) fl DD/\(∀ k,aH v k->¬ aH DD k)/\jy w' v l/\Fr (tn g wl) w w'/\(∀ k,aH DD k->aH wl k\/w.heap.size<=k)) (λ st _=>(v.2.1 - st.1).toNat)
  ⟨0,wl,rfl,fj _,h,λ k hk=>(Ww k hk).2,hv,Fr.refl _ _,λ k hk=>.inl hk⟩ ?_
 rintro _ ⟨i',_⟩ w1 ⟨i,OO,hi,jV,h1,JD,yg,f1,OP⟩;dsimp only at hi ⊢;subst hi;refine ae.dec (λ bI=>?_) (λ gk=>?_)
 rotate_left
 ·rw[gV ab] at h1
  exact⟨rfl,⟨_,_,h1⟩,f1⟩
 have ir:i<l.length:=ab;obtain⟨s,hs⟩:∃ s,l[i]? = some s:=⟨_,cV ir⟩;have mv:oE d (l.take (i+1)) x.2=if(false,s,[],d,0)∈oE d (l.take i) x.2 then oE d (l.take i) x.2 else oE d (l.take i) x.2++[(false,s,[],d,0)]:=Gs _ _ _ hs _;have Lu:(oE d (l.take i) x.2).length<=x.2.length+l.length:=by
  obtain⟨new,e,hn⟩:=FD d (l.take i) x.2;rw[e,bU];rw[ga] at hn;omega
 generalize oE d (l.take i) x.2=ws at *;refine yg.ld hs ?_;refine dO (zs:=[.bool false,aj,aj,aa 0,aa 0]) (vs:=qj (false,s,[],d,0)) rfl rfl λ g6 w2 NV gM f2=>?_;refine aU.of λ w3 _ f3=>?_;have f23:=f2.trans f3;have h3:=h1.ag f23;refine af.aw h3.aR (x:=OO) rfl (aF.aR (cks:=yQ) (x:=uy (false,s,[],d,0)) (f3.ag gM) ?_);refine an.of (afM (aV.rd h3.waits) (by dsimp only;omega) (false,s,[],d,0)) ?_;rintro _ w4 ⟨rfl,f4⟩;have f24:=f23.trans f4;have h4:=h3.ag f4;refine⟨_,rfl,ae.not (ae.dec (λ hm=>?_) (λ hm=>?_))⟩
 ·rw[if_pos hm] at mv
  exact⟨⟨i+1,OO,by rw[wI ab ab];omega,by omega,by rw[mv];exact h4,JD,yg.ag f24,f1.et f24,OP⟩,by rw[wI ab ab];omega⟩
 rw[if_neg hm] at mv;refine aU.of λ w5 _ f5=>bL.of (λ k=>k=g\/k=g6) ?_;have f25:=f24.trans f5;have h5:=h4.ag f5;refine⟨by rw[eN];exact .inl rfl,af.aw h5.aR (x:=OO) rfl ⟨.inr rfl,aF.aR (cks:=yQ) (x:=uy (false,s,[],d,0)) ((f4.trans f5).ag (f3.ag gM)) ?_⟩⟩;refine ON h5 (false,s,[],d,0) (by dsimp only;omega) λ w6 wl6 h6 Wx f6=>?_;refine⟨⟨i+1,wl6,by rw[wI ab ab];omega,by omega,by rw[mv];exact h6,λ k hk q=>?_,?_,(f1.et f25).comp f6 λ k bI q=>?_,λ k hk=>?_⟩,by rw[wI ab ab];omega⟩
 ·rcases Wx k q with t | t
  ·exact JD k hk t
  ·have:=aV.lt (yg.ag f25) hk;omega
 ·refine aV.ao (yg.ag f25) f6 λ k hk q=>?_
  rcases q with rfl | q
  ·exact(Ww _ hk).1 rfl
  ·exact JD k hk q
 ·rcases q with rfl | q
  ·exact .inl rfl
  ·rcases OP k q with t | t
   ·exact .inr t
   ·omega
 ·rcases Wx k hk with t | t
  ·exact OP k t
  ·have:=f1.size;have:=f25.size;exact .inr ab
theorem Wy (d:Int)(o:Ob)(hn:cv o<=1000000){w:ah}{B g b:Nat}{F:bz}{id:ai}{m:eH}{x:kL}{fl wl:Sl}(h:q8 w B g b F id m x fl wl)(hl:x.2.length+cv o<=1000000):
  au 202 #[aZ g,o.v,aa d] w λ r w'=>r=.tuple #[aa (hU m d o).1,.bool (hU m d o).2.1,aa (hU m d o).2.2] /\
   qk w' B g b F id m (if(hU m d o).2.2=0/\(hU m d o).2.1=false then(x.1,oE d (qM m d o) x.2) else x)/\Fr (tn g wl) w w':=by
 refine c202 _ o.v d w _ ?_;refine af.aw h.aR (x:=some ⟨b,0,none⟩) rfl ?_;refine an.of (afx d o hn h.wr) ?_;rintro _ w1 ⟨rfl,f1⟩;have aL:=NO m d o;generalize hU m d o=X;refine⟨(X.1,X.2.1,X.2.2,()),rfl,?_⟩;have h1:=h.ag f1;refine ae.eq (λ he=>ae.not (ae.by (λ hk=>?_) (λ hk=>?_))) (λ he=>?_)
 ·have hk:X.2.1=true:=hk
  rw[if_neg (by rw[hk];simp)];exact⟨rfl,⟨_,_,h1⟩,f1.mono λ _ _ t=>t.elim⟩
 ·have hk:X.2.1=false:=hk
  have he:X.2.2=0:=he;rw[if_pos ⟨he,hk⟩];refine af.aw h1.aR (x:=some ⟨b,0,none⟩) rfl ?_;refine an.of (afD d o hn h1.wr) ?_;rintro _ w2 ⟨v,rfl,hv,f2,vf⟩;refine⟨v,rfl,?_⟩;have h2:=h1.ag f2;refine an.of (afO h2 d hv (λ k hk=>⟨λ e=>?_,λ q=>?_⟩) ab) ?_
  ·have:=vf k hk;have:=cQ h1.aR;omega
  ·have:=vf k hk;have:=aV.lt h1.waits q;omega
  rintro _ w3 ⟨rfl,h3,f3⟩;exact⟨(),rfl,rfl,h3,(f1.trans f2).fN f3⟩
 ·have he:¬ X.2.2=0:=he
  rw[if_neg (λ t=>he t.1)];exact⟨rfl,⟨_,_,h1⟩,f1.mono λ _ _ t=>t.elim⟩
def yS (id:ai)(m:eH)(t:Tm):Prop:=
 ∀ {w:ah} {B g b:Nat} {F:bz} {x:kL} (d k:Int),qk w B g b F id m x->dI k=true->bj t<=100000->x.1.length+bj t<=1000000->x.2.length+bj t<=1000000 ->
  au 127 #[aZ g,t.v,aa d,aa k] w λ r w'=>r=aa (dw id m t d k x).2/\qk w' B g b F id m (dw id m t d k x).1/\Fr (xp B) w w'
theorem afP {id:ai}{m:eH}{l r:Tm}(hl:yS id m l)(hr:yS id m r){w:ah}{B g b:Nat}{F:bz}{x:kL}(d k:Int)(h:qk w B g b F id m x)(hk:dI k=true)(hn:bj l+bj r<=100000)
  (h1:x.1.length+(bj l+bj r)<=1000000) (h2:x.2.length+(bj l+bj r)<=1000000) :
  au 159 #[aZ g,l.v,r.v,aa d,aa k] w λ r' w'=>r'=aa (dw id m (.and l r) d k x).2/\qk w' B g b F id m (dw id m (.and l r) d k x).1/\Fr (xp B) w w':=by
 refine c159 _ l.v r.v d k w _ ?_;unfold C159;refine an.of (hl d k h hk ab ab ab) ?_;obtain⟨fs,ws,e1,e2,e3,_⟩:=UE id m l d k x;have e:dw id m (.and l r) d k x=if(dw id m l d k x).2≠0 then dw id m l d k x else dw id m r d k (dw id m l d k x).1:=by conv=>lhs;unfold dw
 rw[e];clear e;have l1:(dw id m l d k x).1.1.length<=x.1.length+bj l:=by rw[e1];simp;omega
 have l2:(dw id m l d k x).1.2.length<=x.2.length+bj l:=by rw[e1];simp;omega
 clear e1;generalize dw id m l d k x=X at *;rintro _ w1 ⟨rfl,h3,f1⟩;refine⟨X.2,rfl,ae.ne (λ aL=>?_) (λ he=>?_)⟩
 ·rw[if_pos aL];exact⟨rfl,h3,f1⟩
 rw[if_neg (λ t=>t he)];refine an.of (hr d k h3 hk ab ab ab) ?_;rintro _ w2 ⟨rfl,h4,f2⟩;exact⟨_,rfl,rfl,h4,f1.trans f2⟩
theorem afQ {id:ai}{m:eH}(o:Ob){t:Tm}(ht:yS id m t){w:ah}{B g b:Nat}{F:bz}{x:kL}(d k:Int)(h:qk w B g b F id m x)(hn:cv o+bj t<=100000)
  (h1:x.1.length+(cv o+bj t)<=1000000) (h2:x.2.length+(cv o+bj t)<=1000000) :
  au 160 #[aZ g,.agg #[o.v,t.v],aa d,aa k] w λ r' w'=>r'=aa (dw id m (.scale o t) d k x).2/\qk w' B g b F id m (dw id m (.scale o t) d k x).1/\Fr (xp B) w w':=by
 refine c160 _ (o.v,t.v,()) d k w _ ?_;unfold C160;refine aC.of λ g1 w1 eG aE f1 _=>af.aw (c:=.raw) aE (x:=o.v) rfl ?_;obtain⟨fl,wl,h⟩:=h;refine an.of (Wy d o ab (h.ag f1) ab) ?_;have e:dw id m (.scale o t) d k x=if(hU m d o).2.2≠0 then(x,(hU m d o).2.2) else if(hU m d o).2.1=false then((x.1,oE d (qM m d o) x.2),0) else if(nZ k (hU m d o).1).2=false then(x,6) else if(nZ k (hU m d o).1).1=0 then(x,0) else dw id m t d (nZ k (hU m d o).1).1 x:=by conv=>lhs;unfold dw
 rw[e];clear e;generalize hU m d o=X;rintro _ w2 ⟨rfl,h3,f2⟩;have f12:Fr (xp B) w w2:=f1.si.comp f2 λ k _ q=>((h.ag f1).tn q).1;have ba:=f2.ao aE (λ q=>by have:=(h.tn q).2;omega);refine⟨(X.1,X.2.1,X.2.2,()),rfl,ae.ne (λ aL=>?_) (λ he=>?_)⟩
 ·have aL:X.2.2≠0:=aL
  rw[if_neg (λ t=>aL t.1)] at h3;rw[if_pos aL];exact⟨rfl,h3,f12⟩
 have he:X.2.2=0:=he;rw[if_neg (λ t=>t he)];refine ae.not (ae.by (λ hq=>?_) (λ hq=>?_))
 rotate_left
 ·have hq:X.2.1=false:=hq
  rw[if_pos ⟨he,hq⟩] at h3;rw[if_pos hq];exact⟨by rw[he],h3,f12⟩
 have hq:X.2.1=true:=hq;rw[if_neg (by rw[hq];simp)] at h3;rw[if_neg (by rw[hq];simp)];refine an.of (Wl k X.1 w2) ?_;rintro _ _ ⟨rfl,rfl⟩;have hmv:=UB (a:=k) (b:=X.1);generalize nZ k X.1=Y at *;refine⟨(Y.1,Y.2,()),rfl,ae.not (ae.by (λ hy=>?_) (λ hy=>?_))⟩
 rotate_left
 ·have hy:Y.2=false:=hy
  rw[if_pos hy];exact⟨rfl,h3,f12⟩
 have hy:Y.2=true:=hy;rw[if_neg (by rw[hy];simp)];refine ae.eq (λ hz=>?_) (λ hz=>?_)
 ·have hz:Y.1=0:=hz
  rw[if_pos hz];exact⟨rfl,h3,f12⟩
 have hz:¬ Y.1=0:=hz;rw[if_neg hz];refine af.aw (c:=.raw) ba (x:=t.v) rfl ?_;refine an.of (ht d Y.1 h3 (by have:=hmv hy;rw[this.2.2.2];exact this.2.2.1) ab ab ab) ?_;rintro _ w3 ⟨rfl,h4,f3⟩;exact⟨_,rfl,rfl,h4,f12.trans f3⟩
theorem afR {id:ai}{m:eH}(o:Ob){l r:Tm}(hl:yS id m l)(hr:yS id m r){w:ah}{B g b:Nat}{F:bz}{x:kL}(d k:Int)(h:qk w B g b F id m x)(hk:dI k=true)(hn:cv o+bj l+bj r<=100000)
  (h1:x.1.length+(cv o+bj l+bj r)<=1000000) (h2:x.2.length+(cv o+bj l+bj r)<=1000000) :
  au 161 #[aZ g,.agg #[o.v,l.v,r.v],aa d,aa k] w λ r' w'=>r'=aa (dw id m (.cond o l r) d k x).2/\qk w' B g b F id m (dw id m (.cond o l r) d k x).1/\Fr (xp B) w w':=by
 refine c161 _ (o.v,l.v,r.v,()) d k w _ ?_;unfold C161;refine aC.of λ g1 w1 eG aE f1 _=>af.aw (c:=.raw) aE (x:=o.v) rfl ?_;obtain⟨fl,wl,h⟩:=h;refine an.of (Wy d o ab (h.ag f1) ab) ?_;have e:dw id m (.cond o l r) d k x=if(hU m d o).2.2≠0 then(x,(hU m d o).2.2) else if(hU m d o).2.1=false then((x.1,oE d (qM m d o) x.2),0) else if 0<(hU m d o).1 then dw id m l d k x else dw id m r d k x:=by conv=>lhs;unfold dw
 rw[e];clear e;generalize hU m d o=X;rintro _ w2 ⟨rfl,h3,f2⟩;have f12:Fr (xp B) w w2:=f1.si.comp f2 λ k _ q=>((h.ag f1).tn q).1;have ba:=f2.ao aE (λ q=>by have:=(h.tn q).2;omega);refine⟨(X.1,X.2.1,X.2.2,()),rfl,ae.ne (λ aL=>?_) (λ he=>?_)⟩
 ·have aL:X.2.2≠0:=aL
  rw[if_neg (λ t=>aL t.1)] at h3;rw[if_pos aL];exact⟨rfl,h3,f12⟩
 have he:X.2.2=0:=he;rw[if_neg (λ t=>t he)];refine ae.not (ae.by (λ hq=>?_) (λ hq=>?_))
 rotate_left
 ·have hq:X.2.1=false:=hq
  rw[if_pos ⟨he,hq⟩] at h3;rw[if_pos hq];exact⟨by rw[he],h3,f12⟩
 have hq:X.2.1=true:=hq;rw[if_neg (by rw[hq];simp)] at h3;rw[if_neg (by rw[hq];simp)];refine ae.dec (λ hz=>?_) (λ hz=>?_)
 ·rw[if_pos (by exact hz)]
  refine af.aw (c:=.raw) ba (x:=l.v) rfl ?_;refine an.of (hl d k h3 hk ab ab ab) ?_;rintro _ w3 ⟨rfl,h4,f3⟩;exact⟨_,rfl,rfl,h4,f12.trans f3⟩
 ·rw[if_neg (by exact hz)]
  refine af.aw (c:=.raw) ba (x:=r.v) rfl ?_;refine an.of (hr d k h3 hk ab ab ab) ?_;rintro _ w3 ⟨rfl,h4,f3⟩;exact⟨_,rfl,rfl,h4,f12.trans f3⟩
theorem OQ (a b:Int):(if b > a then b else a)=max a b:=by
 rw[Int.max_def];split<;>split<;>omega
theorem afS {id:ai}{m:eH}(s:ai){l r:Tm}(hl:yS id m l)(hr:yS id m r){w:ah}{B g b:Nat}{F:bz}{x:kL}(d k:Int)(h:qk w B g b F id m x)(hk:dI k=true)(hn:bj l+bj r<=100000)
  (h1:x.1.length+(bj l+bj r)<=1000000) (h2:x.2.length+(bj l+bj r)<=1000000) :
  au 162 #[aZ g,.agg #[.string (str s),l.v,r.v],aa d,aa k] w λ r' w'=>r'=aa (dw id m (.or s l r) d k x).2/\qk w' B g b F id m (dw id m (.or s l r) d k x).1/\Fr (xp B) w w':=by
 refine c162 _ (str s,l.v,r.v,()) d k w _ ?_;unfold C162;obtain⟨fl,wl,h⟩:=h;refine aC.of λ g1 w1 eG aE f1 _=>aU.of λ w2 _ f2=>bL.all ?_;have f12:=f1.trans f2;have hh:=h.ag f12;refine aJ.all (af.aw hh.aR (x:=some ⟨b,0,none⟩) rfl (aJ.all (af.aw hh.aR (x:=str id) rfl (aJ.all (af.aw (f2.ag aE) (x:=str s) rfl ?_)))));refine an.of (afn hh.wr id s) ?_;have e:dw id m (.or s l r) d k x=match cg (id,s) m.ch with
  | none=>((x.1,x.2++[(true,[],s,d,if 0<k then 0 else 1)]),0)
  | some (p,since)=>if p=0 then dw id m l (max d since) k x else dw id m r (max d since) k x:=rfl
 rw[e];clear e;rintro _ w3 ⟨rfl,f3⟩;have f13:=f12.trans f3;have h3:=hh.ag f3;refine⟨(((cg (id,s) m.ch).getD (0,0)).1,((cg (id,s) m.ch).getD (0,0)).2,(cg (id,s) m.ch).isSome,()),rfl,?_⟩;have bJ:=(f2.trans f3).ag aE;refine dc.of (λ st w'=>st.1=(!(cg (id,s) m.ch).isSome&&decide (0<k))/\w3=w') ?_ ?_
 ·refine ae.not (ae.by (λ hs=>?_) (λ hs=>?_))
  ·have hs:(cg (id,s) m.ch).isSome=true:=hs
   rw[hs];exact⟨rfl,rfl⟩
  ·have hs:(cg (id,s) m.ch).isSome=false:=hs
   rw[hs];exact⟨rfl,rfl⟩
 rintro _ ⟨st,_⟩ _ ⟨dH,rfl⟩;dsimp only at dH ⊢;subst dH;cases hc:cg (id,s) m.ch with
 | none=>
  dsimp only[Option.isSome,Option.getD];refine ae.by (λ mG=>?_) (λ mG=>?_)
  ·have mG:0<k:=by simpa using mG
   rw[if_pos mG];refine aU.of λ w4 _ f4=>bL.all ?_;have h4:=h3.ag f4;refine aJ.all (af.aw h4.aR (x:=wl) rfl (aJ.all (af.aw (f4.ag bJ) (x:=str s) rfl ?_)));refine ON h4 (true,[],s,d,0) ab λ w5 wl5 h5 _ f5=>?_;exact⟨rfl,⟨_,_,h5⟩,(f13.trans f4).si.comp f5 λ k _ q=>(h4.tn q).1⟩
  ·have mG:¬ 0<k:=by simpa using mG
   rw[if_neg mG];refine ae.t rfl ?_;refine aU.of λ w4 _ f4=>bL.all ?_;have h4:=h3.ag f4;refine aJ.all (af.aw h4.aR (x:=wl) rfl (aJ.all (af.aw (f4.ag bJ) (x:=str s) rfl ?_)));refine ON h4 (true,[],s,d,1) ab λ w5 wl5 h5 _ f5=>?_;exact⟨rfl,⟨_,_,h5⟩,(f13.trans f4).si.comp f5 λ k _ q=>(h4.tn q).1⟩
 | some p=>
  obtain⟨p,since⟩:=p;dsimp only[Option.isSome,Option.getD];refine ae.f rfl (ae.f rfl (ae.eq (λ hp=>?_) (λ hp=>?_)))
  ·have hp:p=0:=hp
   rw[if_pos hp];refine af.aw (c:=.raw) bJ (x:=l.v) rfl ?_;rw[OQ];refine an.of (hl (max d since) k ⟨_,_,h3⟩ hk ab ab ab) ?_;rintro _ w4 ⟨rfl,h4,f4⟩;exact⟨_,rfl,rfl,h4,f13.si.trans f4⟩
  ·have hp:¬ p=0:=hp
   rw[if_neg hp];refine af.aw (c:=.raw) bJ (x:=r.v) rfl ?_;rw[OQ];refine an.of (hr (max d since) k ⟨_,_,h3⟩ hk ab ab ab) ?_;rintro _ w4 ⟨rfl,h4,f4⟩;exact⟨_,rfl,rfl,h4,f13.si.trans f4⟩
theorem afT (id:ai)(m:eH):∀ t:Tm,yS id m t:=by
 intro t
 induction t with
 | none=>
  intro w B g b F x d k h hk hn h1 h2;refine c127 _ _ d k w _ ?_;exact aD.nil rfl (aD.nil rfl (aD.nil rfl (aD.nil rfl (aD.nil rfl (aD.nil rfl (aD.nil rfl ⟨rfl,h,Fr.refl _ _⟩))))))
 | zero=>
  intro w B g b F x d k h hk hn h1 h2;refine c127 _ _ d k w _ ?_;exact aD.bn rfl ar (aD.bn rfl ar (aD.bn rfl ar (aD.bn rfl ar (aD.bn rfl ar (aD.bn rfl ar (aD.bn rfl ar (⟨rfl,h,Fr.refl _ _⟩)))))))
 | one s=>
  intro w B g b F x d k h hk hn h1 h2;refine c127 _ _ d k w _ ?_;obtain⟨fl,wl,h⟩:=h;refine aD.hit (str s,()) rfl (dO (zs:=[aj]) (vs:=[.string (str s)]) rfl rfl λ g1 w1 eG aE f1=>aU.of λ w2 _ f2=>bL.all ?_);have h3:=(h.ag f1).ag f2;refine aJ.all (af.aw h3.aR (x:=fl) rfl (aJ.all (af.aw (f2.ag aE) (x:=str s) rfl ?_)));refine afN h3 (d,s,k) (by unfold bj at h1;omega) λ w3 fl3 h4 f4=>?_;exact⟨rfl,⟨_,_,h4⟩,(f1.trans f2).si.trans f4⟩
 | dy t ih=>
  intro w B g b F x d k h hk hn h1 h2;unfold bj at hn h1 h2;refine c127 _ _ d k w _ ?_;refine aD.bn rfl ar (aD.hit (t.v,()) rfl (dO (zs:=[.nilIface]) (vs:=[t.v]) rfl (by simp[Ob.cU,Tm.cU,sK,tT]) λ g1 w1 eG aE f1=>?_));refine af.aw (c:=.raw) aE (x:=t.v) rfl ?_;have ja:=UC hk;rw[vo] at hk;rw[wI (x:=0 - k) ab ab,Int.zero_sub];refine an.of (ih d (-k) (h.ag f1) ja ab ab ab) ?_;rintro _ w2 ⟨rfl,h2,f2⟩;exact⟨_,rfl,rfl,h2,f1.si.trans f2⟩
 | and l r hl hr=>
  intro w B g b F x d k h hk hn h1 h2;unfold bj at hn h1 h2;refine c127 _ _ d k w _ ?_;refine aD.bn rfl ar (aD.bn rfl ar (aD.hit (l.v,r.v,()) rfl (dO (zs:=[.nilIface,.nilIface]) (vs:=[l.v,r.v]) rfl (by simp[Ob.cU,Tm.cU,sK,tT]) λ g1 w1 eG aE f1=>?_)));refine af.aw (c:=.raw) aE (x:=l.v) rfl (af.aw (c:=.raw) aE (x:=r.v) rfl ?_);refine an.of (afP hl hr d k (h.ag f1) hk ab ab ab) ?_;rintro _ w2 ⟨rfl,h2,f2⟩;exact⟨_,rfl,rfl,h2,f1.si.trans f2⟩
 | when n t ih=>
  intro w B g b F x d k h hk hn h1 h2;unfold bj at hn h1 h2;refine c127 _ _ d k w _ ?_;refine aD.bn rfl ar (aD.bn rfl ar (aD.bn rfl ar (aD.hit (n,t.v,()) rfl (dO (zs:=[aa 0,.nilIface]) (vs:=[aa n,t.v]) rfl (by simp[Ob.cU,Tm.cU,sK,tT]) λ g1 w1 eG aE f1=>?_))));refine af.aw (c:=.raw) aE (x:=t.v) rfl (af.aw aE (x:=n) rfl ?_);rw[OQ];refine an.of (ih (max d n) k (h.ag f1) hk ab ab ab) ?_;rintro _ w2 ⟨rfl,h2,f2⟩;exact⟨_,rfl,rfl,h2,f1.si.trans f2⟩
 | scale o t ih=>
  intro w B g b F x d k h hk hn h1 h2;unfold bj at hn h1 h2;refine c127 _ _ d k w _ ?_;refine aD.bn rfl ar (aD.bn rfl ar (aD.bn rfl ar (aD.bn rfl ar (aD.hit (o.v,t.v,()) rfl (dO (zs:=[.nilIface,.nilIface]) (vs:=[o.v,t.v]) rfl (by simp[Ob.cU,Tm.cU,sK,tT]) λ g1 w1 eG aE f1=>?_)))));refine aF.aR (cks:=[.raw,.raw]) (x:=(o.v,t.v,())) aE ?_;refine an.of (afQ o ih d k (h.ag f1) ab ab ab) ?_;rintro _ w2 ⟨rfl,h2,f2⟩;exact⟨_,rfl,rfl,h2,f1.si.trans f2⟩
 | cond o l r hl hr=>
  intro w B g b F x d k h hk hn h1 h2;unfold bj at hn h1 h2;refine c127 _ _ d k w _ ?_;refine aD.bn rfl ar (aD.bn rfl ar (aD.bn rfl ar (aD.bn rfl ar (aD.bn rfl ar (aD.hit (o.v,l.v,r.v,()) rfl (dO (zs:=[.nilIface,.nilIface,.nilIface]) (vs:=[o.v,l.v,r.v]) rfl (by simp[Ob.cU,Tm.cU,sK,tT]) λ g1 w1 eG aE f1=>?_))))));refine aF.aR (cks:=[.raw,.raw,.raw]) (x:=(o.v,l.v,r.v,())) aE ?_;refine an.of (afR o hl hr d k (h.ag f1) hk ab ab ab) ?_;rintro _ w2 ⟨rfl,h2,f2⟩;exact⟨_,rfl,rfl,h2,f1.si.trans f2⟩
 | or s l r hl hr=>
  intro w B g b F x d k h hk hn h1 h2;unfold bj at hn h1 h2;refine c127 _ _ d k w _ ?_;refine aD.bn rfl ar (aD.bn rfl ar (aD.bn rfl ar (aD.bn rfl ar (aD.bn rfl ar (aD.bn rfl ar (aD.hit (str s,l.v,r.v,()) rfl (dO (zs:=[aj,.nilIface,.nilIface]) (vs:=[.string (str s),l.v,r.v]) rfl (by simp[Ob.cU,Tm.cU,sK,tT]) λ g1 w1 eG aE f1=>?_)))))));refine aF.aR (cks:=[.str,.raw,.raw]) (x:=(str s,l.v,r.v,())) aE ?_;refine an.of (afS s hl hr d k (h.ag f1) hk ab ab ab) ?_;rintro _ w2 ⟨rfl,h2,f2⟩;exact⟨_,rfl,rfl,h2,f1.si.trans f2⟩
theorem JG (id:ai)(t:Tm)(d:Int)(hn:bj t<=1000000){w:ah}{F:bz}{b:Nat}{m:eH}(h:j9 w F b m)(hF:∀ k,F k->k<w.heap.size):
  au 87 #[.string (str id),t.v,aa d,aZ b] w λ r w'=>∃ fl wl:Sl,r=.tuple #[.slice fl.1 fl.2.1 fl.2.2,.slice wl.1 wl.2.1 wl.2.2,aa (iy id t d m).2] /\
   aV w' 203 3 fl (oO (iy id t d m).1.1)/\aV w' 122 5 wl (mE (iy id t d m).1.2)/\Fr none1 w w'/\(∀ k,aH fl k->w.heap.size<=k)/\(∀ k,aH wl k->w.heap.size<=k):=by
 refine c87 (str id) t.v d _ w _ ?_;unfold C87 iy;have nil:∀ (n:Int) {w':ah},Fr none1 w w'->∃ fl wl:Sl,(Value.tuple #[.slice none 0 0,.slice none 0 0,aa n])=.tuple #[.slice fl.1 fl.2.1 fl.2.2,.slice wl.1 wl.2.1 wl.2.2,aa n] /\
   aV w' 203 3 fl (oO [])/\aV w' 122 5 wl (mE [])/\Fr none1 w w'/\(∀ k,aH fl k->w.heap.size<=k)/\(∀ k,aH wl k->w.heap.size<=k):=λ n w' f=>⟨(none,0,0),(none,0,0),rfl,.inl ⟨rfl,rfl⟩,.inl ⟨rfl,rfl⟩,f,λ k t=>(nt k t).elim,λ k t=>(nt k t).elim⟩
 refine an.of (LN t hn w) ?_;rintro _ w1 ⟨rfl,f1⟩;refine⟨_,rfl,ae.ne (λ aL=>?_) (λ he=>?_)⟩
 ·rw[if_pos (.inl aL)];exact nil 1 f1
 have he:mu t=0:=he;have hn:bj t<=60:=(NQ he).2.1;refine ae.dec (λ hd=>?_) (λ hd=>?_)
 ·rw[if_pos (.inr (.inl hd))];exact nil 1 f1
 refine ae.dec (λ zu=>?_) (λ zu=>?_)
 ·rw[if_pos (.inr (.inr zu))];exact nil 1 f1
 rw[if_neg (by rw[he];simp;omega)];refine aC.of λ g w2 hg ba f2 iQ=>?_;have f12:=f1.trans f2;have hw:q8 w2 w.heap.size g b F id m ([],[]) (none,0,0) (none,0,0):=⟨ba,.inl ⟨rfl,rfl⟩,.inl ⟨rfl,rfl⟩,λ k t=>(nt k t).elim,λ k t=>(nt k t).elim,h.ag f12,hF,by have:=f1.size;omega⟩;refine an.of (afT id m t d 1 ⟨_,_,hw⟩ rfl ab (by simp;omega) (by simp;omega)) ?_;generalize dw id m t d 1 ([],[])=X;rintro _ w3 ⟨rfl,h3,f3⟩;have f13:Fr none1 w w3:=f12.comp f3 λ k hk q=>by have:w.heap.size<=k:=q;omega
 refine⟨X.2,rfl,ae.ne (λ aL=>?_) (λ mW=>?_)⟩
 ·rw[if_pos aL];exact nil _ f13
 have mW:X.2=0:=mW;rw[if_neg (λ t=>t mW)];obtain⟨fl,wl,h3⟩:=h3;refine aU.of λ w4 _ f4=>?_;have h4:=h3.ag f4;refine af.aw h4.aR (x:=fl) rfl (af.aw h4.aR (x:=wl) rfl ?_);exact⟨fl,wl,rfl,h4.DC,h4.waits,f13.trans f4,λ k hk=>(h4.sh k hk).1,λ k hk=>(h4.ou k hk).1⟩
def C58 (p0:aS)(bh bC:Nat)(w:ah)(K:aP):Prop:=
 ae (Option.isNone p0)
 (K (.slice none 0 0) w)
 (aT (Instr.buildSlice 65 0 #[]) w aM (λ(x1:aB) w2=>aT (Builtin.append_ #[65,65] 65 #[aO x1,.slice p0 bh bC]) w2 aM (λ(x3:aB) w4=>K (aO x3) w4)))
def pl58:aN:=.auto
theorem c58 (p0 bh bC w K)(h:C58 p0 bh bC w K):au 58 #[.slice p0 bh bC] w K:=aQ Tryz.func58 (p:=pl58) aA h
def C78 (p0:aS)(bh bC:Nat)(w:ah)(K:aP):Prop:=
 ae (Option.isNone p0)
 (K (.slice none 0 0) w)
 (aT (Instr.buildSlice 111 0 #[]) w aM (λ(x1:aB) w2=>aT (Builtin.append_ #[111,111] 111 #[aO x1,.slice p0 bh bC]) w2 aM (λ(x3:aB) w4=>K (aO x3) w4)))
def pl78:aN:=.auto
theorem c78 (p0 bh bC w K)(h:C78 p0 bh bC w K):au 78 #[.slice p0 bh bC] w K:=aQ Tryz.func78 (p:=pl78) aA h
def C59 (p0:aS)(bh bC:Nat)(w:ah)(K:aP):Prop:=
 ae (Option.isNone p0)
 (K (.slice none 0 0) w)
 (aT (Instr.buildSlice 70 0 #[]) w aM (λ(x1:aB) w2=>aT (Builtin.append_ #[70,70] 70 #[aO x1,.slice p0 bh bC]) w2 aM (λ(x3:aB) w4=>K (aO x3) w4)))
def pl59:aN:=.auto
theorem c59 (p0 bh bC w K)(h:C59 p0 bh bC w K):au 59 #[.slice p0 bh bC] w K:=aQ Tryz.func59 (p:=pl59) aA h
def C98 (p0:List av)(w:ah)(K:aP):Prop:=
 aC (.cells p0.toArray 25) w (λ g1 w2=>fL 16 (ad g1) w2 (λ x3=>aT (Instr.buildSlice 111 1 #[(0,.int .u64 0)]) w2 aM (λ(x4:aB) w5=>xz [.int .u8,.int .u8,.int .u8,.int .u8,.int .u8,.int .u8,.int .u8,.int .u8,.int .u8,.int .u8,.int .u8,.int .u8,.int .u8,.int .u8,.int .u8,.int .u8] x3 (λ(x6:Int×Int×Int×Int×Int×Int×Int×Int×Int×Int×Int×Int×Int×Int×Int×Int×Unit)=>aC (.cells #[.int .u8 x6.1,.int .u8 x6.2.1,.int .u8 x6.2.2.1,.int .u8 x6.2.2.2.1,.int .u8 x6.2.2.2.2.1,.int .u8 x6.2.2.2.2.2.1,.int .u8 x6.2.2.2.2.2.2.1,.int .u8 x6.2.2.2.2.2.2.2.1,.int .u8 x6.2.2.2.2.2.2.2.2.1,.int .u8 x6.2.2.2.2.2.2.2.2.2.1,.int .u8 x6.2.2.2.2.2.2.2.2.2.2.1,.int .u8 x6.2.2.2.2.2.2.2.2.2.2.2.1,.int .u8 x6.2.2.2.2.2.2.2.2.2.2.2.2.1,.int .u8 x6.2.2.2.2.2.2.2.2.2.2.2.2.2.1,.int .u8 x6.2.2.2.2.2.2.2.2.2.2.2.2.2.2.1,.int .u8 x6.2.2.2.2.2.2.2.2.2.2.2.2.2.2.2.1,.slice none 0 0,aO x4] 113) w5 (λ g7 w8=>K (.pointer (some (ad g7))) w8)))))
def pl98:aN:=.auto
theorem c98 (p0 w K)(h:C98 p0 w K):au 98 #[.agg p0.toArray] w K:=aQ Tryz.func98 (p:=pl98) aA h
def C175 (p0:List av)(p1:Int)(p2:mf)(w:ah)(K:aP):Prop:=
 aC (.cells p0.toArray 25) w (λ g1 w2=>aC (.cells ((kV p2).toArray) 68) w2 (λ g3 w4=>aF oU (ad g3) w4 (λ(x5:mf)=>ak 149 #[.agg (kV x5).toArray] w4 pI (λ(x6:aB×Int×Unit) w7=>ae (x6.2.1 != 0)
 (K (.tuple #[.int .u64 0,aa x6.2.1]) w7)
 (aU w7 (λ w8=>bL (λ S9=>aJ S9 (ad g1) (fL 16 (ad g1) w8 (λ bG=>ak 129 #[.int .u64 p1] w8 aM (λ(bQ:aB) br=>az S9 w8 br (aT (Builtin.append_ #[22,22] 22 #[aO bQ,.slice x6.1.1 x6.1.2.1 x6.1.2.2]) br aM (λ(cA:aB) bY=>az S9 br bY (ak 130 #[.agg bG.toArray,aO cA] bY nh (λ(cm:Int) bV=>az S9 bY bV (K (.tuple #[.int .u64 cm,aa 0]) bV)))))))))))))))
def pl175:aN:=(.seq .auto (.seq .auto (.seq .auto (.seq (.held (.soft 0 (.soft 1 (.soft 3 (.pick 2 (.pick 4 (.pick 5 (.soft 6 (.soft 7 .done)) .stop) .stop) .stop))))) .auto))))
theorem c175 (p0 p1 p2 w K)(h:C175 p0 p1 p2 w K):au 175 #[.agg p0.toArray,.int .u64 p1,.agg (kV p2).toArray] w K:=aQ Tryz.func175 (p:=pl175) aA h
def C177 (p0:Addr)(p1:mf)(w:ah)(K:aP):Prop:=
 aC (.cells ((kV p1).toArray) 68) w (λ g1 w2=>af .bE (p0.add 16) w2 (λ(x3:aB)=>ae (decide ((x3.2.1:Int) >= 64))
 (K (aa 5) w2)
 (aU w2 (λ w4=>bL (λ S5=>aJ S5 (p0.add 0) (fL 16 (p0.add 0) w4 (λ x6=>aJ S5 (ad g1) (aF oU (ad g1) w4 (λ(x7:mf)=>ak 18 #[aI p0] w4 nh (λ(x8:Int) w9=>az S5 w4 w9 (ak 175 #[.agg x6.toArray,.int .u64 x8,.agg (kV x7).toArray] w9 (.bR [.one (.int .u64),.one (.int .i64)]) (λ(bG:Int×Int×Unit) bt=>ae (bG.2.1 != 0)
 (K (aa bG.2.1) bt)
 (aU bt (λ br=>bL (λ gP=>aJ gP (p0.add 16) (af .bE (p0.add 16) br (λ(cj:aB)=>aJ gP (ad g1) (aF oU (ad g1) br (λ(cm:mf)=>aJ gP (p0.add 17) (af .bE (p0.add 17) br (λ(bP:aB)=>nE (ak 58 #[aO cj] br aM (λ(bZ:aB) b9=>az gP br b9 (nE (aT (Instr.buildSlice 65 1 #[(0,.agg (kV cm).toArray)]) b9 aM (λ(cJ:aB) bW=>az gP b9 bW (nE (aT (Builtin.append_ #[65,65] 65 #[aO bZ,aO cJ]) bW aM (λ(du:aB) cH=>az gP bW cH (nE (ak 78 #[aO bP] cH aM (λ(eB:aB) cZ=>az gP cH cZ (aT (Instr.buildSlice 111 1 #[(0,.int .u64 bG.1)]) cZ aM (λ(cR:aB) de=>az gP cZ de (aT (Builtin.append_ #[111,111] 111 #[aO eB,aO cR]) de aM (λ(eD:aB) cS=>aK (p0.add 16) (aO du) cS (λ gr=>aK (p0.add 17) (aO eD) gr (λ cN=>K (aa 0) cN))))))))
 (aT (Instr.buildSlice 111 1 #[(0,.int .u64 bG.1)]) cH aM (λ(dt:aB) dQ=>az gP cH dQ (ak 78 #[aO bP] dQ aM (λ(fk:aB) jc=>aT (Builtin.append_ #[111,111] 111 #[aO fk,aO dt]) jc aM (λ(eY:aB) dW=>aK (p0.add 16) (aO du) dW (λ fI=>aK (p0.add 17) (aO eY) fI (λ jj=>K (aa 0) jj))))))))))
 (aT (Instr.buildSlice 111 1 #[(0,.int .u64 bG.1)]) bW aM (λ(iT:aB) fw=>az gP bW fw (aT (Builtin.append_ #[65,65] 65 #[aO bZ,aO cJ]) fw aM (λ(gC:aB) iI=>az gP fw iI (ak 78 #[aO bP] iI aM (λ(mL:aB) ij=>aT (Builtin.append_ #[111,111] 111 #[aO mL,aO iT]) ij aM (λ(kZ:aB) kf=>aK (p0.add 16) (aO gC) kf (λ jb=>aK (p0.add 17) (aO kZ) jb (λ jv=>K (aa 0) jv))))))))))))
 (aT (Instr.buildSlice 111 1 #[(0,.int .u64 bG.1)]) b9 aM (λ(iJ:aB) pT=>az gP b9 pT (aT (Instr.buildSlice 65 1 #[(0,.agg (kV cm).toArray)]) pT aM (λ(nV:aB) jx=>az gP pT jx (aT (Builtin.append_ #[65,65] 65 #[aO bZ,aO nV]) jx aM (λ(kc:aB) kn=>az gP jx kn (ak 78 #[aO bP] kn aM (λ(Bg:aB) wj=>aT (Builtin.append_ #[111,111] 111 #[aO Bg,aO iJ]) wj aM (λ(uU:aB) xS=>aK (p0.add 16) (aO kc) xS (λ oZ=>aK (p0.add 17) (aO uU) oZ (λ xX=>K (aa 0) xX))))))))))))))
 (nE (aT (Instr.buildSlice 65 1 #[(0,.agg (kV cm).toArray)]) br aM (λ(vl:aB) lT=>az gP br lT (nE (ak 58 #[aO cj] lT aM (λ(uV:aB) lQ=>az gP lT lQ (nE (aT (Builtin.append_ #[65,65] 65 #[aO uV,aO vl]) lQ aM (λ(ya:aB) AK=>az gP lQ AK (nE (ak 78 #[aO bP] AK aM (λ(uZ:aB) yB=>az gP AK yB (aT (Instr.buildSlice 111 1 #[(0,.int .u64 bG.1)]) yB aM (λ(x69:aB) Wz=>az gP yB Wz (aT (Builtin.append_ #[111,111] 111 #[aO uZ,aO x69]) Wz aM (λ(OR:aB) w72=>aK (p0.add 16) (aO ya) w72 (λ u0=>aK (p0.add 17) (aO OR) u0 (λ w74=>K (aa 0) w74))))))))
 (aT (Instr.buildSlice 111 1 #[(0,.int .u64 bG.1)]) AK aM (λ(AL:aB) u6=>az gP AK u6 (ak 78 #[aO bP] u6 aM (λ(Fv:aB) pR=>aT (Builtin.append_ #[111,111] 111 #[aO Fv,aO AL]) pR aM (λ(x79:aB) Nz=>aK (p0.add 16) (aO ya) Nz (λ IV=>aK (p0.add 17) (aO x79) IV (λ w82=>K (aa 0) w82))))))))))
 (aT (Instr.buildSlice 111 1 #[(0,.int .u64 bG.1)]) lQ aM (λ(OS:aB) OT=>az gP lQ OT (aT (Builtin.append_ #[65,65] 65 #[aO uV,aO vl]) OT aM (λ(OU:aB) WA=>az gP OT WA (ak 78 #[aO bP] WA aM (λ(x87:aB) JH=>aT (Builtin.append_ #[111,111] 111 #[aO x87,aO OS]) JH aM (λ(OV:aB) w90=>aK (p0.add 16) (aO OU) w90 (λ w91=>aK (p0.add 17) (aO OV) w91 (λ LX=>K (aa 0) LX))))))))))))
 (aT (Instr.buildSlice 111 1 #[(0,.int .u64 bG.1)]) lT aM (λ(x93:aB) wC=>az gP lT wC (ak 58 #[aO cj] wC aM (λ(x95:aB) OW=>az gP wC OW (aT (Builtin.append_ #[65,65] 65 #[aO x95,aO vl]) OW aM (λ(LY:aB) WB=>az gP OW WB (ak 78 #[aO bP] WB aM (λ(LZ:aB) EM=>aT (Builtin.append_ #[111,111] 111 #[aO LZ,aO x93]) EM aM (λ(L2:aB) EN=>aK (p0.add 16) (aO LY) EN (λ afU=>aK (p0.add 17) (aO L2) afU (λ EO=>K (aa 0) EO))))))))))))))
 (aT (Instr.buildSlice 111 1 #[(0,.int .u64 bG.1)]) br aM (λ(HX:aB) wD=>az gP br wD (nE (ak 58 #[aO cj] wD aM (λ(L3:aB) Cq=>az gP wD Cq (aT (Instr.buildSlice 65 1 #[(0,.agg (kV cm).toArray)]) Cq aM (λ(afV:aB) OX=>az gP Cq OX (aT (Builtin.append_ #[65,65] 65 #[aO L3,aO afV]) OX aM (λ(afW:aB) WC=>az gP OX WC (ak 78 #[aO bP] WC aM (λ(afX:aB) afY=>aT (Builtin.append_ #[111,111] 111 #[aO afX,aO HX]) afY aM (λ(afZ:aB) af0=>aK (p0.add 16) (aO afW) af0 (λ af1=>aK (p0.add 17) (aO afZ) af1 (λ af2=>K (aa 0) af2)))))))))))
 (aT (Instr.buildSlice 65 1 #[(0,.agg (kV cm).toArray)]) wD aM (λ(af3:aB) OY=>az gP wD OY (ak 58 #[aO cj] OY aM (λ(af4:aB) OZ=>az gP OY OZ (aT (Builtin.append_ #[65,65] 65 #[aO af4,aO af3]) OZ aM (λ(af5:aB) WD=>az gP OZ WD (ak 78 #[aO bP] WD aM (λ(af6:aB) af7=>aT (Builtin.append_ #[111,111] 111 #[aO af6,aO HX]) af7 aM (λ(af8:aB) af9=>aK (p0.add 16) (aO af5) af9 (λ aga=>aK (p0.add 17) (aO af8) aga (λ agb=>K (aa 0) agb))))))))))))))))))))))))))))))))))))
def pl177:aN:=(.seq .auto (.seq .auto (.seq (.held (.soft 0 (.soft 1 (.soft 2 (.soft 3 (.soft 4 (.soft 6 (.pick 5 (.last 7 (.soft 8 (.soft 9 (.soft 10 (.soft 11 (.soft 12 .done)))))) .stop)))))))) (.seq .auto (.seq (.held (.soft 0 (.soft 1 (.soft 2 (.soft 3 (.soft 4 (.soft 5 (.soft 7 (.soft 10 (.soft 11 (.soft 12 (.soft 13 (.soft 15 (.pick 6 (.pick 8 (.pick 9 (.pick 14 (.pick 16 (.last 17 (.soft 18 (.soft 19 (.last 20 (.soft 21 (.soft 22 (.last 23 .done))))))) .stop) (.pick 16 (.last 14 (.last 17 (.soft 18 (.soft 19 (.last 20 (.soft 21 (.soft 22 (.last 23 .done)))))))) .stop)) (.pick 16 (.pick 9 (.last 14 (.last 17 (.soft 18 (.soft 19 (.last 20 (.soft 21 (.soft 22 (.last 23 .done)))))))) .stop) .stop)) (.pick 16 (.pick 8 (.pick 9 (.last 14 (.last 17 (.soft 18 (.soft 19 (.last 20 (.soft 21 (.soft 22 (.last 23 .done)))))))) .stop) .stop) .stop)) (.pick 8 (.pick 6 (.pick 9 (.pick 14 (.pick 16 (.last 17 (.soft 18 (.soft 19 (.last 20 (.soft 21 (.soft 22 (.last 23 .done))))))) .stop) (.pick 16 (.last 14 (.last 17 (.soft 18 (.soft 19 (.last 20 (.soft 21 (.soft 22 (.last 23 .done)))))))) .stop)) (.pick 16 (.pick 9 (.last 14 (.last 17 (.soft 18 (.soft 19 (.last 20 (.soft 21 (.soft 22 (.last 23 .done)))))))) .stop) .stop)) (.pick 16 (.pick 6 (.pick 9 (.last 14 (.last 17 (.soft 18 (.soft 19 (.last 20 (.soft 21 (.soft 22 (.last 23 .done)))))))) .stop) .stop) .stop)) (.pick 16 (.pick 6 (.pick 8 (.pick 9 (.last 14 (.last 17 (.soft 18 (.soft 19 (.last 20 (.soft 21 (.soft 22 (.last 23 .done)))))))) .stop) .stop) (.pick 8 (.pick 6 (.pick 9 (.last 14 (.last 17 (.soft 18 (.soft 19 (.last 20 (.soft 21 (.soft 22 (.last 23 .done)))))))) .stop) .stop) .stop)) .stop)))))))))))))))) .auto)))))
theorem c177 (p0 p1 w K)(h:C177 p0 p1 w K):au 177 #[aI p0,.agg (kV p1).toArray] w K:=aQ Tryz.func177 (p:=pl177) aA h
def C20 (p0:Addr)(w:ah)(K:aP):Prop:=
 af .bE (p0.add 16) w (λ(x1:aB)=>K (aa (x1.2.1:Int)) w)
def pl20:aN:=.auto
theorem c20 (p0 w K)(h:C20 p0 w K):au 20 #[aI p0] w K:=aQ Tryz.func20 (p:=pl20) aA h
def C18 (p0:Addr)(w:ah)(K:aP):Prop:=
 aU w (λ w1=>af .bE (p0.add 17) w1 (λ(x2:aB)=>af .bE (p0.add 17) w1 (λ(x3:aB)=>cz x2.1 x2.2.1 (IntKind.i64.wrap ((x3.2.1:Int) - 1)) 1 (λ a4=>af (.int .u64) a4 w1 (λ(x5:Int)=>K (.int .u64 x5) w1)))))
def pl18:aN:=(.seq .auto (.seq .still .auto))
theorem c18 (p0 w K)(h:C18 p0 w K):au 18 #[aI p0] w K:=aQ Tryz.func18 (p:=pl18) aA h
def C176 (p0:Addr)(p1:Int)(w:ah)(K:aP):Prop:=
 ae (decide (p1<0))
 (K (.tuple #[.int .u64 0,.bool false]) w)
 (af .bE (p0.add 17) w (λ(x1:aB)=>ae (decide (p1 >= (x1.2.1:Int)))
 (K (.tuple #[.int .u64 0,.bool false]) w)
 (af .bE (p0.add 17) w (λ(x2:aB)=>cz x2.1 x2.2.1 p1 1 (λ a3=>af (.int .u64) a3 w (λ(x4:Int)=>K (.tuple #[.int .u64 x4,.bool true]) w))))))
def pl176:aN:=.auto
theorem c176 (p0 p1 w K)(h:C176 p0 p1 w K):au 176 #[aI p0,aa p1] w K:=aQ Tryz.func176 (p:=pl176) aA h
def C27 (p0:Addr)(w:ah)(K:aP):Prop:=
 af .bE (p0.add 16) w (λ(x1:aB)=>ak 58 #[aO x1] w aM (λ(x2:aB) w3=>K (aO x2) w3))
def pl27:aN:=.auto
theorem c27 (p0 w K)(h:C27 p0 w K):au 27 #[aI p0] w K:=aQ Tryz.func27 (p:=pl27) aA h
def C46 (p0:Addr)(w:ah)(K:aP):Prop:=
 aU w (λ w1=>bL (λ S2=>aJ S2 (p0.add 0) (fL 16 (p0.add 0) w1 (λ x3=>aJ S2 (p0.add 16) (af .bE (p0.add 16) w1 (λ(x4:aB)=>aJ S2 (p0.add 17) (af .bE (p0.add 17) w1 (λ(x5:aB)=>ak 58 #[aO x4] w1 aM (λ(x6:aB) w7=>az S2 w1 w7 (ak 78 #[aO x5] w7 aM (λ(x8:aB) w9=>az S2 w7 w9 (xz [.int .u8,.int .u8,.int .u8,.int .u8,.int .u8,.int .u8,.int .u8,.int .u8,.int .u8,.int .u8,.int .u8,.int .u8,.int .u8,.int .u8,.int .u8,.int .u8] x3 (λ(bG:Int×Int×Int×Int×Int×Int×Int×Int×Int×Int×Int×Int×Int×Int×Int×Int×Unit)=>aC (.cells #[.int .u8 bG.1,.int .u8 bG.2.1,.int .u8 bG.2.2.1,.int .u8 bG.2.2.2.1,.int .u8 bG.2.2.2.2.1,.int .u8 bG.2.2.2.2.2.1,.int .u8 bG.2.2.2.2.2.2.1,.int .u8 bG.2.2.2.2.2.2.2.1,.int .u8 bG.2.2.2.2.2.2.2.2.1,.int .u8 bG.2.2.2.2.2.2.2.2.2.1,.int .u8 bG.2.2.2.2.2.2.2.2.2.2.1,.int .u8 bG.2.2.2.2.2.2.2.2.2.2.2.1,.int .u8 bG.2.2.2.2.2.2.2.2.2.2.2.2.1,.int .u8 bG.2.2.2.2.2.2.2.2.2.2.2.2.2.1,.int .u8 bG.2.2.2.2.2.2.2.2.2.2.2.2.2.2.1,.int .u8 bG.2.2.2.2.2.2.2.2.2.2.2.2.2.2.2.1,aO x6,aO x8] 113) w9 (λ g11 br=>az S2 w9 br (K (.pointer (some (ad g11))) br)))))))))))))))
def pl46:aN:=(.seq .auto (.seq (.held (.soft 0 (.soft 1 (.soft 2 (.soft 3 (.soft 4 (.soft 5 (.soft 6 (.soft 7 (.soft 9 (.soft 10 (.soft 11 (.soft 12 (.pick 8 (.pick 13 (.soft 14 (.pick 15 (.soft 16 .done) .stop)) .stop) .stop)))))))))))))) .auto))
theorem c46 (p0 w K)(h:C46 p0 w K):au 46 #[aI p0] w K:=aQ Tryz.func46 (p:=pl46) aA h
theorem O0 (w:ah)(E s:Nat):aV w E s (none,0,0) []:=.inl ⟨rfl,rfl⟩
theorem O1 {t E s bytes:Nat}{z:av}(he:jR Tryz.prog t E s z bytes){w:ah}{v:Sl}{xs:List av}(h:eW w s v xs)(h1:∀ x∈xs,cG x=true)(hb:(2 * v.2.1+192) * bytes<=2 ^ 48){K:aP}
  (k:∀ (u:Sl) w',aV w' E s u xs->Fr none1 w w'->(∀ k,aH u k->w.heap.size<=k)->K (.slice u.1 u.2.1 u.2.2) w') :
  ae (Option.isNone v.1) (K (.slice none 0 0) w) (aT (Instr.buildSlice t 0 #[]) w aM (λ(x:aS×Nat×Nat) w2=>aT (Builtin.append_ #[t,t] t #[.slice x.1 x.2.1 x.2.2,.slice v.1 v.2.1 v.2.2]) w2 aM (λ(y:aS×Nat×Nat) w4=>K (.slice y.1 y.2.1 y.2.2) w4))):=by
 refine ae.by (λ hn=>?_) (λ hn=>?_)
 ·have hv:v.1=none:=by simpa using hn
  have:=(h.2.1 hv).2.2;subst this;exact k (none,0,0) w (O0 _ _ _) (Fr.refl _ _) λ k ⟨a,ha,_⟩=>by cases ha
 ·obtain⟨x,w2,hr,hx,nU,f2,xf⟩:=SR (P:=Tryz.prog) (w:=w) he [] bm bm
  refine⟨x,w2,hr,?_⟩;obtain⟨y,w4,EF,hy,gG,f4,yf⟩:=jf (P:=Tryz.prog) he t hx (h.ag f2) h1 (by rw[nU];simpa using hb);refine⟨y,w4,EF,k y w4 (by simpa using hy) (f2.comp f4 λ j hj q=>by have:=xf j q;omega) λ j hj=>?_⟩
  rcases yf j hj with q | q
  ·exact xf j q
  ·exact ez f2.size q
theorem ra:jR Tryz.prog 65 68 9 (.agg #[aa 0,.string ⟨#[]⟩,.string ⟨#[]⟩,.string ⟨#[]⟩,.string ⟨#[]⟩,aa 0,aa 0,.nilIface,.bool false]) 112:=⟨Tryz.underlying65,⟨Tryz.t68,by kernel_rfl,rfl,rfl,rfl⟩,rfl,by decide⟩
theorem mF:jR Tryz.prog 111 42 1 (.int .u64 0) 8:=⟨Tryz.underlying111,⟨Tryz.t42,by kernel_rfl,rfl,rfl,rfl⟩,rfl,by decide⟩
theorem JI:jR Tryz.prog 70 142 3 (.agg #[.string ⟨#[]⟩,aa 0,.nilIface]) 40:=⟨Tryz.underlying70,⟨Tryz.t142,by kernel_rfl,rfl,rfl,rfl⟩,rfl,by decide⟩
def JJ (w:ah)(E s:Nat)(xs:List av)(r:av)(w':ah):Prop:=∃ u:Sl,r=.slice u.1 u.2.1 u.2.2/\aV w' E s u xs/\Fr none1 w w'/\∀ k,aH u k->w.heap.size<=k
theorem Bi {v:Sl}{xs:List av}(h:eW w 9 v xs)(h1:∀ x∈xs,cG x=true)(hb:v.2.1<=1000000):au 58 #[.slice v.1 v.2.1 v.2.2] w (JJ w 68 9 xs):=by
 refine c58 v.1 v.2.1 v.2.2 w _ ?_;exact O1 ra h h1 ab λ u w' hu f uf=>⟨u,rfl,hu,f,uf⟩
theorem uz {v:Sl}{xs:List av}(h:eW w 1 v xs)(h1:∀ x∈xs,cG x=true)(hb:v.2.1<=1000000):au 78 #[.slice v.1 v.2.1 v.2.2] w (JJ w 42 1 xs):=by
 refine c78 v.1 v.2.1 v.2.2 w _ ?_;exact O1 mF h h1 ab λ u w' hu f uf=>⟨u,rfl,hu,f,uf⟩
theorem O2 {v:Sl}{xs:List av}(h:eW w 3 v xs)(h1:∀ x∈xs,cG x=true)(hb:v.2.1<=1000000):au 59 #[.slice v.1 v.2.1 v.2.2] w (JJ w 142 3 xs):=by
 refine c59 v.1 v.2.1 v.2.2 w _ ?_;exact O1 JI h h1 ab λ u w' hu f uf=>⟨u,rfl,hu,f,uf⟩
abbrev ql:List Ck:=[.int .u8,.int .u8,.int .u8,.int .u8,.int .u8,.int .u8,.int .u8,.int .u8,.int .u8,.int .u8,.int .u8,.int .u8,.int .u8,.int .u8,.int .u8,.int .u8]
theorem O3:∀ (n:Nat) (kb:ai),kb.length=n->∃ y:Cs (List.replicate n (.int .u8)),kb.map bc=Cs.vals (List.replicate n (.int .u8)) y
 | 0,[],_=>⟨(),rfl⟩
 | n+1,b::kb,h=>by
  obtain⟨y,hy⟩:=O3 n kb (by simpa using h);exact⟨((b.toNat:Int),y),by rw[gU,hy];rfl⟩
theorem Gu (hk:kb.length=16){K:Cs ql->Prop}(k:∀ y:Cs ql,Cs.vals ql y=dh kb->K y):xz ql (dh kb) K:=by
 obtain⟨y,hy⟩:=O3 16 kb hk;exact⟨y,hy,k y hy.symm⟩
def O4 (n:Int):av:=.int .u64 n
def lK (x:dS):List av:=ue x.1.e x.2
theorem agc (x:dS):(lK x).length=9:=rfl
theorem xq (x:dS):∀ v∈lK x,cG v=true:=by
 have:=M5 (e:=x.1.e) x.2 (Tm.cU x.1.t);exact λ v hv=>xN.1 this v hv
def vz (es:List dS):List av:=(es.map lK).flatten
theorem tt (es:List dS):(vz es).length=es.length * 9:=by
 induction es with
 | nil=>rfl
 | cons x es ih=>
  unfold vz at *;rw[gU,vV,bU,ih,agc,cY];omega
theorem Bj (es:List dS):∀ v∈vz es,cG v=true:=by
 intro v hv;unfold vz at hv;rw[List.mem_flatten] at hv;obtain⟨l,hl,hv⟩:=hv;obtain⟨x,_,rfl⟩:=kF.1 hl;exact xq x v hv
theorem uA (hs:List Int):∀ v∈hs.map O4,cG v=true:=by intro v hv;obtain⟨x,_,rfl⟩:=kF.1 hv;rfl
def qm (kb:ai)(l hd:Sl):List av:=dh kb++[.slice l.1 l.2.1 l.2.2,.slice hd.1 hd.2.1 hd.2.2]
structure lZ (w:ah)(F:bz)(c:Nat)(kb:ai)(es:List dS)(hs:List Int):Prop where
 out:∃ l hd:Sl,w.heap[c]? = some (.cells (qm kb l hd).toArray 113 (0,0))/\aV w 68 9 l (vz es)/\aV w 42 1 hd (hs.map O4)/\(∀ k,aH l k->F k/\k≠c)/\(∀ k,aH hd k->F k/\k≠c)
 mem:F c
theorem lZ.ao {T:bz}{es:List dS}{hs:List Int}(h:lZ w F c kb es hs)(f:Fr T w w')(hT:∀ k,F k->¬ T k):lZ w' F c kb es hs:=by
 obtain⟨⟨l,hd,h1,h2,h3,h4,h5⟩,hm⟩:=h;exact⟨⟨l,hd,f.ao h1 (hT c hm),h2.ao f (λ k hk=>hT k (h4 k hk).1),h3.ao f (λ k hk=>hT k (h5 k hk).1),h4,h5⟩,hm⟩
theorem lZ.ag {es:List dS}{hs:List Int}(h:lZ w F c kb es hs)(f:Fr none1 w w'):lZ w' F c kb es hs:=h.ao f λ _ _ t=>t
theorem l0:(dh kb).length=kb.length:=by unfold dh;simp
theorem uB (hk:kb.length=16)(l hd:Sl):(qm kb l hd).toArray[16]? = some (.slice l.1 l.2.1 l.2.2)/\(qm kb l hd).toArray[17]? = some (.slice hd.1 hd.2.1 hd.2.2):=by
 unfold qm;have:=l0 (kb:=kb)
 constructor
 ·rw[pJ,qw ab,this,hk];rfl
 ·rw[pJ,qw ab,this,hk];rfl
theorem WE (hk:kb.length=16){l hd:Sl}{T:TypeId}{fr:Nat×Nat}(h:w.heap[c]? = some (.cells (qm kb l hd).toArray T fr)){K:List av->Prop}(k:K (dh kb)):fL 16 ((⟨c,0,none⟩:Addr).add 0) w K:=by
 refine⟨dh kb,by rw[l0,hk],?_,k⟩;rw[eN];refine qt h _ 0 λ j hj=>?_;unfold qm;rw[pJ,eP,oV hj]
theorem agd (hk:kb.length=16)(w:ah):au 98 #[.agg (dh kb).toArray] w λ r w'=>∃ c,r=aZ c/\lZ w' (λ k=>w.heap.size<=k/\k<w'.heap.size) c kb [] [0]/\Fr none1 w w':=by
 refine c98 (dh kb) w _ ?_;unfold C98;refine aC.of λ g1 w1 eG aE f1 ng=>fL.of aE (by rw[l0,hk]) ?_;obtain⟨x,w2,hr,hx,nU,f2,xf⟩:=oT (P:=Tryz.prog) (w:=w1) mF (.int .u64 0) rfl;refine⟨x,w2,hr,Gu hk λ y hy=>aC.of λ g w3 hg hb f3 sX=>?_⟩;have hb:w3.heap[g]? = some (.cells (Cs.vals ql y++[Value.slice none 0 0,Value.slice x.1 x.2.1 x.2.2]).toArray 113 (0,0)):=hb;rw[hy] at hb;have s1:=f1.size;have s2:=f2.size;refine⟨g,rfl,⟨⟨(none,0,0),x,hb,O0 _ _ _,hx.ag f3,λ k ⟨a,ha,_⟩=>(by cases ha),λ k ja=>?_⟩,?_⟩,(f1.trans f2).trans f3⟩
 ·have:=xf k ja;have:=aV.lt hx ja;omega
 ·omega
theorem tu {es:List dS}{hs:List Int}(hk:kb.length=16)(h:lZ w F c kb es hs):au 20 #[aZ c] w λ r w'=>r=aa (es.length:Int)/\w=w':=by
 obtain⟨⟨l,hd,h1,h2,h3,h4,h5⟩,hm⟩:=h;refine c20 _ w _ ?_;have:=h2.len;rw[tt] at this;exact af.aw h1 (x:=l) (by rw[eP];exact(uB hk l hd).1) ⟨by rw[show l.2.1=es.length by omega],rfl⟩
theorem JK {es:List dS}{hs:List Int}(hk:kb.length=16)(h:lZ w F c kb es hs)(hl:hs.length=es.length+1)(uO:es.length<=1000):au 18 #[aZ c] w λ r w'=>r=.int .u64 (hs.getD es.length 0)/\Fr none1 w w':=by
 obtain⟨⟨l,hd,h1,h2,h3,h4,h5⟩,hm⟩:=h;refine c18 _ w _ ?_;unfold C18;refine aU.of λ w1 _ f1=>?_;have BF:=h3.len;rw[eI,jg] at BF;have bI:=cQ h1;refine af.aw (f1.ag h1) (x:=hd) (by rw[eP];exact(uB hk l hd).2) (af.aw (f1.ag h1) (x:=hd) (by rw[eP];exact(uB hk l hd).2) ?_);rw[wI (x:=(hd.2.1:Int) - 1) ab ab];refine aV.ld (h3.ag f1) (c:=.int .u64) ab ab (x:=hs.getD es.length 0) ?_ ⟨rfl,f1⟩;rw[show((hd.2.1:Int) - 1).toNat=es.length by omega,ig,cV ab,dB,cV ab];rfl
theorem WG {es:List dS}{hs:List Int}(hk:kb.length=16)(h:lZ w F c kb es hs)(n:Int):au 176 #[aZ c,aa n] w λ r w'=>
  r=.tuple #[.int .u64 (if n<0\/(hs.length:Int)<=n then 0 else hs.getD n.toNat 0),.bool (!decide (n<0\/(hs.length:Int)<=n))]/\w=w':=by
 obtain⟨⟨l,hd,h1,h2,h3,h4,h5⟩,hm⟩:=h;refine c176 _ n w _ ?_;unfold C176;have BF:=h3.len;rw[eI,jg] at BF;refine ae.dec (λ q=>?_) (λ q=>?_)
 ·rw[if_pos (.inl q),decide_eq_true (.inl q)];exact⟨rfl,rfl⟩
 refine af.aw h1 (x:=hd) (by rw[eP];exact(uB hk l hd).2) (ae.dec (λ q2=>?_) (λ q2=>?_))
 ·have e:n<0\/(hs.length:Int)<=n:=.inr ab
  rw[if_pos e,decide_eq_true e];exact⟨rfl,rfl⟩
 ·have e:¬ (n<0\/(hs.length:Int)<=n):=ab
  rw[if_neg e,decide_eq_false e];refine af.aw h1 (x:=hd) (by rw[eP];exact(uB hk l hd).2) (aV.ld h3 (c:=.int .u64) ab ab (x:=hs.getD n.toNat 0) ?_ ⟨rfl,rfl⟩);rw[ig,cV ab,dB,cV ab];rfl
theorem age {es:List dS}{hs:List Int}(hk:kb.length=16)(h:lZ w F c kb es hs)(hl:es.length<=1000):au 27 #[aZ c] w (JJ w 68 9 (vz es)):=by
 obtain⟨⟨l,hd,h1,h2,h3,h4,h5⟩,hm⟩:=h;refine c27 _ w _ ?_;have:=h2.len;rw[tt] at this;refine af.aw h1 (x:=l) (by rw[eP];exact(uB hk l hd).1) ?_;refine an.of (Bi h2.rd (Bj es) ab) ?_;rintro _ w1 ⟨u,rfl,hu,f,uf⟩;exact⟨u,rfl,u,rfl,hu,f,uf⟩
theorem O5 {es:List dS}{hs:List Int}(hk:kb.length=16)(h:lZ w F c kb es hs)(hl:es.length<=1000)(uO:hs.length<=1000):
  au 46 #[aZ c] w λ r w'=>∃ d,r=aZ d/\lZ w' (λ k=>w.heap.size<=k/\k<w'.heap.size) d kb es hs/\Fr none1 w w':=by
 obtain⟨⟨l,hd,h1,h2,h3,h4,h5⟩,hm⟩:=h;refine c46 _ w _ ?_;unfold C46;have e2:=h2.len;rw[tt] at e2;have e3:=h3.len;rw[eI,jg] at e3;refine aU.of λ w1 _ f1=>bL.all ?_;have rS:=f1.ag h1;refine aJ.all (WE hk rS (aJ.all (af.aw rS (x:=l) (by rw[eP];exact(uB hk l hd).1) (aJ.all (af.aw rS (x:=hd) (by rw[eP];exact(uB hk l hd).2) ?_)))));refine an.of (Bi (h2.ag f1).rd (Bj es) ab) ?_;rintro _ w2 ⟨u,rfl,hu,f2,uf⟩;refine⟨u,rfl,az.of f2 ?_⟩;refine an.of (uz ((h3.ag f1).ag f2).rd (uA hs) ab) ?_;rintro _ w3 ⟨v,rfl,hv,f3,vf⟩;refine⟨v,rfl,az.of f3 ?_⟩;refine Gu hk λ y hy=>aC.of λ g w4 hg hb f4 wS=>az.of f4 ?_;have hb:w4.heap[g]? = some (.cells (Cs.vals ql y++[Value.slice u.1 u.2.1 u.2.2,Value.slice v.1 v.2.1 v.2.2]).toArray 113 (0,0)):=hb;rw[hy] at hb;have s1:=f1.size;have s2:=f2.size;have s3:=f3.size;refine⟨g,rfl,⟨⟨u,v,hb,(hu.ag f3).ag f4,hv.ag f4,λ k ja=>?_,λ k ja=>?_⟩,?_⟩,((f1.trans f2).trans f3).trans f4⟩
 ·have:=uf k ja;have:=aV.lt hu ja;omega
 ·have:=vf k ja;have:=aV.lt hv ja;omega
 ·omega
theorem O6 (hk:kb.length=16){h:Int}(h0:0<=h)(h1:h<18446744073709551616){x:dS}(hx:eT x.1){w:ah}(ht:TabW w):
  au 175 #[.agg (dh kb).toArray,.int .u64 h,.agg (lK x).toArray] w λ r w'=>r=.tuple #[.int .u64 (dF kb h x).1,aa (dF kb h x).2]/\Fr none1 w w':=by
 refine c175 (dh kb) h (od x.1.e x.2) w _ ?_;unfold C175;refine aC.of λ g1 w1 eG aE f1 ng=>aC.of λ g3 w3 pV bJ f3 sX=>?_;refine aF.aR (cks:=qQ) (x:=od x.1.e x.2) bJ ?_;have f13:=f1.trans f3;have hz:=hx.e;have lR:=yj x.1.t;refine an.of (SL x.1.e x.2 (Az x.1.t) hz (bT x.1.t).1 ab (bT x.1.t).2 w3 (λ _ wa fa=>H0 x.1.t hx.2.2.2.2 wa (ht.ag (f13.trans fa)))) ?_;rintro _ w4 ⟨b,rfl,hb,f4,bf⟩;refine⟨(b,(iz x).2,()),rfl,?_⟩;have hb:cT w4 b (iz x).1:=hb;unfold dF;refine ae.ne (λ aL=>?_) (λ he=>?_)
 ·rw[if_pos aL];exact⟨rfl,f13.trans f4⟩
 rw[if_neg (λ t=>t he)];refine aU.of λ w5 _ f5=>bL.of (λ k=>k=g1) ⟨rfl,?_⟩;have f35:=f4.trans f5;refine fL.of (f35.ag (f3.ag aE)) (by rw[l0,hk]) ?_;have pF:(iz x).1.length<=100000000:=by
  have rP:=E3 x.1.e hz (bT x.1.t).1 ab (bT x.1.t).2;have rP:(dZ x.1).1.length<=_:=rP;unfold iz yo;split
  ·simp
  ·simp only[cY]
   have:(lA x.1.e (bT x.1.t).1 (bT x.1.t).2).1.length<=_:=rP;omega
 refine an.of (TD h h0 h1 w5) ?_;rintro _ w6 ⟨u,rfl,hu,f6,uf⟩;refine⟨u,rfl,az.of f6 ?_⟩;have s1:=f1.size;have s3:=f3.size;have s35:=f35.size;refine ab5 hu ((hb.ag f5).ag f6) (by rw[sW];omega) λ v w7 hv f7 _=>az.on f7 (λ k hk q=>by have:=uf k q;omega) ?_;refine an.of (Nb hk hv.rd hv.cap (by rw[bU,sW];omega)) ?_;rintro _ w8 ⟨rfl,f8⟩;have f57:Fr none1 w5 w7:=f6.comp f7 λ k hk q=>by have:=uf k q;omega
 exact⟨_,rfl,az.of f8 ⟨rfl,((f13.trans f35).trans f57).trans f8⟩⟩
end Go.Proofs.YtfolkckcakndkaaGreatDoor
