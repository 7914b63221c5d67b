/-
  Texts of this claim, put together.
  Conditions: those of each theorem.
-/
import Derived.Test.YtfolkckcakndkaaGreatDoorQDS0
import Derived.Test.YtfolkckcakndkaaGreatDoorQDS2
import Derived.Test.YtfolkckcakndkaaGreatDoorQDS3
import Derived.Test.YtfolkckcakndkaaGreatDoorQDS4
import Derived.Test.YtfolkckcakndkaaGreatDoorQDS5
import Derived.Test.YtfolkckcakndkaaGreatDoorQDS6
import Derived.KernelRfl
import Derived.Test.YtfolkckcakndkaaGreatDoorProg
set_option linter.unusedVariables false
set_option maxRecDepth 100000
namespace Go.Proofs.YtfolkckcakndkaaGreatDoor
open Vc
set_option maxRecDepth 100000
set_option maxHeartbeats 2000000
variable {w w':ah}{b g N fb fg c g1 j:Nat}{F S A:bz}{p q:PeerM}{kb bs x:ai}{d:DuoM}{l:fE}{E:Int}{a:cE}{T:TypeId}
theorem vG (p:PeerM)(c l:Nat):kz p c l=[aa p.side,aZ c,aZ l,aa p.off.1.1,.string (str p.off.1.2.1),.string (str p.off.1.2.2.1),.string (str p.off.1.2.2.2.1),.string (str p.off.1.2.2.2.2.1),aa p.off.1.2.2.2.2.2.1,aa p.off.1.2.2.2.2.2.2.1,p.off.1.2.2.2.2.2.2.2.v,.bool p.off.2,aa p.aW.1.1,.string (str p.aW.1.2.1),.string (str p.aW.1.2.2.1),.string (str p.aW.1.2.2.2.1),.string (str p.aW.1.2.2.2.2.1),aa p.aW.1.2.2.2.2.2.1,aa p.aW.1.2.2.2.2.2.2.1,p.aW.1.2.2.2.2.2.2.2.v,.bool p.aW.2,.bool p.wanted,.bool p.bD,aa p.refused]:=rfl
theorem ri (hk:kb.length=16){t:List av}{T:TypeId}(hb:w.heap[b]? = some (.cells (dh kb++t).toArray T (0,0)))(i:Nat)(hi:i<t.length){v:av}(h1:cG v=true){K:ah->Prop}
  (k:∀ w1,w1.heap[b]? = some (.cells (dh kb++t.set i v).toArray T (0,0))->Fr (only b) w w1->w1.heap.size=w.heap.size->K w1):aK ⟨b,16+i,none⟩ v w K:=by
 have hl:=l0 (kb:=kb);refine aK.of hb (by simp[hl,hk];omega) h1 λ w1 aE f1 s1=>k w1 ?_ f1 s1;rw[aE]
 congr 2
 apply Array.ext';rw[Eb];show(dh kb++t).set (16+i) v=_;rw[Ee _ _ ab,hl,hk]
 congr 2;omega
theorem Ka (hk:kb.length=16){t:List av}{T:TypeId}(hb:w.heap[b]? = some (.cells (dh kb++t).toArray T (0,0)))(i:Nat){vs:List av}(hi:i+vs.length<=t.length)(h1:vs.all cG=true){K:ah->Prop}
  (k:∀ w1,w1.heap[b]? = some (.cells (dh kb++vD t i vs).toArray T (0,0))->Fr (only b) w w1->w1.heap.size=w.heap.size->K w1):aG ⟨b,16+i,none⟩ vs w K:=by
 have hl:=l0 (kb:=kb);refine aG.at hb (by simp[hl,hk];omega) h1 λ w1 aE f1 s1=>k w1 ?_ f1 s1;rw[aE];have:=Pg vs t (dh kb) i;rw[hl,hk] at this;rw[this]
theorem agU (p:PeerM)(c l c' l':Nat)(es:List dS)(hs:List Int)(bX:fE):((vD (((kz p c l).set 1 (.pointer (some ⟨c',0,none⟩))).set 2 (.pointer (some ⟨l',0,none⟩))) 12 [aa 0,aj,aj,aj,aj,aa 0,aa 0,.nilIface,.bool false]).set 21 (.bool false))=kz { p with es:=es,hs:=hs,bX:=bX,aW:=(bH,false),wanted:=false } c' l':=by
 rw[vG,vG];rfl
theorem agV (h:eh w F b p)(hF:∀ k,F k->k<w.heap.size)(ho:cX p)(ht:TabW w)(x:dS)(hx:eT x.1):
  au 142 #[aZ b,.agg (lK x).toArray] w λ r w'=>r=aa (p.entry x).2/\eh w' (λ k=>F k\/cD w w' k) b (p.entry x).1/\Fr (only b) w w':=by
 have hR:=h;obtain⟨c,l,Fc,Fl,h⟩:=h;have hk:=ho.kb;have nk:=ho.num;have Du:=ho.hs;have hld:=ho.bX.num;refine c142 _ (od x.1.e x.2) w _ ?_;unfold C142;refine aC.of λ g1 w1 eG aE f1 _=>aU.of λ w2 _ f2=>bL.all ?_;have f12:=f1.trans f2;have h2:=h.ag f12;have bl:=cQ h.aR;refine aJ.all (h2.db hk 1 (ck:=.ptr) (x:=some ⟨c,0,none⟩) rfl (aJ.all (h2.db hk 2 (ck:=.ptr) (x:=some ⟨l,0,none⟩) rfl ?_)));refine an.of (O5 hk h2.ch ab ab) ?_;rintro _ w3 ⟨c',rfl,uL,f3⟩;refine⟨some ⟨c',0,none⟩,rfl,az.of f3 ?_⟩;have h3:=h2.ag f3;refine an.of (JO h3.ld ab) ?_;rintro _ w4 ⟨l',rfl,Av,f4⟩;refine⟨some ⟨l',0,none⟩,rfl,?_⟩
 try refine az.of f4 ?_
 have Kb:=uL.ag f4;refine an.of (tu hk Kb) ?_;rintro _ _ ⟨rfl,rfl⟩;refine⟨_,rfl,?_⟩;refine an.of (GH (p.es.length:Int) ab w4) ?_;rintro _ _ ⟨rfl,rfl⟩;refine⟨_,rfl,?_⟩;have f14:=(f12.trans f3).trans f4;have z1:=f12.size;have z3:=f3.size;have z4:=f4.size;have Xa:w4.heap[g1]? = some (.cells (lK x).toArray 68 (0,0)):=((f2.trans f3).trans f4).ag aE;refine aF.aR (cks:=qQ) (x:=od x.1.e x.2) Xa ?_;refine an.of (agA hk Kb (λ k hk=>by have:=hk.2;omega) Du ab ho.lH hx (ht.ag f14)) ?_;have eA:yU p.kb p.es p.hs x=if 64<=p.es.length then 5 else(dF p.kb p.head x).2:=rfl;have e0:p.entry x=if 64<=p.es.length then(p,5) else if(dF p.kb p.head x).2≠0 then(p,(dF p.kb p.head x).2) else
   if x.2=false/\(jo p.bX x.1 (PeerM.owner p.len)).2≠0 then(p,(jo p.bX x.1 (PeerM.owner p.len)).2) else
   ({ p with es:=p.es++[x],hs:=p.hs++[(dF p.kb p.head x).1],bX:=if x.2=true then p.bX else(jo p.bX x.1 (PeerM.owner p.len)).1,aW:=(bH,false),wanted:=false },0):=rfl
 rintro _ w5 ⟨rfl,DH,f5⟩;have uX:=uL.mem;have agW:yU p.kb p.es p.hs x=0->lZ w5 (λ k=>(w2.heap.size<=k/\k<w3.heap.size)\/cD w4 w5 k) c' p.kb (p.es++[x]) (p.hs++[(dF p.kb p.head x).1]):=DH;have z5:=f5.size;have f15:Fr none1 w w5:=f14.comp f5 λ k hk q=>by have:k=c':=q;have:=uX.1;omega
 have same:∀ {w':ah},Fr none1 w w'->eh w' (λ k=>F k\/cD w w' k) b p/\Fr (only b) w w':=λ f=>⟨(hR.ag f).mono λ k hk=>.inl hk,f.mono λ _ _ t=>t.elim⟩;refine⟨_,rfl,ae.ne (λ aL=>?_) (λ he=>?_)⟩
 ·have aL:yU p.kb p.es p.hs x≠0:=aL
  have e:p.entry x=(p,yU p.kb p.es p.hs x):=by
   rw[e0,eA];rw[eA] at aL;split
   ·rfl
   ·rename_i FH
    rw[if_neg FH] at aL;rw[if_pos aL]
  rw[e];exact⟨rfl,same f15⟩
 have he:yU p.kb p.es p.hs x=0:=he;have DH:=agW he;rw[eA] at he;have Xb:¬ 64<=p.es.length:=λ t=>by rw[if_pos t] at he;cases he
 rw[if_neg Xb] at he;rw[if_neg Xb,if_neg (λ t=>t he)] at e0;have g1c:g1≠c':=by have:=uX.1;have:=cQ (f2.ag aE);omega
 have Fq:=f5.ao Xa g1c;have Kc:=Av.ao f5 λ k hk q=>by have:k=c':=q;have:=uX.2;have:=hk.1;omega
 have h5:=h.ag f15
 -- the end, alike in both
 have fin:∀ {wx:ah} (bX:fE) {Fx Gx:bz},Fr none1 w wx->lZ wx Fx c' p.kb (p.es++[x]) (p.hs++[(dF p.kb p.head x).1])->gj wx Gx l' bX->(∀ k,Fx k->cD w wx k)->(∀ k,Gx k->cD w wx k) ->
   p.entry x=({ p with es:=p.es++[x],hs:=p.hs++[(dF p.kb p.head x).1],bX:=bX,aW:=(bH,false),wanted:=false },0) ->
   aK ((⟨b,0,none⟩:Addr).add 17) (.pointer (some ⟨c',0,none⟩)) wx λ cH=>aK ((⟨b,0,none⟩:Addr).add 18) (.pointer (some ⟨l',0,none⟩)) cH λ dM=>aG ((⟨b,0,none⟩:Addr).add 28) [aa 0,aj,aj,aj,aj,aa 0,aa 0,.nilIface,.bool false] dM λ cZ=>aK ((⟨b,0,none⟩:Addr).add 37) (.bool false) cZ λ eJ=>
    (Value.int .i64 0=aa (p.entry x).2/\eh eJ (λ k=>F k\/cD w eJ k) b (p.entry x).1/\Fr (only b) w eJ):=by
  intro wx bX Fx Gx fx hcx hlx Xc Xd e;have hx:=h.ag fx;rw[e];refine ri hk hx.aR 1 (by rw[tv];decide) rfl λ wa ha fa sa=>?_;refine ri hk ha 2 (by simp[tv]) rfl λ wb hb fb sb=>?_;refine Ka hk hb 12 (by simp[tv]) rfl λ wc hc fc sc=>?_;refine ri hk hc 21 (by simp[vD,tv]) rfl λ wd hd fd sd=>?_;rw[agU p c l c' l' (p.es++[x]) (p.hs++[(dF p.kb p.head x).1]) bX] at hd;have ff:=((fa.trans fb).trans fc).trans fd;have zx:=fx.size;refine⟨rfl,⟨c',l',Fx,Gx,hd,hcx.ao ff (λ k hk q=>by have:=(Xc k hk).1;have:k=b:=q;omega),hlx.ao ff (λ k hk q=>by have:=(Xd k hk).1;have:k=b:=q;omega),λ k hk=>?_,λ k hk=>?_,.inl h.mem⟩,fx.fN ff⟩
  ·have q:=Xc k hk;exact⟨.inr ⟨q.1,by have:=q.2;omega⟩,by have:=q.1;omega⟩
  ·have q:=Xd k hk;exact⟨.inr ⟨q.1,by have:=q.2;omega⟩,by have:=q.1;omega⟩
 refine af.aw Fq (x:=x.2) rfl (ae.not (ae.by (λ hr=>?_) (λ hr=>?_)))
 ·have hr:x.2=true:=hr
  rw[if_neg (by rw[hr];simp),if_pos hr] at e0;exact fin p.bX f15 DH Kc (λ k hk=>by rcases hk with q | q<;>exact⟨by have:=q.1;omega,by have:=q.2;omega⟩) (λ k hk=>⟨by have:=hk.1;omega,by have:=hk.2;omega⟩) e0
 have hr:x.2=false:=hr;have CN:∀ {K:Cs ky->Prop},K x.1.e->aF ky ((⟨g1,0,none⟩:Addr).add 0) w5 K:=λ k=>by
  rw[eN];refine⟨x.1.e,qt Fq _ 0 λ j hj=>?_,k⟩
  match j,hj with
  | 0,_=>rfl
  | 1,_=>rfl
  | 2,_=>rfl
  | 3,_=>rfl
  | 4,_=>rfl
  | 5,_=>rfl
  | 6,_=>rfl
  | 7,_=>rfl
 refine CN ?_;refine an.of (agx Kc (λ k hk=>by have:=hk.2;omega) ho.bX x.1 hx.2.2.2.2 (ht.ag f15) (PeerM.owner p.len)) ?_;rintro _ w6 ⟨rfl,hl6,f6⟩;have hlm:=Av.mem;have z6:=f6.size;have f16:Fr none1 w w6:=f15.comp f6 λ k hk q=>by have:k=l':=q;have:=hlm.1;omega
 refine⟨_,rfl,ae.ne (λ aL=>?_) (λ mW=>?_)⟩
 ·have aL:(jo p.bX x.1 (PeerM.owner p.len)).2≠0:=aL
  rw[if_pos ⟨hr,aL⟩] at e0;rw[e0];exact⟨rfl,same f16⟩
 have mW:(jo p.bX x.1 (PeerM.owner p.len)).2=0:=mW;rw[if_neg (λ t=>t.2 mW),if_neg (by rw[hr];simp)] at e0;exact fin _ f16 (DH.ao f6 λ k hk q=>by have:k=l':=q;have:=hlm.1;have:=hlm.2;rcases hk with t | t<;>(have:=t.1;have:=t.2;omega)) hl6 (λ k hk=>by rcases hk with q | q<;>exact⟨by have:=q.1;omega,by have:=q.2;omega⟩) (λ k hk=>by rcases hk with q | q<;>exact⟨by have:=q.1;omega,by have:=q.2;omega⟩) e0
theorem Xe (p:PeerM)(c l:Nat)(m:bu)(d:Bool):vD (kz p c l) 3 [aa m.e.1,.string m.e.2.1,.string m.e.2.2.1,.string m.e.2.2.2.1,.string m.e.2.2.2.2.1,aa m.e.2.2.2.2.2.1,aa m.e.2.2.2.2.2.2.1,m.e.2.2.2.2.2.2.2.1,.bool d]=kz { p with off:=(m,d) } c l:=by
 rw[vG,vG];rfl
theorem agX (p:PeerM)(c l:Nat)(m:bu)(d:Bool):vD (kz p c l) 12 [aa m.e.1,.string m.e.2.1,.string m.e.2.2.1,.string m.e.2.2.2.1,.string m.e.2.2.2.2.1,aa m.e.2.2.2.2.2.1,aa m.e.2.2.2.2.2.2.1,m.e.2.2.2.2.2.2.2.1,.bool d]=kz { p with aW:=(m,d) } c l:=by
 rw[vG,vG];rfl
theorem agY (p:PeerM)(c l:Nat)(d:Bool):(kz p c l).set 21 (.bool d)=kz { p with wanted:=d } c l:=by rw[vG,vG];rfl
theorem agZ (p:PeerM)(c l:Nat)(d:Bool):(kz p c l).set 22 (.bool d)=kz { p with bD:=d } c l:=by rw[vG,vG];rfl
theorem Xf (m:bu)(d:Bool):[Value.int .i64 m.e.1,.string m.e.2.1,.string m.e.2.2.1,.string m.e.2.2.2.1,.string m.e.2.2.2.2.1,aa m.e.2.2.2.2.2.1,aa m.e.2.2.2.2.2.2.1,m.e.2.2.2.2.2.2.2.1,.bool d].all cG=true:=by
 show(_&&(_&&(_&&(_&&(_&&(_&&(_&&(cG m.t.v&&(_&&true)))))))))=true;rw[Tm.cU];rfl
theorem ov.put {l:Nat}{Fc Fl:bz}(h:ov w F b p c l Fc Fl)(f:Fr (only b) w w')(hb:w'.heap[b]? = some (.cells (dh q.kb++kz q c l).toArray 107 (0,0)))(e1:q.kb=p.kb)(e2:q.es=p.es)(e3:q.hs=p.hs)(e4:q.bX=p.bX):ov w' F b q c l Fc Fl:=
 ⟨hb,by rw[e1,e2,e3];exact h.ch.ao f λ k hk q=>(h.cf k hk).2 q,by rw[e4];exact h.ld.ao f λ k hk q=>(h.lf k hk).2 q,h.cf,h.lf,h.mem⟩
theorem ag0 (h:eh w F b p)(ho:cX p)(ht:TabW w)(m:bu)(hm:bj m.t<=1000000):
  au 73 #[aZ b,ke m.e] w λ r w'=>r=aa (p.offer m).2/\eh w' F b (p.offer m).1/\Fr (only b) w w':=by
 have hR:=h;obtain⟨c,l,Fc,Fl,h⟩:=h;have hk:=ho.kb;refine c73 _ m.e w _ ?_;unfold C73;refine aC.of λ g1 w1 eG aE f1 _=>?_;have e1:nC w1 g1 m:=aE;have h1:=h.ag f1;have same:∀ {w':ah},Fr none1 w w'->eh w' F b p/\Fr (only b) w w':=λ f=>⟨hR.ag f,f.mono λ _ _ t=>t.elim⟩;refine h1.db hk 22 (ck:=.bool) (x:=p.bD) rfl (ae.by (λ hq=>?_) (λ hq=>?_))
 ·have hq:p.bD=true:=hq
  have e:p.offer m=(p,13):=by unfold PeerM.offer;rw[if_pos hq]
  rw[e];exact⟨rfl,same f1⟩
 have q1:¬ p.bD=true:=by have hq:p.bD=false:=hq;rw[hq];simp
 refine dc.of (λ st w'=>st.1=decide (p.off.2=true\/(p.aW.2=true/\p.aW.1.kind≠1))/\w1=w') ?_ ?_
 ·refine h1.db hk 11 (ck:=.bool) (x:=p.off.2) rfl (ae.by (λ hq=>⟨?_,rfl⟩) (λ hq=>?_))
  ·have hq:p.off.2=true:=hq
   rw[decide_eq_true (.inl hq)]
  have hq:p.off.2=false:=hq;refine h1.db hk 20 (ck:=.bool) (x:=p.aW.2) rfl (ae.by (λ hp=>h1.db hk 12 (ck:=.int .i64) (x:=p.aW.1.kind) rfl ⟨?_,rfl⟩) (λ hp=>⟨?_,rfl⟩))
  ·have hp:p.aW.2=true:=hp
   dsimp only
   by_cases h1:p.aW.1.kind=1
   ·rw[decide_eq_false (by rw[hq];simp[h1])];simpa using h1
   ·rw[decide_eq_true (.inr ⟨hp,h1⟩)];simpa using h1
  ·have hp:p.aW.2=false:=hp
   rw[decide_eq_false (by rw[hq,hp];simp)]
 rintro _ ⟨st,_⟩ _ ⟨dH,rfl⟩;dsimp only at dH ⊢;subst dH;refine ae.dec (λ hb=>?_) (λ hb=>?_)
 ·have e:p.offer m=(p,9):=by unfold PeerM.offer;rw[if_neg q1,if_pos hb]
  rw[e];exact⟨rfl,same f1⟩
 refine an.of (Ph (hR.ag f1) hk) ?_;rintro _ _ ⟨rfl,rfl⟩;refine⟨_,rfl,ae.by (λ hf=>?_) (λ hf=>?_)⟩
 ·have e:p.offer m=(p,5):=by unfold PeerM.offer;rw[if_neg q1,if_neg hb,if_pos hf]
  rw[e];exact⟨rfl,same f1⟩
 have q3:¬ p.full=true:=by have hf:p.full=false:=hf;rw[hf];simp
 refine aU.of λ w2 _ f2=>?_;have f12:=f1.trans f2;have h2:=h1.ag f2;have e2:=e1.ag f2;refine h2.db hk 2 (ck:=.ptr) (x:=some ⟨l,0,none⟩) rfl (aF.aR (cks:=ky) (x:=m.e) e2 (h2.db hk 0 (ck:=.int .i64) (x:=p.side) rfl ?_));refine an.of (JS h2.ld ho.bX m hm (ht.ag f12) p.side) ?_;rintro _ w3 ⟨rfl,f3⟩;have f13:=f12.trans f3;have h3:=h2.ag f3;refine⟨_,rfl,ae.ne (λ aL=>?_) (λ he=>?_)⟩
 ·have e:p.offer m=(p,gT p.bX m p.side):=by unfold PeerM.offer;rw[if_neg q1,if_neg hb,if_neg q3,if_pos aL]
  rw[e];exact⟨rfl,same f13⟩
 have e:p.offer m=({ p with off:=(m,true) },0):=by unfold PeerM.offer;rw[if_neg q1,if_neg hb,if_neg q3,if_neg (λ t=>t he)]
 rw[e];refine aF.aR (cks:=ky) (x:=m.e) (e2.ag f3) ?_;refine Ka hk h3.aR 3 (by rw[tv];show 3+9<=24;decide) (Xf m true) λ w4 df f4 s4=>?_;rw[Xe p c l m true] at df;exact⟨rfl,⟨c,l,Fc,Fl,h3.put (q:={ p with off:=(m,true) }) f4 df rfl rfl rfl rfl⟩,f13.fN f4⟩
def kS (w:ah)(g:Nat)(a:cE)(s:Sl):Prop:=w.heap[g]? = some (.cells (iB a s).toArray 169 (0,0))
theorem kS.bB {s:Sl}(h:kS w g a s){K:Cs qQ->Prop}(k:K (od a.bB.1.e a.bB.2)):aF qQ ((⟨g,0,none⟩:Addr).add 2) w K:=by
 rw[eN];refine⟨od a.bB.1.e a.bB.2,zt h _ _ 0 λ j hj=>?_,k⟩;rw[tw]
 match j,hj with
 | 0,_=>rfl
 | 1,_=>rfl
 | 2,_=>rfl
 | 3,_=>rfl
 | 4,_=>rfl
 | 5,_=>rfl
 | 6,_=>rfl
 | 7,_=>rfl
 | 8,_=>rfl
theorem kS.cI {s:Sl}(h:kS w g a s){K:Cs ky->Prop}(k:K a.cI.e):aF ky ((⟨g,0,none⟩:Addr).add 11) w K:=by
 rw[eN];refine⟨a.cI.e,zt h _ _ 0 λ j hj=>?_,k⟩;rw[tw]
 match j,hj with
 | 0,_=>rfl
 | 1,_=>rfl
 | 2,_=>rfl
 | 3,_=>rfl
 | 4,_=>rfl
 | 5,_=>rfl
 | 6,_=>rfl
 | 7,_=>rfl
theorem kS.ld {s:Sl}(h:kS w g a s)(i:Nat){ck:Ck}{x:ck.C}(hx:(iB a s)[i]? = some (ck.val x)){K:ck.C->Prop}(k:K x):af ck ((⟨g,0,none⟩:Addr).add i) w K:=
 af.aw h (by rw[eP,pJ];exact hx) k
theorem ag1 (a:cE)(s:Sl)(v:Bool):(iB a s).set 19 (.bool v)=iB { a with drop:=v } s:=by rw[tw,tw];rfl
theorem Bk (a:cE)(s:Sl):(iB a s)[0]? = some (.bool a.cP)/\(iB a s)[1]? = some (.bool a.dz)/\(iB a s)[19]? = some (.bool a.drop)/\(iB a s)[20]? = some (.bool a.wanted)/\(iB a s)[21]? = some (.bool a.bD)/\(iB a s)[22]? = some (.bool a.calm):=by
 rw[tw];exact⟨rfl,rfl,rfl,rfl,rfl,rfl⟩
theorem kS.drop {s:Sl}(h:kS w g a s)(v:Bool){K:ah->Prop}(k:∀ w1,kS w1 g { a with drop:=v } s->Fr (only g) w w1->w1.heap.size=w.heap.size->K w1):aK ((⟨g,0,none⟩:Addr).add 19) (.bool v) w K:=by
 refine aK.aw h (by rw[JY];decide) rfl λ w1 aE f1 s1=>k w1 ?_ f1 s1;rw[eP,JX,ag1] at aE;exact aE
theorem Pt (h:eh w F b p)(hF:∀ k,F k->k<w.heap.size)(ho:cX p)(ht:TabW w)(a:cE)(s:Sl)(he:eT a.bB.1):
  au 101 #[aZ b,.agg (iB a s).toArray] w λ r w'=>r=aa (p.bx a).2/\eh w' (λ k=>F k\/cD w w' k) b (p.bx a).1/\Fr (only b) w w':=by
 have hk:=ho.kb;refine c101 _ (pq a s) w _ ?_;unfold C101;refine aC.of λ g1 w1 eG aE f1 _=>?_;have a1:kS w1 g1 a s:=aE;have l1:=cQ aE;have bF:F b:=by obtain⟨c,l,Fc,Fl,h⟩:=h;exact h.mem
 have bl:=hF b bF;have z1:=f1.size;have aL:g1≠b:=ab;have lift:∀ {wx wy:ah} {q:PeerM},eh wx (λ k=>F k\/cD w wx k) b q->wx.heap.size<=wy.heap.size->eh wx (λ k=>F k\/cD w wy k) b q:=λ hq hz=>hq.mono λ k hk=>hk.imp_right λ t=>⟨t.1,by have:=t.2;omega⟩;refine dc.of (λ _ w'=>∃ q:PeerM,(∀ a':cE,a'.cP=a.cP->True)/\p.bx a=(q.ended a,0)/\q.kb=p.kb/\eh w' (λ k=>F k\/cD w1 w' k) b q/\kS w' g1 a s/\Fr (only b) w w') ?_ ?_
 ·refine a1.ld 0 (ck:=.bool) (x:=a.cP) (Bk a s).1 (ae.by (λ hE=>?_) (λ hE=>?_))
  ·have hE:a.cP=true:=hE
   refine a1.bB ?_;refine an.of (agV (h.ag f1) (λ k hk=>by have:=hF k hk;omega) ho (ht.ag f1) a.bB he) ?_;rintro _ w2 ⟨rfl,h2,f2⟩;have z2:=f2.size;have Ig:eh w2 (λ k=>F k\/cD w w2 k) b (p.entry a.bB).1:=h2.mono λ k hk=>hk.imp_right λ t=>⟨by have:=t.1;omega,t.2⟩;refine⟨_,rfl,ae.ne (λ hn=>?_) (λ hz=>?_)⟩
   ·have hn:(p.entry a.bB).2≠0:=hn
    have e:p.bx a=(p,(p.entry a.bB).2):=by unfold PeerM.bx;rw[if_pos hE,if_pos hn]
    have e2:(p.entry a.bB).1=p:=by
     unfold PeerM.entry at hn ⊢;split
     ·rfl
     ·rename_i q1
      rw[if_neg q1] at hn;split
      ·rfl
      ·rename_i q2
       rw[if_neg q2] at hn;split
       ·rfl
       ·rename_i q3
        rw[if_neg q3] at hn;exact absurd rfl hn
    rw[e];rw[e2] at Ig;exact⟨rfl,Ig,f1.fN f2⟩
   ·have hz:(p.entry a.bB).2=0:=hz
    have e:p.bx a=((p.entry a.bB).1.ended a,0):=by unfold PeerM.bx;rw[if_pos hE,if_neg (λ t=>t hz)]
    refine⟨(p.entry a.bB).1,λ _ _=>trivial,e,?_,h2,f2.ao a1 aL,f1.fN f2⟩;unfold PeerM.entry
    repeat' split
    all_goals rfl
  ·have hE:a.cP=false:=hE
   refine⟨p,λ _ _=>trivial,?_,rfl,(h.ag f1).mono λ k hk=>.inl hk,a1,f1.mono λ _ _ t=>t.elim⟩;unfold PeerM.bx;rw[if_neg (by rw[hE];simp)]
 rintro _ _ w2 ⟨q,_,eC,ekb,h2,a2,f12⟩;rw[eC];have hk:q.kb.length=16:=by rw[ekb];exact hk
 have z12:=f12.size;refine dc.of (λ _ w'=>eh w' (λ k=>F k\/cD w1 w' k) b (q.lg a)/\kS w' g1 { a with drop:=q.oI a } s/\Fr (only b) w w') ?_ ?_
 ·refine a2.ld 1 (ck:=.bool) (x:=a.dz) (Bk a s).2.1 (ae.by (λ hP=>?_) (λ hP=>?_))
  ·have hP:a.dz=true:=hP
   have ep:q.lg a={ q with aW:=(a.cI,true) }:=by unfold PeerM.lg;rw[if_pos hP]
   have ed:q.oI a=(a.drop||(q.off.2&&vi q.off.1 a.cI)):=by unfold PeerM.oI;rw[hP];rfl
   refine a2.cI ?_;obtain⟨c,l,Fc,Fl,h2⟩:=h2;refine Ka hk h2.aR 12 (by rw[tv];show 12+9<=24;decide) (Xf a.cI true) λ w3 bJ f3 s3=>?_;rw[agX q c l a.cI true] at bJ;have h3:=h2.put (q:={ q with aW:=(a.cI,true) }) f3 bJ rfl rfl rfl rfl
   have a3:kS w3 g1 a s:=f3.ao a2 aL;refine aU.of λ w4 _ f4=>?_;have h4:=h3.ag f4;have a4:kS w4 g1 a s:=f4.ag a3;have f14:Fr (only b) w w4:=(f12.trans f3).et f4;have z4:=f4.size;have fin:∀ {w5 w6:ah} (v:Bool),Fr none1 w4 w5->kS w6 g1 { a with drop:=v } s->Fr (only g1) w5 w6->w6.heap.size=w5.heap.size->q.oI a=v->(eh w6 (λ k=>F k\/cD w1 w6 k) b (q.lg a)/\kS w6 g1 { a with drop:=q.oI a } s/\Fr (only b) w w6):=by
    intro w5 w6 v f5 a6 f6 s6 e;have z5:=f5.size;have ht:∀ k,(F k\/cD w1 w2 k)->¬ (only g1) k:=λ k hk t=>by
     have:k=g1:=t
     rcases hk with hk | hk
     ·have:=hF k hk;omega
     ·have:=hk.1;omega
    rw[ep,e];refine⟨?_,a6,?_⟩
    ·have h6:=(h4.ag f5).ao f6 ht
     exact(show eh w6 _ b _ from⟨c,l,Fc,Fl,h6⟩).mono λ k hk=>hk.imp_right λ t=>⟨t.1,by have:=t.2;have:=f3.size;omega⟩
    ·exact(f14.et f5).comp f6 λ k hk t=>by have:k=g1:=t;omega
   refine a4.ld 19 (ck:=.bool) (x:=a.drop) (Bk a s).2.2.1 (ae.by (λ hd=>?_) (λ hd=>?_))
   ·have hd:a.drop=true:=hd
    exact a4.drop true λ w5 a5 f5 s5=>fin true (Fr.refl _ _) a5 f5 s5 (by rw[ed,hd];rfl)
   have hd:a.drop=false:=hd;refine h4.db hk 11 (ck:=.bool) (x:=q.off.2) rfl (ae.by (λ qp=>?_) (λ qp=>?_))
   ·have qp:q.off.2=true:=qp
    refine h4.yp hk 3 (cks:=ky) q.off.1.e (λ j hj=>?_) (a4.cI ?_)
    ·match j,hj with
     | 0,_=>rfl
     | 1,_=>rfl
     | 2,_=>rfl
     | 3,_=>rfl
     | 4,_=>rfl
     | 5,_=>rfl
     | 6,_=>rfl
     | 7,_=>rfl
    refine an.of (acF q.off.1 a.cI w4) ?_;rintro _ w5 ⟨rfl,f5⟩;refine⟨_,rfl,?_⟩;exact(show kS w5 g1 a s from f5.ag a4).drop _ λ w6 a6 f6 s6=>fin _ f5 a6 f6 s6 (by rw[ed,hd,qp];rfl)
   ·have qp:q.off.2=false:=qp
    exact a4.drop false λ w5 a5 f5 s5=>fin false (Fr.refl _ _) a5 f5 s5 (by rw[ed,hd,qp];rfl)
  ·have hP:a.dz=false:=hP
   have ep:q.lg a=q:=by unfold PeerM.lg;rw[if_neg (by rw[hP];simp)]
   have ed:q.oI a=a.drop:=by unfold PeerM.oI;rw[hP];simp
   rw[ep,ed];exact⟨h2,a2,f12⟩
 rintro _ _ w3 ⟨h3,a3,f13⟩;have GJ:(q.lg a).kb.length=16:=by
  have:(q.lg a).kb=q.kb:=by unfold PeerM.lg;split<;>rfl
  rw[this];exact hk
 have DI:(q.lg a).off=q.off/\(q.lg a).wanted=q.wanted/\(q.lg a).bD=q.bD:=by unfold PeerM.lg;split<;>exact⟨rfl,rfl,rfl⟩
 have eE:q.ended a={ q.lg a with off:=if q.oI a=true then(bH,false) else q.off,wanted:=q.wanted||a.wanted,bD:=(q.bD||a.bD)&&!a.calm }:=rfl
 generalize q.lg a=P at *;generalize q.oI a=D at *
 -- the end, alike in both
 have tail:∀ {wx:ah} (O:bu×Bool),O=(if D=true then(bH,false) else q.off)->eh wx (λ k=>F k\/cD w1 wx k) b { P with off:=O }->kS wx g1 { a with drop:=D } s->Fr (only b) w wx ->
   dc (Unit) (λ GF=>af .bool ((⟨b,0,none⟩:Addr).add 37) wx (λ(dt:Bool)=>ae dt
    (aK ((⟨b,0,none⟩:Addr).add 37) (.bool true) wx (λ dQ=>GF (()) dQ))
    (af .bool ((⟨g1,0,none⟩:Addr).add 20) wx (λ(fk:Bool)=>aK ((⟨b,0,none⟩:Addr).add 37) (.bool fk) wx (λ jc=>GF (()) jc)))))
   (λ _ s29 cN=>af .bool ((⟨b,0,none⟩:Addr).add 38) cN (λ(eY:Bool)=>ae eY
    (af .bool ((⟨g1,0,none⟩:Addr).add 22) cN (λ(gW:Bool)=>aK ((⟨b,0,none⟩:Addr).add 38) (.bool (!gW)) cN (λ fI=>(Value.int .i64 0=aa (q.ended a,(0:Int)).2/\eh fI (λ k=>F k\/cD w fI k) b (q.ended a,(0:Int)).1/\Fr (only b) w fI))))
    (af .bool ((⟨g1,0,none⟩:Addr).add 21) cN (λ(gn:Bool)=>ae gn
     (af .bool ((⟨g1,0,none⟩:Addr).add 22) cN (λ(iT:Bool)=>aK ((⟨b,0,none⟩:Addr).add 38) (.bool (!iT)) cN (λ fw=>(Value.int .i64 0=aa (q.ended a,(0:Int)).2/\eh fw (λ k=>F k\/cD w fw k) b (q.ended a,(0:Int)).1/\Fr (only b) w fw))))
     (aK ((⟨b,0,none⟩:Addr).add 38) (.bool false) cN (λ oB=>(Value.int .i64 0=aa (q.ended a,(0:Int)).2/\eh oB (λ k=>F k\/cD w oB k) b (q.ended a,(0:Int)).1/\Fr (only b) w oB))))))):=by
  intro wx O eO hx ax fx;rw[<- eO] at eE;obtain⟨c,l,Fc,Fl,hx⟩:=hx;refine dc.of (λ _ w'=>ov w' (λ k=>F k\/cD w1 wx k) b { P with off:=O,wanted:=q.wanted||a.wanted } c l Fc Fl/\kS w' g1 { a with drop:=D } s/\Fr (only b) w w'/\wx.heap.size<=w'.heap.size) ?_ ?_
  ·have put:∀ (v:Bool),v=(q.wanted||a.wanted)->aK ((⟨b,0,none⟩:Addr).add 37) (.bool v) wx (λ w'=>ov w' (λ k=>F k\/cD w1 wx k) b { P with off:=O,wanted:=q.wanted||a.wanted } c l Fc Fl/\kS w' g1 { a with drop:=D } s/\Fr (only b) w w'/\wx.heap.size<=w'.heap.size):=by
    intro v ev;refine ri (kb:=P.kb) GJ hx.aR 21 (by rw[tv];decide) rfl λ w4 df f4 s4=>?_;rw[agY { P with off:=O } c l v,ev] at df
    exact⟨hx.put (q:={ P with off:=O,wanted:=q.wanted||a.wanted }) f4 df rfl rfl rfl rfl,f4.ao ax aL,fx.trans f4,by omega⟩
   refine hx.db GJ 21 (ck:=.bool) (x:=P.wanted) rfl (ae.by (λ hw=>?_) (λ hw=>?_))
   ·exact put true (by rw[<- DI.2.1];have hw:P.wanted=true:=hw;rw[hw];rfl)
   ·exact ax.ld 20 (ck:=.bool) (x:=a.wanted) (Bk _ s).2.2.2.1 (put a.wanted (by rw[<- DI.2.1];have hw:P.wanted=false:=hw;rw[hw];rfl))
  rintro _ _ w4 ⟨h4,a4,f14,z4⟩;have put:∀ (v:Bool),v=((q.bD||a.bD)&&!a.calm)->aK ((⟨b,0,none⟩:Addr).add 38) (.bool v) w4 (λ w'=>(Value.int .i64 0=aa (q.ended a,(0:Int)).2/\eh w' (λ k=>F k\/cD w w' k) b (q.ended a,(0:Int)).1/\Fr (only b) w w')):=by
   intro v ev;refine ri (kb:=P.kb) GJ h4.aR 22 (by rw[tv];decide) rfl λ w5 dN f5 s5=>?_;rw[agZ { P with off:=O,wanted:=q.wanted||a.wanted } c l v,ev] at dN
   have h5:=h4.put (q:={ P with off:=O,wanted:=q.wanted||a.wanted,bD:=(q.bD||a.bD)&&!a.calm }) f5 dN rfl rfl rfl rfl
   refine⟨rfl,?_,f14.trans f5⟩;show eh w5 _ b (q.ended a);rw[eE];exact(show eh w5 _ b _ from⟨c,l,Fc,Fl,h5⟩).mono λ k hk=>hk.imp_right λ t=>⟨by have:=t.1;omega,by have:=t.2;omega⟩
  have DJ:=Bk { a with drop:=D } s
  refine h4.db GJ 22 (ck:=.bool) (x:=P.bD) rfl (ae.by (λ hq=>?_) (λ hq=>?_))
  ·have hq:P.bD=true:=hq
   exact a4.ld 22 (ck:=.bool) (x:=a.calm) DJ.2.2.2.2.2 (put (!a.calm) (by rw[<- DI.2.2,hq];rfl))
  have hq:P.bD=false:=hq;refine a4.ld 21 (ck:=.bool) (x:=a.bD) DJ.2.2.2.2.1 (ae.by (λ hu=>?_) (λ hu=>?_))
  ·have hu:a.bD=true:=hu
   exact a4.ld 22 (ck:=.bool) (x:=a.calm) DJ.2.2.2.2.2 (put (!a.calm) (by rw[<- DI.2.2,hq,hu];rfl))
  ·have hu:a.bD=false:=hu
   exact put false (by rw[<- DI.2.2,hq,hu];rfl)
 refine a3.ld 19 (ck:=.bool) (x:=D) (Bk _ s).2.2.1 (ae.by (λ hD=>?_) (λ hD=>?_))
 ·have hD:D=true:=hD
  obtain⟨c,l,Fc,Fl,h3⟩:=h3;refine Ka (kb:=P.kb) GJ h3.aR 3 (by rw[tv];show 3+9<=24;decide) rfl λ w4 df f4 s4=>?_;have e9:=Xe P c l bH false;rw[show[Value.int .i64 bH.e.1,.string bH.e.2.1,.string bH.e.2.2.1,.string bH.e.2.2.2.1,.string bH.e.2.2.2.2.1,aa bH.e.2.2.2.2.2.1,aa bH.e.2.2.2.2.2.2.1,bH.e.2.2.2.2.2.2.2.1,.bool false]=[aa 0,aj,aj,aj,aj,aa 0,aa 0,.nilIface,.bool false] from rfl] at e9;rw[e9] at df;have h4:=h3.put (q:={ P with off:=(bH,false) }) f4 df rfl rfl rfl rfl
  refine tail (bH,false) (by rw[if_pos hD]) ((show eh w4 _ b _ from⟨c,l,Fc,Fl,h4⟩).mono λ k hk=>hk.imp_right λ t=>⟨t.1,by have:=t.2;omega⟩) (f4.ao a3 aL) (f13.trans f4)
 ·have hD:D=false:=hD
  refine tail q.off (by rw[hD];rfl) ?_ a3 f13;have:({ P with off:=q.off }:PeerM)=P:=by rw[<- DI.1]
  rw[this];exact h3
theorem Xg (h:eh w F b p)(ho:cX p):au 17 #[aZ b] w λ r w'=>∃ c,r=aZ c/\lZ w' (cD w w') c p.kb p.es p.hs/\Fr none1 w w':=by
 obtain⟨c,l,Fc,Fl,h⟩:=h;have hk:=ho.kb;have:=ho.num;have:=ho.hs;refine c17 _ w _ ?_;refine h.db hk 1 (ck:=.ptr) (x:=some ⟨c,0,none⟩) rfl ?_;refine an.of (O5 hk h.ch ab ab) ?_;rintro _ w1 ⟨c',rfl,hc,f1⟩;exact⟨some ⟨c',0,none⟩,rfl,c',rfl,hc,f1⟩
theorem ag2 (hk:kb.length=16)(side:Int)(w:ah):au 68 #[.agg (dh kb).toArray,aa side] w λ r w'=>∃ b,r=aZ b/\eh w' (cD w w') b (j6 kb side)/\Fr none1 w w':=by
 refine c68 (dh kb) side w _ ?_;unfold C68;refine aC.of λ g1 w1 eG aE f1 _=>?_;have body:∀ (n:Int),n=(j6 kb side).side->∀ (w2:ah),Fr none1 w1 w2->∀ {w3 w4 w5:ah} {c l:Nat},lZ w3 (λ k=>w2.heap.size<=k/\k<w3.heap.size) c kb [] [0]->Fr none1 w2 w3->gj w4 (cD w3 w4) l Au->Fr none1 w3 w4->Fr none1 w4 w5->w4.heap.size<w5.heap.size ->
   w5.heap[w4.heap.size]? = some (.cells (dh kb++kz (j6 kb side) c l).toArray 107 (0,0))->eh w5 (cD w w5) w4.heap.size (j6 kb side)/\Fr none1 w w5:=by
  intro n hn w2 f2 w3 w4 w5 c l hc f3 hl f4 f5 z5 hb;have z1:=f1.size;have z2:=f2.size;have z3:=f3.size;have z4:=f4.size;exact⟨⟨c,l,_,_,hb,(hc.ag f4).ag f5,hl.ag f5,λ k hk=>⟨⟨by have:=hk.1;omega,by have:=hk.2;omega⟩,by have:=hk.2;omega⟩,λ k hk=>⟨⟨by have:=hk.1;omega,by have:=hk.2;omega⟩,by have:=hk.2;omega⟩,⟨by omega,z5⟩⟩,(((f1.trans f2).trans f3).trans f4).trans f5⟩
 refine ae.ne (λ hs=>?_) (λ hs=>?_)
 all_goals
  refine aU.of λ w2 _ f2=>bL.all (aJ.all (fL.of (f2.ag aE) (by rw[l0,hk]) (aJ.all (fL.of (f2.ag aE) (by rw[l0,hk]) ?_))));refine an.of (agd hk w2) ?_;rintro _ w3 ⟨c,rfl,hc,f3⟩;refine⟨some ⟨c,0,none⟩,rfl,az.of f3 ?_⟩;refine an.of (agh w3) ?_;rintro _ w4 ⟨l,rfl,hl,f4⟩;refine⟨some ⟨l,0,none⟩,rfl,?_⟩
  try refine az.of f4 ?_
  refine Gu hk λ y hy=>aC.of λ g w5 hg hb f5 Fe=>?_
  try refine az.of f5 ?_
  refine⟨g,rfl,?_⟩;subst hg
 ·have e:(j6 kb side).side=1:=by unfold j6;rw[if_neg hs]
  refine body 1 e.symm w2 f2 hc f3 hl f4 f5 ab ?_;have hb:w5.heap[w4.heap.size]? = some (.cells (Cs.vals ql y++([Value.int .i64 1,aZ c,aZ l]++(kj bH.e++([Value.bool false]++(kj bH.e++[Value.bool false,.bool false,.bool false,aa 0]))))).toArray 107 (0,0)):=hb;rw[hy] at hb;rw[hb];unfold kz;rw[e];rfl
 ·have hs:side=0:=hs
  have e:(j6 kb side).side=side:=by unfold j6;rw[if_pos hs,hs]
  refine body side e.symm w2 f2 hc f3 hl f4 f5 ab ?_;have hb:w5.heap[w4.heap.size]? = some (.cells (Cs.vals ql y++([Value.int .i64 side,aZ c,aZ l]++(kj bH.e++([Value.bool false]++(kj bH.e++[Value.bool false,.bool false,.bool false,aa 0]))))).toArray 107 (0,0)):=hb;rw[hy] at hb;rw[hb];unfold kz;rw[e];rfl
def il (N:Nat)(w:ah):Prop:=∃ w0,TabW w0/\w0.heap.size=N/\Fr none1 w0 w
theorem il.iC (h:il N w):TabW w:=by obtain⟨w0,t,_,f⟩:=h;exact t.ag f
theorem il.of (h:TabW w):il w.heap.size w:=⟨w,h,rfl,Fr.refl _ _⟩
theorem il.ao (h:il N w){T:bz}(f:Fr T w w')(hT:∀ k,T k->N<=k):il N w':=by
 obtain⟨w0,t,e,f0⟩:=h;exact⟨w0,t,e,f0.comp f λ k hk q=>by have:=hT k q;omega⟩
theorem il.ag (h:il N w)(f:Fr none1 w w'):il N w':=h.ao f λ _ t=>t.elim
theorem il.le (h:il N w):N<=w.heap.size:=by obtain⟨w0,_,e,f⟩:=h;have:=f.size;omega
theorem il.fr (h:il N w):∃ w0,w0.heap.size=N/\Fr none1 w0 w:=by obtain⟨w0,_,e,f⟩:=h;exact⟨w0,e,f⟩
def Bl (n:NodeM)(j pb wb:Nat):List av:=[aa n.side,aZ j,aZ pb,aZ wb,aa n.aY,aa n.number]
structure ib (N:Nat)(w:ah)(F:bz)(b:Nat)(n:NodeM)(fb fg j pb wb:Nat)(S Fp:bz):Prop where
 aR:w.heap[b]? = some (.cells (dh n.kb++Bl n j pb wb).toArray 162 (0,0))
 jr:kO w S j fb fg n.j.fs n.j.d n.j.rs
 pr:eh w Fp pb n.p
 wr:rQ w wb n.w.e n.w.h n.w.s
 own:F b/\F wb/\F j/\(∀ k,S k->F k)/\(∀ k,Fp k->F k)
 apart:b≠wb/\b≠j/\wb≠j/\¬ S b/\¬ S wb/\¬ Fp b/\¬ Fp wb/\¬ Fp j/\(∀ k,S k->¬ Fp k)
 file:¬ F fb/\¬ F fg
 lt:∀ k,F k->k<w.heap.size
 lo:∀ k,F k->N<=k
 yX:N<=fb
def jO (N:Nat)(w:ah)(F:bz)(b:Nat)(n:NodeM)(fb fg:Nat):Prop:=∃ j pb wb S Fp,ib N w F b n fb fg j pb wb S Fp
def vH (F:bz)(fb:Nat):bz:=λ k=>F k\/k=fb
theorem ib.ao {T:bz}{n:NodeM}{pb wb:Nat}{Fp:bz}(h:ib N w F b n fb fg j pb wb S Fp)(f:Fr T w w')(hT:∀ k,F k->¬ T k)(hb:¬ T fb)(hg:¬ T fg):ib N w' F b n fb fg j pb wb S Fp:=
 ⟨f.ao h.aR (hT b h.own.1),h.jr.ao f (hT j h.own.2.2.1) hb hg (λ k hk=>hT k (h.own.2.2.2.1 k hk)),h.pr.ao f (λ k hk=>hT k (h.own.2.2.2.2 k hk)),h.wr.ao f (hT wb h.own.2.1),h.own,h.apart,h.file,λ k hk=>nS (h.lt k hk) f.size,h.lo,h.yX⟩
theorem ib.ag {n:NodeM}{pb wb:Nat}{Fp:bz}(h:ib N w F b n fb fg j pb wb S Fp)(f:Fr none1 w w'):ib N w' F b n fb fg j pb wb S Fp:=h.ao f (λ _ _ t=>t) (λ t=>t) (λ t=>t)
theorem jO.ao {T:bz}{n:NodeM}(h:jO N w F b n fb fg)(f:Fr T w w')(hT:∀ k,F k->¬ T k)(hb:¬ T fb)(hg:¬ T fg):jO N w' F b n fb fg:=by
 obtain⟨j,pb,wb,S,Fp,h⟩:=h;exact⟨j,pb,wb,S,Fp,h.ao f hT hb hg⟩
theorem jO.ag {n:NodeM}(h:jO N w F b n fb fg)(f:Fr none1 w w'):jO N w' F b n fb fg:=h.ao f (λ _ _ t=>t) (λ t=>t) (λ t=>t)
theorem jO.lt {n:NodeM}(h:jO N w F b n fb fg):(∀ k,F k->k<w.heap.size)/\fb<w.heap.size/\fg<w.heap.size/\F b/\¬ F fb/\¬ F fg:=by
 obtain⟨j,pb,wb,S,Fp,h⟩:=h;exact⟨h.lt,h.jr.file.lt,h.jr.file.ug,h.own.1,h.file.1,h.file.2⟩
theorem jO.lo {n:NodeM}(h:jO N w F b n fb fg):(∀ k,F k->N<=k)/\N<=fb:=by
 obtain⟨j,pb,wb,S,Fp,h⟩:=h;exact⟨h.lo,h.yX⟩
theorem jO.file {n:NodeM}(h:jO N w F b n fb fg):js w fb fg n.j.fs:=by
 obtain⟨j,pb,wb,S,Fp,h⟩:=h;exact h.jr.file
theorem ib.db {n:NodeM}{pb wb:Nat}{Fp:bz}(h:ib N w F b n fb fg j pb wb S Fp)(hk:n.kb.length=16)(i:Nat){ck:Ck}{x:ck.C}(hx:(Bl n j pb wb)[i]? = some (ck.val x)){K:ck.C->Prop}(k:K x):af ck ⟨b,16+i,none⟩ w K:=
 af.of h.aR (by rw[yV hk];exact hx) k
theorem ib.key {n:NodeM}{pb wb:Nat}{Fp:bz}(h:ib N w F b n fb fg j pb wb S Fp)(hk:n.kb.length=16){K:List av->Prop}(k:K (dh n.kb)):fL 16 ((⟨b,0,none⟩:Addr).add 0) w K:=by
 refine⟨dh n.kb,by rw[l0,hk],?_,k⟩;rw[eN];refine qt h.aR _ 0 λ j hj=>?_;rw[pJ,eP,oV hj]
structure fR (N:Nat)(w:ah)(F:bz)(b:Nat)(n':NodeM)(fb fg:Nat)(w':ah)(F':bz)(dG:Nat):Prop where
 r:jO N w' F' b n' fb dG
 sub:∀ k,F' k->F k\/cD w w' k
 g:dG=fb\/dG=fg\/cD w w' dG
 f:Fr (vH F fb) w w'
theorem fR.refl {n:NodeM}(h:jO N w F b n fb fg):fR N w F b n fb fg w F fg:=⟨h,λ _ t=>.inl t,.inr (.inl rfl),Fr.refl _ _⟩
theorem fR.et {w1 w2:ah}{F':bz}{n':NodeM}{dG:Nat}(h:fR N w F b n' fb fg w1 F' dG)(f:Fr none1 w1 w2):fR N w F b n' fb fg w2 F' dG:=
 ⟨h.r.ag f,λ k hk=>(h.sub k hk).imp_right λ t=>⟨t.1,nS t.2 f.size⟩,h.g.imp_right λ t=>t.imp_right λ t=>⟨t.1,nS t.2 f.size⟩,h.f.et f⟩
theorem fR.fN {w1 w2:ah}{F':bz}{n':NodeM}{dG:Nat}(f:Fr none1 w w1)(h:fR N w1 F b n' fb fg w2 F' dG):fR N w F b n' fb fg w2 F' dG:=
 ⟨h.r,λ k hk=>(h.sub k hk).imp_right λ t=>⟨ez f.size t.1,t.2⟩,h.g.imp_right λ t=>t.imp_right λ t=>⟨ez f.size t.1,t.2⟩,f.fN h.f⟩
theorem fR.trans {w1 w2:ah}{F1 F2:bz}{n1 n2:NodeM}{g2:Nat}(h:fR N w F b n1 fb fg w1 F1 g1)(k:fR N w1 F1 b n2 fb g1 w2 F2 g2):fR N w F b n2 fb fg w2 F2 g2:=by
 have z1:=h.f.size;have z2:=k.f.size;refine⟨k.r,λ i hi=>?_,?_,h.f.comp k.f λ i hi t=>?_⟩
 ·rcases k.sub i hi with t | t
  ·exact(h.sub i t).imp_right λ t=>⟨t.1,by have:=t.2;omega⟩
  ·exact .inr ⟨by have:=t.1;omega,t.2⟩
 ·rcases k.g with t | t | t
  ·exact .inl t
  ·rw[t];exact h.g.imp_right λ t=>t.imp_right λ t=>⟨t.1,by have:=t.2;omega⟩
  ·exact .inr (.inr ⟨by have:=t.1;omega,t.2⟩)
 ·rcases t with t | t
  ·rcases h.sub i t with t | t
   ·exact .inl t
   ·have:=t.1;omega
  ·exact .inr t
theorem fR.iC {F':bz}{n n':NodeM}{dG:Nat}(h0:jO N w F b n fb fg)(h:fR N w F b n' fb fg w' F' dG)(t:il N w):il N w':=
 t.ao h.f λ k hk=>by
  obtain⟨a,b⟩:=h0.lo
  rcases hk with t | t
  ·exact a k t
  ·omega
theorem ib.Pu {n:NodeM}{pb wb:Nat}{Fp:bz}(h:ib N w F b n fb fg j pb wb S Fp){J:lI}(t:NB w S j fb fg J.fs J.d J.rs w'):
  ∃ F' dG S',ib N w' F' b { n with j:=J } fb dG j pb wb S' Fp/\fR N w F b { n with j:=J } fb fg w' F' dG:=by
 obtain⟨f,S',g',pd,qV,hj⟩:=t;obtain⟨o1,o2,o3,o4,o5⟩:=h.own;obtain⟨a1,a2,a3,a4,a5,a6,a7,a8,a9⟩:=h.apart;have zb:=h.lt b o1;have zw:=h.lt wb o2;have zj:=h.lt j o3;have zf:=h.jr.file.lt;have zg:=h.jr.file.ug;have z:=f.size;have hl:=h.jr.slt;have tin:∀ k,yD S j fb k->vH F fb k:=λ k hk=>by
  rcases hk with t | t | t
  ·rw[t];exact .inl o3
  ·exact .inr t
  ·exact .inl (o4 k t)
 have Aq:∀ k,S' k->k<w'.heap.size:=hj.slt;have sub:∀ k,(F k\/S' k)->F k\/cD w w' k:=λ k hk=>by
  rcases hk with t | t
  ·exact .inl t
  ·rcases pd k t with q | q
   ·exact .inl (o4 k q)
   ·exact .inr ⟨q,Aq k t⟩
 have FB:g'=fb\/g'=fg\/cD w w' g':=qV.imp_right λ t=>t.imp_right λ t=>⟨t,hj.file.ug⟩;have main:ib N w' (λ k=>F k\/S' k) b { n with j:=J } fb g' j pb wb S' Fp:=by
  refine⟨f.ao h.aR ?_,hj,h.pr.ao f ?_,h.wr.ao f ?_,⟨.inl o1,.inl o2,.inl o3,λ k hk=>.inr hk,λ k hk=>.inl (o5 k hk)⟩,?_,?_,?_,?_,h.yX⟩
  ·rintro(t | t | t)
   ·exact a2 t
   ·rw[t] at o1;exact h.file.1 o1
   ·exact a4 t
  ·intro k hk
   rintro(t | t | t)
   ·rw[t] at hk;exact a8 hk
   ·rw[t] at hk;exact h.file.1 (o5 _ hk)
   ·exact a9 k t hk
  ·rintro(t | t | t)
   ·exact a3 t
   ·rw[t] at o2;exact h.file.1 o2
   ·exact a5 t
  ·refine⟨a1,a2,a3,λ t=>?_,λ t=>?_,a6,a7,a8,λ k hk q=>?_⟩
   ·rcases pd b t with q | q
    ·exact a4 q
    ·omega
   ·rcases pd wb t with q | q
    ·exact a5 q
    ·omega
   ·rcases pd k hk with r | r
    ·exact a9 k r q
    ·have:=h.lt k (o5 k q);omega
  ·refine⟨λ t=>?_,λ t=>?_⟩
   ·rcases t with t | t
    ·exact h.file.1 t
    ·exact(hj.off fb t).2.1 rfl
   ·rcases t with t | t
    ·rcases qV with q | q | q
     ·rw[q] at t;exact h.file.1 t
     ·rw[q] at t;exact h.file.2 t
     ·have:=h.lt g' t;omega
    ·exact(hj.off g' t).2.2 rfl
  ·intro k hk
   rcases hk with t | t
   ·have:=h.lt k t;omega
   ·exact Aq k t
  ·intro k hk
   rcases sub k hk with t | t
   ·exact h.lo k t
   ·have:=t.1;have:=h.yX;omega
 exact⟨_,g',S',main,⟨_,_,_,_,_,main⟩,sub,FB,f.mono λ k _ t=>tin k t⟩
theorem jO.uk {n:NodeM}(h:jO N w F b n fb fg){s':cL}(t:mB w fb fg s' w'):
  ∃ F' dG,fR N w F b { n with j:={ n.j with fs:=s' } } fb fg w' F' dG:=by
 obtain⟨j,pb,wb,S,Fp,h⟩:=h;obtain⟨g',qV,hj⟩:=h.jr.uk t;have hto:NB w S j fb fg s' n.j.d n.j.rs w':=⟨t.1.mono λ k _ q=>.inr (.inl q),S,g',λ k hk=>.inl hk,qV,hj⟩;obtain⟨F',dG,S',_,h2⟩:=h.Pu (J:={ n.j with fs:=s' }) hto
 exact⟨F',dG,h2⟩
theorem ib.GK {n:NodeM}{pb wb:Nat}{Fp:bz}(h:ib N w F b n fb fg j pb wb S Fp){p:PeerM}(hp:eh w' (λ k=>Fp k\/cD w w' k) pb p)(f:Fr (only pb) w w'):
  ∃ F',ib N w' F' b { n with p:=p } fb fg j pb wb S (λ k=>Fp k\/cD w w' k)/\fR N w F b { n with p:=p } fb fg w' F' fg:=by
 obtain⟨o1,o2,o3,o4,o5⟩:=h.own;obtain⟨a1,a2,a3,a4,a5,a6,a7,a8,a9⟩:=h.apart;have pX:Fp pb:=by obtain⟨c,l,Fc,Fl,q⟩:=h.pr;exact q.mem
 have zb:=h.lt b o1;have zw:=h.lt wb o2;have zj:=h.lt j o3;have zf:=h.jr.file.lt;have zg:=h.jr.file.ug;have z:=f.size;have main:ib N w' (λ k=>F k\/cD w w' k) b { n with p:=p } fb fg j pb wb S (λ k=>Fp k\/cD w w' k):=by
  refine⟨f.ao h.aR ?_,h.jr.ao f ?_ ?_ ?_ ?_,hp,h.wr.ao f ?_,⟨.inl o1,.inl o2,.inl o3,λ k hk=>.inl (o4 k hk),λ k hk=>hk.imp_left (o5 k)⟩,?_,?_,?_,?_,h.yX⟩
  ·intro t;have t:b=pb:=t;rw[<- t] at pX;exact a6 pX
  ·intro t;have t:j=pb:=t;rw[<- t] at pX;exact a8 pX
  ·intro t;have t:fb=pb:=t;rw[<- t] at pX;exact h.file.1 (o5 _ pX)
  ·intro t;have t:fg=pb:=t;rw[<- t] at pX;exact h.file.2 (o5 _ pX)
  ·intro k hk t;have t:k=pb:=t;rw[t] at hk;exact a9 _ hk pX
  ·intro t;have t:wb=pb:=t;rw[<- t] at pX;exact a7 pX
  ·refine⟨a1,a2,a3,a4,a5,λ t=>?_,λ t=>?_,λ t=>?_,λ k hk t=>?_⟩
   ·rcases t with t | t
    ·exact a6 t
    ·have:=t.1;omega
   ·rcases t with t | t
    ·exact a7 t
    ·have:=t.1;omega
   ·rcases t with t | t
    ·exact a8 t
    ·have:=t.1;omega
   ·rcases t with t | t
    ·exact a9 k hk t
    ·have:=t.1;have:=h.lt k (o4 k hk);omega
  ·refine⟨λ t=>?_,λ t=>?_⟩
   ·rcases t with t | t
    ·exact h.file.1 t
    ·have:=t.1;omega
   ·rcases t with t | t
    ·exact h.file.2 t
    ·have:=t.1;omega
  ·intro k hk
   rcases hk with t | t
   ·have:=h.lt k t;omega
   ·exact t.2
  ·intro k hk
   rcases hk with t | t
   ·exact h.lo k t
   ·have:=t.1;have:=h.yX;omega
 exact⟨_,main,⟨_,_,_,_,_,main⟩,λ k hk=>hk,.inr (.inl rfl),f.mono λ k _ t=>.inl (by have t:k=pb:=t;rw[t];exact o5 _ pX)⟩
theorem ib.wto {n:NodeM}{pb wb:Nat}{Fp:bz}(h:ib N w F b n fb fg j pb wb S Fp){W:lY}(hp:rQ w' wb W.e W.h W.s)(f:Fr (only wb) w w'):
  ib N w' F b { n with w:=W } fb fg j pb wb S Fp/\fR N w F b { n with w:=W } fb fg w' F fg:=by
 obtain⟨o1,o2,o3,o4,o5⟩:=h.own;obtain⟨a1,a2,a3,a4,a5,a6,a7,a8,a9⟩:=h.apart;have main:ib N w' F b { n with w:=W } fb fg j pb wb S Fp:=by
  refine⟨f.ao h.aR (λ t=>a1 t),h.jr.ao f (λ t=>a3 (Eq.symm t)) ?_ ?_ ?_,h.pr.ao f ?_,hp,h.own,h.apart,h.file,λ k hk=>nS (h.lt k hk) f.size,h.lo,h.yX⟩
  ·intro t;have t:fb=wb:=t;rw[<- t] at o2;exact h.file.1 o2
  ·intro t;have t:fg=wb:=t;rw[<- t] at o2;exact h.file.2 o2
  ·intro k hk t;have t:k=wb:=t;rw[t] at hk;exact a5 hk
  ·intro k hk t;have t:k=wb:=t;rw[t] at hk;exact a7 hk
 exact⟨main,⟨_,_,_,_,_,main⟩,λ k hk=>.inl hk,.inr (.inl rfl),f.mono λ k _ t=>.inl (by have t:k=wb:=t;rw[t];exact o2)⟩
theorem ib.cell {n n':NodeM}{pb wb:Nat}{Fp:bz}(h:ib N w F b n fb fg j pb wb S Fp)(f:Fr (only b) w w')(hb:w'.heap[b]? = some (.cells (dh n'.kb++Bl n' j pb wb).toArray 162 (0,0)))(e1:n'.j=n.j)(e2:n'.p=n.p)(e3:n'.w=n.w):
  ib N w' F b n' fb fg j pb wb S Fp/\fR N w F b n' fb fg w' F fg:=by
 obtain⟨o1,o2,o3,o4,o5⟩:=h.own;obtain⟨a1,a2,a3,a4,a5,a6,a7,a8,a9⟩:=h.apart;have main:ib N w' F b n' fb fg j pb wb S Fp:=by
  refine⟨hb,?_,?_,?_,h.own,h.apart,h.file,λ k hk=>nS (h.lt k hk) f.size,h.lo,h.yX⟩
  ·rw[e1]
   refine h.jr.ao f (λ t=>a2 (Eq.symm t)) ?_ ?_ ?_
   ·intro t;have t:fb=b:=t;rw[<- t] at o1;exact h.file.1 o1
   ·intro t;have t:fg=b:=t;rw[<- t] at o1;exact h.file.2 o1
   ·intro k hk t;have t:k=b:=t;rw[t] at hk;exact a4 hk
  ·rw[e2]
   refine h.pr.ao f λ k hk t=>?_;have t:k=b:=t;rw[t] at hk;exact a6 hk
  ·rw[e3]
   exact h.wr.ao f (λ t=>a1 (Eq.symm t))
 exact⟨main,⟨_,_,_,_,_,main⟩,λ k hk=>.inl hk,.inr (.inl rfl),f.mono λ k _ t=>.inl (by have t:k=b:=t;rw[t];exact o1)⟩
def C38 (p0:Addr)(p1:List av)(p2:Int)(w:ah)(K:aP):Prop:=
 aC (.cells p1.toArray 25) w (λ g1 w2=>dc (Bool×Unit) (λ J3=>ae (p2 != 0)
 (J3 ((p2 != 1),()) w2)
 (J3 (false,()) w2))
 (λ _ s4 w5=>ae s4.1
 (K (.tuple #[.pointer none,aa 1]) w5)
 (ak 67 #[aI p0] w5 uQ (λ(x6:aS×Int×Unit) w7=>ae (x6.2.1 != 0)
 (K (.tuple #[.pointer none,aa x6.2.1]) w7)
 (aU w7 (λ w8=>bL (λ S9=>aJ S9 (ad g1) (fL 16 (ad g1) w8 (λ bG=>aJ S9 (ad g1) (fL 16 (ad g1) w8 (λ bQ=>ak 68 #[.agg bQ.toArray,aa p2] w8 gH (λ(cn:aS) bM=>az S9 w8 bM (ak 69 #[] bM gH (λ(cj:aS) cB=>az S9 bM cB (xz [.int .u8,.int .u8,.int .u8,.int .u8,.int .u8,.int .u8,.int .u8,.int .u8,.int .u8,.int .u8,.int .u8,.int .u8,.int .u8,.int .u8,.int .u8,.int .u8] bG (λ(bP:Int×Int×Int×Int×Int×Int×Int×Int×Int×Int×Int×Int×Int×Int×Int×Int×Unit)=>aC (.cells #[.int .u8 bP.1,.int .u8 bP.2.1,.int .u8 bP.2.2.1,.int .u8 bP.2.2.2.1,.int .u8 bP.2.2.2.2.1,.int .u8 bP.2.2.2.2.2.1,.int .u8 bP.2.2.2.2.2.2.1,.int .u8 bP.2.2.2.2.2.2.2.1,.int .u8 bP.2.2.2.2.2.2.2.2.1,.int .u8 bP.2.2.2.2.2.2.2.2.2.1,.int .u8 bP.2.2.2.2.2.2.2.2.2.2.1,.int .u8 bP.2.2.2.2.2.2.2.2.2.2.2.1,.int .u8 bP.2.2.2.2.2.2.2.2.2.2.2.2.1,.int .u8 bP.2.2.2.2.2.2.2.2.2.2.2.2.2.1,.int .u8 bP.2.2.2.2.2.2.2.2.2.2.2.2.2.2.1,.int .u8 bP.2.2.2.2.2.2.2.2.2.2.2.2.2.2.2.1,aa p2,.pointer x6.1,.pointer cn,.pointer cj,aa 0,aa 0] 162) cB (λ g17 b9=>az S9 cB b9 (ak 70 #[.pointer x6.1] b9 aM (λ(cJ:aB) bW=>cp (Int×Unit) (λ _ Pw cH ag3=>ae (decide (Pw.1<(cJ.2.1:Int)))
 (cz cJ.1 cJ.2.1 Pw.1 1 (λ a24=>af .bE a24 cH (λ(cR:aB)=>ak 71 #[.pointer (some (ad g17)),aO cR] cH bK (λ(eX:Bool) gD=>ae (!eX)
 (K (.tuple #[.pointer none,aa 12]) gD)
 (ag3 (IntKind.i64.wrap (Pw.1+1),()) gD)))))
 (aT (Instr.buildSlice 22 1 #[(0,.int .u8 1)]) cH aM (λ(ji:aB) gr=>ak 72 #[.pointer x6.1,aO ji] gr bN (λ(gB:Int) gZ=>ae (gB != 0)
 (K (.tuple #[.pointer none,aa gB]) gZ)
 (af (.int .i64) ((ad g17).add 20) gZ (λ(gx:Int)=>aK ((ad g17).add 20) (aa (IntKind.i64.wrap (gx+1))) gZ (λ fT=>K (.tuple #[.pointer (some (ad g17)),aa 0]) fT)))))))
 (0,()) bW)))))))))))))))))))
def pl38:aN:=(.seq .auto (.seq (.join [(19,.one .bool)] .auto .auto) (.seq .auto (.seq .auto (.seq (.held (.soft 0 (.soft 1 (.soft 2 (.soft 3 (.soft 4 (.pick 5 (.pick 6 (.soft 7 (.pick 8 (.soft 9 .done) .stop)) .stop) .stop))))))) (.seq (.seq .auto (.block (.loop [(40,.one (.int .i64))] .auto))) .auto))))))
theorem c38 (p0 p1 p2 w K)(h:C38 p0 p1 p2 w K):au 38 #[aI p0,.agg p1.toArray,aa p2] w K:=aQ Tryz.func38 (p:=pl38) aA h
def C71 (p0:Addr)(p1:aS)(dk dR:Nat)(w:ah)(K:aP):Prop:=
 ae ((dk:Int)==0)
 (K (.bool false) w)
 (cz p1 dk 0 1 (λ a1=>af (.int .u8) a1 w (λ(x2:Int)=>ae (x2==1)
 (af (.int .i64) (p0.add 20) w (λ(x3:Int)=>aK (p0.add 20) (aa (IntKind.i64.wrap (x3+1))) w (λ w4=>K (.bool ((dk:Int)==1)) w4)))
 (ae (x2==2)
 (gQ p1 dR 1 dk dR 1 (λ a5 l6 c7=>ak 100 #[.slice a5 l6 c7] w (.bR [.agg oU,.one (.int .i64)]) (λ(x8:mf×Int×Unit) w9=>aC (.cells #[aa 0,aj,aj,aj,aj,aa 0,aa 0,.nilIface,.bool false] 68) w9 (λ g10 bt=>aG (ad g10) [aa x8.1.1,.string x8.1.2.1,.string x8.1.2.2.1,.string x8.1.2.2.2.1,.string x8.1.2.2.2.2.1,aa x8.1.2.2.2.2.2.1,aa x8.1.2.2.2.2.2.2.1,x8.1.2.2.2.2.2.2.2.1,.bool x8.1.2.2.2.2.2.2.2.2.1] bt (λ br=>aU br (λ bM=>ae (x8.2.1==0)
 (af .ptr (p0.add 18) bM (λ(cj:aS)=>aF oU (ad g10) bM (λ(cm:mf)=>ak 101 #[.pointer cj,.agg #[.bool true,.bool false,aa cm.1,.string cm.2.1,.string cm.2.2.1,.string cm.2.2.2.1,.string cm.2.2.2.2.1,aa cm.2.2.2.2.2.1,aa cm.2.2.2.2.2.2.1,cm.2.2.2.2.2.2.2.1,.bool cm.2.2.2.2.2.2.2.2.1,aa 0,aj,aj,aj,aj,aa 0,aa 0,.nilIface,.bool false,.bool false,.bool false,.bool false,.slice none 0 0]] bM bN (λ(bP:Int) da=>K (.bool (bP==0)) da))))
 (K (.bool false) bM)))))))
 (ae (x2==3)
 (gQ p1 dR 1 dk dR 1 (λ wF MJ c20=>ak 102 #[.slice wF MJ c20] w (.bR [.agg fO,.one (.int .i64)]) (λ(du:di×Int×Unit) cH=>aC (.cells #[aa 0,aj,aj,aj,aj,aa 0,aa 0,.nilIface] 34) cH (λ g23 cZ=>aG (ad g23) [aa du.1.1,.string du.1.2.1,.string du.1.2.2.1,.string du.1.2.2.2.1,.string du.1.2.2.2.2.1,aa du.1.2.2.2.2.2.1,aa du.1.2.2.2.2.2.2.1,du.1.2.2.2.2.2.2.2.1] cZ (λ eJ=>aU eJ (λ de=>bL (λ Ke=>aJ Ke (p0.add 18) (af .ptr (p0.add 18) de (λ(ji:aS)=>aJ Ke (p0.add 16) (af (.int .i64) (p0.add 16) de (λ(eQ:Int)=>ak 17 #[.pointer ji] de gH (λ(gB:aS) gZ=>az Ke de gZ (ak 20 #[.pointer gB] gZ bN (λ(gx:Int) fT=>az Ke gZ fT (y9 2 (aU fT (λ jc=>ae (du.2.1==0)
 (ae ((Int.tmod gx 2)==eQ)
 (af .ptr (p0.add 18) jc (λ(eY:aS)=>aF fO (ad g23) jc (λ(gW:di)=>ak 101 #[.pointer eY,.agg #[.bool false,.bool true,aa 0,aj,aj,aj,aj,aa 0,aa 0,.nilIface,.bool false,aa gW.1,.string gW.2.1,.string gW.2.2.1,.string gW.2.2.2.1,.string gW.2.2.2.2.1,aa gW.2.2.2.2.2.1,aa gW.2.2.2.2.2.2.1,gW.2.2.2.2.2.2.2.1,.bool false,.bool false,.bool false,.bool false,.slice none 0 0]] jc bN (λ(ka:Int) jj=>K (.bool (ka==0)) jj))))
 (K (.bool false) jc))
 (K (.bool false) jc))))))))))))))))))
 (K (.bool false) w))))))
def pl71:aN:=(.seq .auto (.seq .auto (.seq (.seq .auto (.block (.seq .auto (.cond .auto (.seq .auto (.cond (.seq .auto (.seq (.tail 9) .auto)) (.seq .auto (.cond (.seq .auto (.seq (.held (.soft 0 (.soft 1 (.soft 2 (.soft 3 (.soft 7 (.soft 8 (.soft 9 (.soft 10 (.pick 4 (.pick 5 (.soft 6 (.soft 11 (.soft 12 .done))) .stop) .stop)))))))))) (.seq (.tail 12) .auto))) .auto)))))))) .auto)))
theorem c71 (p0 p1 dk dR w K)(h:C71 p0 p1 dk dR w K):au 71 #[aI p0,.slice p1 dk dR] w K:=aQ Tryz.func71 (p:=pl71) aA h
def C44 (p0:Addr)(w:ah)(K:aP):Prop:=
 af .ptr (p0.add 18) w (λ(x1:aS)=>ak 76 #[.pointer x1] w gH (λ(x2:aS) w3=>K (.pointer x2) w3))
def pl44:aN:=.auto
theorem c44 (p0 w K)(h:C44 p0 w K):au 44 #[aI p0] w K:=aQ Tryz.func44 (p:=pl44) aA h
def C64 (p0:Addr)(w:ah)(K:aP):Prop:=
 af .ptr (p0.add 17) w (λ(x1:aS)=>ak 93 #[.pointer x1] w bK (λ(x2:Bool) w3=>K (.bool x2) w3))
def pl64:aN:=.auto
theorem c64 (p0 w K)(h:C64 p0 w K):au 64 #[aI p0] w K:=aQ Tryz.func64 (p:=pl64) aA h
def C40 (p0:Addr)(p1:di)(w:ah)(K:aP):Prop:=
 aC (.cells ((cO p1).toArray) 34) w (λ g1 w2=>ak 64 #[aI p0] w2 bK (λ(x3:Bool) w4=>ae x3
 (K (aa 11) w4)
 (aU w4 (λ w5=>af .ptr (p0.add 18) w5 (λ(x6:aS)=>aF fO (ad g1) w5 (λ(x7:di)=>ak 73 #[.pointer x6,.agg (cO x7).toArray] w5 bN (λ(x8:Int) w9=>K (aa x8) w9)))))))
def pl40:aN:=(.seq .auto (.seq .auto (.seq (.tail 5) .auto)))
theorem c40 (p0 p1 w K)(h:C40 p0 p1 w K):au 40 #[aI p0,.agg (cO p1).toArray] w K:=aQ Tryz.func40 (p:=pl40) aA h
def C108 (p0:Addr)(p1:dC)(w:ah)(K:aP):Prop:=
 aC (.cells ((dx p1).toArray) 169) w (λ g1 w2=>af .bool ((ad g1).add 0) w2 (λ(x3:Bool)=>ae x3
 (aF oU ((ad g1).add 2) w2 (λ(x4:mf)=>ak 149 #[.agg (kV x4).toArray] w2 pI (λ(x5:aB×Int×Unit) w6=>ae (x5.2.1 != 0)
 (K (aa x5.2.1) w6)
 (aU w6 (λ w7=>bL (λ S8=>aJ S8 (p0.add 17) (af .ptr (p0.add 17) w7 (λ(x9:aS)=>aT (Instr.buildSlice 22 1 #[(0,.int .u8 2)]) w7 aM (λ(bG:aB) bt=>az S8 w7 bt (aT (Builtin.append_ #[22,22] 22 #[aO bG,.slice x5.1.1 x5.1.2.1 x5.1.2.2]) bt aM (λ(cn:aB) bM=>az S8 bt bM (ak 72 #[.pointer x9,aO cn] bM bN (λ(cj:Int) cB=>az S8 bM cB (K (aa cj) cB))))))))))))))
 (af .bool ((ad g1).add 1) w2 (λ(bP:Bool)=>ae bP
 (aF fO ((ad g1).add 11) w2 (λ(bZ:di)=>ak 147 #[.agg (cO bZ).toArray] w2 pI (λ(cF:aB×Int×Unit) ct=>ae (cF.2.1 != 0)
 (K (aa cF.2.1) ct)
 (aU ct (λ bW=>bL (λ pW=>aJ pW (p0.add 17) (af .ptr (p0.add 17) bW (λ(cW:aS)=>aT (Instr.buildSlice 22 1 #[(0,.int .u8 3)]) bW aM (λ(eB:aB) cZ=>az pW bW cZ (aT (Builtin.append_ #[22,22] 22 #[aO eB,.slice cF.1.1 cF.1.2.1 cF.1.2.2]) cZ aM (λ(cR:aB) de=>az pW cZ de (ak 72 #[.pointer cW,aO cR] de bN (λ(eD:Int) cS=>az pW de cS (K (aa eD) cS))))))))))))))
 (K (aa 0) w2)))))
def pl108:aN:=(.seq .auto (.seq .auto (.seq .auto (.seq .auto (.seq .auto (.seq .auto (.seq (.held (.soft 0 (.soft 1 (.soft 2 (.soft 3 (.soft 4 (.soft 6 (.pick 5 (.pick 7 (.pick 8 (.soft 9 .done) .stop) .stop) .stop)))))))) .auto)))))))
theorem c108 (p0 p1 w K)(h:C108 p0 p1 w K):au 108 #[aI p0,.agg (dx p1).toArray] w K:=aQ Tryz.func108 (p:=pl108) aA h
def C74 (p0:Addr)(p1:dC)(w:ah)(K:aP):Prop:=
 aC (.cells ((dx p1).toArray) 169) w (λ g1 w2=>aF dU (ad g1) w2 (λ(x3:dC)=>ak 108 #[aI p0,.agg (dx x3).toArray] w2 bN (λ(x4:Int) w5=>ae (x4 != 0)
 (K (.tuple #[.slice none 0 0,aa x4]) w5)
 (aU w5 (λ w6=>af .ptr (p0.add 18) w6 (λ(x7:aS)=>aF dU (ad g1) w6 (λ(x8:dC)=>ak 101 #[.pointer x7,.agg (dx x8).toArray] w6 bN (λ(x9:Int) aX=>ae (x9 != 0)
 (K (.tuple #[.slice none 0 0,aa x9]) aX)
 (af .bE ((ad g1).add 23) aX (λ(bQ:aB)=>cp (aB×Int×Unit) (λ _ gd bM Et=>ae (decide (gd.2.1<(bQ.2.1:Int)))
 (cz bQ.1 bQ.2.1 gd.2.1 15 (λ zT=>aF iE zT bM (λ(bP:fY)=>aC (.cells #[aa 0,aa 0,aa 0,aa 0,aa 0,.int .u64 0,.bool false,aa 0,aj,aj,aj,aj,aa 0,aa 0,.nilIface] 214) bM (λ g17 b9=>aG (ad g17) (eZ bP) b9 (λ ct=>aU ct (λ bW=>bL (λ pW=>aJ pW (p0.add 16) (af (.int .i64) (p0.add 16) bW (λ(cW:Int)=>aJ pW (p0.add 20) (af (.int .i64) (p0.add 20) bW (λ(eB:Int)=>aJ pW (p0.add 21) (af (.int .i64) (p0.add 21) bW (λ(dr:Int)=>aK ((ad g17).add 0) (aa cW) bW (λ eJ=>az pW bW eJ (aK ((ad g17).add 1) (aa eB) eJ (λ de=>az pW eJ de (aK ((ad g17).add 2) (aa dr) de (λ gD=>az pW de gD (aU gD (λ cS=>bL (λ Px=>aJ Px (p0.add 0) (fL 16 (p0.add 0) cS (λ gB=>aJ Px (ad g17) (aF iE (ad g17) cS (λ(dt:fY)=>ak 109 #[.agg gB.toArray,.agg (eZ dt).toArray] cS pI (λ(gx:aB×Int×Unit) fT=>az Px cS fT (ae (gx.2.1 != 0)
 (K (.tuple #[.slice none 0 0,aa gx.2.1]) fT)
 (aT (Instr.buildSlice 98 1 #[(0,.slice gx.1.1 gx.1.2.1 gx.1.2.2)]) fT aM (λ(fD:aB) gh=>aT (Builtin.append_ #[98,98] 98 #[.slice gd.1.1 gd.1.2.1 gd.1.2.2,aO fD]) gh aM (λ(gW:aB) fI=>af (.int .i64) (p0.add 21) fI (λ(gn:Int)=>aK (p0.add 21) (aa (IntKind.i64.wrap (gn+1))) fI (λ gq=>Et ((gW.1,gW.2.1,gW.2.2),IntKind.i64.wrap (gd.2.1+1),()) gq))))))))))))))))))))))))))))))))
 (K (.tuple #[.slice gd.1.1 gd.1.2.1 gd.1.2.2,aa 0]) bM))
 ((none,0,0),0,()) aX))))))))))
def pl74:aN:=(.seq .auto (.seq .auto (.seq (.seq (.tail 5) .auto) (.seq .auto (.seq (.seq .auto (.block (.loop [(8,.one .bE),(31,.one (.int .i64))] (.seq .auto (.seq .auto (.seq (.block (.seq .auto (.seq (.held (.soft 0 (.soft 1 (.soft 2 (.soft 3 (.soft 4 (.soft 5 (.soft 6 (.soft 7 (.soft 8 (.soft 9 (.soft 10 (.soft 11 (.soft 12 (.pick 13 (.soft 14 (.pick 15 (.soft 16 (.pick 17 .done .stop)) .stop)) .stop))))))))))))))) (.seq (.held (.soft 0 (.soft 1 (.soft 2 (.soft 3 (.soft 4 (.pick 5 (.soft 6 (.soft 7 (.soft 8 (.soft 9 (.soft 10 .done))))) .stop))))))) .auto)))) .auto)))))) .auto)))))
theorem c74 (p0 p1 w K)(h:C74 p0 p1 w K):au 74 #[aI p0,.agg (dx p1).toArray] w K:=aQ Tryz.func74 (p:=pl74) aA h
def C41 (p0:Addr)(w:ah)(K:aP):Prop:=
 ak 64 #[aI p0] w bK (λ(x1:Bool) w2=>ae x1
 (K (.tuple #[.slice none 0 0,aa 11]) w2)
 (af .ptr (p0.add 18) w2 (λ(x3:aS)=>ak 75 #[.pointer x3] w2 (.v (.agg dU)) (λ(x4:dC) w5=>ak 74 #[aI p0,.agg (dx x4).toArray] w5 pI (λ(x6:aB×Int×Unit) w7=>K (.tuple #[.slice x6.1.1 x6.1.2.1 x6.1.2.2,aa x6.2.1]) w7)))))
def pl41:aN:=.auto
theorem c41 (p0 w K)(h:C41 p0 w K):au 41 #[aI p0] w K:=aQ Tryz.func41 (p:=pl41) aA h
def C62 (p0:Addr)(p1:aS)(dk dR:Nat)(w:ah)(K:aP):Prop:=
 ak 64 #[aI p0] w bK (λ(x1:Bool) w2=>ae x1
 (K (.tuple #[.slice none 0 0,aa 11]) w2)
 (fL 16 (p0.add 0) w2 (λ x3=>ak 90 #[.agg x3.toArray,.slice p1 dk dR] w2 (.bR [.agg iE,.one (.int .i64)]) (λ(x4:fY×Int×Unit) w5=>aC (.cells #[aa 0,aa 0,aa 0,aa 0,aa 0,.int .u64 0,.bool false,aa 0,aj,aj,aj,aj,aa 0,aa 0,.nilIface] 214) w5 (λ g6 w7=>aG (ad g6) [aa x4.1.1,aa x4.1.2.1,aa x4.1.2.2.1,aa x4.1.2.2.2.1,aa x4.1.2.2.2.2.1,.int .u64 x4.1.2.2.2.2.2.1,.bool x4.1.2.2.2.2.2.2.1,aa x4.1.2.2.2.2.2.2.2.1,.string x4.1.2.2.2.2.2.2.2.2.1,.string x4.1.2.2.2.2.2.2.2.2.2.1,.string x4.1.2.2.2.2.2.2.2.2.2.2.1,.string x4.1.2.2.2.2.2.2.2.2.2.2.2.1,aa x4.1.2.2.2.2.2.2.2.2.2.2.2.2.1,aa x4.1.2.2.2.2.2.2.2.2.2.2.2.2.2.1,x4.1.2.2.2.2.2.2.2.2.2.2.2.2.2.2.1] w7 (λ w8=>ae (x4.2.1 != 0)
 (K (.tuple #[.slice none 0 0,aa x4.2.1]) w8)
 (aU w8 (λ w9=>af (.int .i64) ((ad g6).add 0) w9 (λ(bG:Int)=>af (.int .i64) (p0.add 16) w9 (λ(bQ:Int)=>ae (bG==bQ)
 (K (.tuple #[.slice none 0 0,aa 8]) w9)
 (aU w9 (λ br=>af .ptr (p0.add 19) br (λ(cA:aS)=>af (.int .i64) ((ad g6).add 1) br (λ(cj:Int)=>af (.int .i64) ((ad g6).add 2) br (λ(cm:Int)=>ak 91 #[.pointer cA,aa cj,aa cm] br bK (λ(bP:Bool) da=>ae (!bP)
 (K (.tuple #[.slice none 0 0,aa 4]) da)
 (aU da (λ b9=>bL (λ Xh=>aJ Xh (p0.add 18) (af .ptr (p0.add 18) b9 (λ(dE:aS)=>aJ Xh (ad g6) (aF iE (ad g6) b9 (λ(du:fY)=>ak 92 #[.pointer dE,.agg (eZ du).toArray] b9 (.v (.agg dU)) (λ(cW:dC) dM=>ak 74 #[aI p0,.agg (dx cW).toArray] dM pI (λ(dr:aB×Int×Unit) eJ=>K (.tuple #[.slice dr.1.1 dr.1.2.1 dr.1.2.2,aa dr.2.1]) eJ)))))))))))))))))))))))))
def pl62:aN:=(.seq .auto (.seq .auto (.seq .auto (.seq (.block (.seq .auto (.cond .auto (.seq .still (.cond .auto (.seq (.tail 8) .auto)))))) (.seq (.held (.soft 0 (.soft 1 (.soft 2 (.soft 3 (.soft 4 (.soft 5 (.last 6 (.last 7 (.soft 8 (.soft 9 (.soft 10 (.soft 11 .done))))))))))))) .auto)))))
theorem c62 (p0 p1 dk dR w K)(h:C62 p0 p1 dk dR w K):au 62 #[aI p0,.slice p1 dk dR] w K:=aQ Tryz.func62 (p:=pl62) aA h
theorem Kf {n:NodeM}(h:jO N w F b n fb fg)(hk:n.kb.length=16):au 64 #[aZ b] w λ r w'=>r=.bool n.dead/\w=w':=by
 obtain⟨j,pb,wb,S,Fp,h⟩:=h;refine c64 _ w _ ?_;refine h.db hk 1 (ck:=.ptr) (x:=some ⟨j,0,none⟩) rfl ?_;refine an.of (ac9 h.jr) ?_;rintro _ _ ⟨rfl,rfl⟩;exact⟨_,rfl,rfl,rfl⟩
theorem ag4 {n:NodeM}(h:jO N w F b n fb fg)(hk:n.kb.length=16)(ho:cX n.p)(ht:il N w)(m:bu)(hm:bj m.t<=1000000):
  au 40 #[aZ b,ke m.e] w λ r w'=>r=aa (n.offer m).2/\∃ F',fR N w F b (n.offer m).1 fb fg w' F' fg:=by
 have hR:=h;obtain⟨j,pb,wb,S,Fp,h⟩:=h;refine c40 _ m.e w _ ?_;unfold C40;refine aC.of λ g1 w1 eG aE f1 _=>?_;have e1:nC w1 g1 m:=aE;refine an.of (Kf (hR.ag f1) hk) ?_;rintro _ _ ⟨rfl,rfl⟩;refine⟨_,rfl,ae.by (λ hd=>?_) (λ hd=>?_)⟩
 ·have hd:n.dead=true:=hd
  have e:n.offer m=(n,11):=by unfold NodeM.offer;rw[if_pos hd]
  rw[e];exact⟨rfl,F,(fR.refl hR).et f1⟩
 have hd:n.dead=false:=hd;have e:n.offer m=({ n with p:=(n.p.offer m).1 },(n.p.offer m).2):=by unfold NodeM.offer;rw[if_neg (by rw[hd];simp)]
 rw[e];refine aU.of λ w2 _ f2=>?_;have f12:=f1.trans f2;have h2:=h.ag f12;refine h2.db hk 2 (ck:=.ptr) (x:=some ⟨pb,0,none⟩) rfl (aF.aR (cks:=ky) (x:=m.e) (e1.ag f2) ?_);refine an.of (ag0 h2.pr ho (ht.iC.ag f12) m hm) ?_;rintro _ w3 ⟨rfl,p3,f3⟩;obtain⟨F',_,t⟩:=h2.GK (p:=(n.p.offer m).1) (p3.mono λ k hk=>.inl hk) f3;exact⟨_,rfl,rfl,F',t.fN f12⟩
theorem Xi (n:NodeM)(j pb wb:Nat)(v:Int):(Bl n j pb wb).set 4 (aa v)=Bl { n with aY:=v } j pb wb:=rfl
theorem ag5 (n:NodeM)(j pb wb:Nat)(v:Int):(Bl n j pb wb).set 5 (aa v)=Bl { n with number:=v } j pb wb:=rfl
theorem ag6 (n:NodeM)(r:ai):n.record (1::r)=({ n with aY:=n.aY+1 },r.isEmpty):=rfl
theorem ag7 (n:NodeM)(r:ai):n.record (2::r)=if(kM false r).2≠0 then(n,false) else({ n with p:=(n.p.bx { bq with cP:=true,bB:=(kM false r).1 }).1 },(n.p.bx { bq with cP:=true,bB:=(kM false r).1 }).2==0):=rfl
theorem ag8 (n:NodeM)(r:ai):n.record (3::r)=if(iN false r).2≠0 then(n,false) else if n.p.len % 2≠n.side then(n,false) else({ n with p:=(n.p.bx { bq with dz:=true,cI:=(iN false r).1 }).1 },true):=rfl
theorem ag9 (n:NodeM){c:UInt8}(r:ai)(h1:c≠1)(h2:c≠2)(h3:c≠3):n.record (c::r)=(n,false):=by
 unfold NodeM.record;dsimp only;rw[if_neg h1,if_neg h2,if_neg h3]
theorem aha (p:PeerM)(a:cE)(h:a.cP=false):(p.bx a).2=0:=by unfold PeerM.bx;rw[if_neg (by rw[h];simp)]
theorem ahb {n:NodeM}{pb wb:Nat}{Fp:bz}(h:ib N w F b n fb fg j pb wb S Fp)(hk:n.kb.length=16)(ho:cX n.p)(hs:n.side=0\/n.side=1)(he:0<=n.aY/\n.aY<=1000000000)(ht:il N w){v:Sl}{bs:ai}(hv:bO w v bs)(hc:v.2.1<=v.2.2)(T9:bs.length<=100000000):
  au 71 #[aZ b,.slice v.1 v.2.1 v.2.2] w λ r w'=>r=.bool (n.record bs).2/\∃ F' DK,ib N w' F' b (n.record bs).1 fb fg j pb wb S DK/\fR N w F b (n.record bs).1 fb fg w' F' fg:=by
 have hR:jO N w F b n fb fg:=⟨_,_,_,_,_,h⟩;have Hr:n.p.kb.length=16:=ho.kb;have hl:=hv.len;refine c71 _ v.1 v.2.1 v.2.2 w _ ?_;unfold C71;cases bs with
 | nil=>
  refine ae.t (by rw[hl];rfl) ?_;exact⟨rfl,F,Fp,h,fR.refl hR⟩
 | cons c r=>
  have hl:v.2.1=r.length+1:=by rw[hl];rfl
  refine ae.f (by rw[hl];rw[beq_eq_false_iff_ne];omega) ?_;refine bO.at hv (kC _) ab ?_;rw[show(c::r).getD (Int.toNat 0) 0=c by rfl];have Py:∀ k:UInt8,((c.toNat:Int)=(k.toNat:Int))->c=k:=λ k t=>UInt8.toNat_inj.1 ab
  -- JZ stands behind the first byte
  have rest:∀ {K:aS->Nat->Nat->Prop},(∀ u:Sl,bO w u r->u.2.1<=u.2.2->K u.1 u.2.1 u.2.2)->gQ v.1 v.2.2 1 v.2.1 v.2.2 1 K:=by
   intro K k;refine bO.my hv ab ab (kC _) hc λ u hu vh dP pU=>?_;refine k u ?_ vh;have e2:((c::r).drop (1:Int).toNat).take ((v.2.1:Int) - 1).toNat=r:=by
    rw[show(1:Int).toNat=1 by rfl];exact gV (by rw[List.drop_succ_cons,List.drop_zero];omega)
   rw[e2] at hu;exact hu
  refine ae.eq (λ h1=>?_) (λ h1=>?_)
  ·obtain rfl:=Py 1 h1
   rw[ag6];refine h.db hk 4 (ck:=.int .i64) (x:=n.aY) rfl ?_;have ew:IntKind.i64.wrap (n.aY+1)=n.aY+1:=wI ab ab;rw[ew];refine ri hk h.aR 4 (by show 4<6;decide) rfl λ w1 aE f1 s1=>?_;rw[Xi] at aE;obtain⟨h1,t1⟩:=h.cell (n':={ n with aY:=n.aY+1 }) f1 aE rfl rfl rfl
   refine⟨?_,F,Fp,h1,t1⟩;rw[hl]
   congr 1
   cases r with
   | nil=>rfl
   | cons x y=>simp only[cY,List.isEmpty_cons];rw[beq_eq_false_iff_ne];omega
  have n1:c≠1:=λ t=>h1 (by rw[t];rfl);refine ae.eq (λ h2=>?_) (λ h2=>?_)
  ·obtain rfl:=Py 2 h2
   rw[ag7];refine rest λ u hu vh=>?_;refine an.of (ab6 hu vh ht.iC) ?_;rintro _ w1 ⟨rfl,f1⟩;refine⟨(od (kM false r).1.1.e (kM false r).1.2,(kM false r).2,()),rfl,?_⟩;have rO:=UR r;generalize kM false r=P at *;refine aC.of λ g2 w2 qI ba f2 _=>?_;have ba:w2.heap[g2]? = some (.cells (ue bH.e false).toArray 68 (0,0)):=ba;refine aG.aR (vs:=ue P.1.1.e P.1.2) ba rfl (M5 _ (Tm.cU _)) λ w3 bJ f3 _=>aU.of λ w4 _ f4=>?_;have GL:w1.heap.size<=g2:=ab;have f14:Fr none1 w w4:=(f1.trans (f2.fresh f3 GL)).trans f4;have h4:=h.ag f14;refine ae.eq (λ hz=>?_) (λ hz=>?_)
   ·have hz:P.2=0:=hz
    rw[if_neg (λ t=>t hz)];refine h4.db hk 2 (ck:=.ptr) (x:=some ⟨pb,0,none⟩) rfl (aF.aR (cks:=qQ) (x:=od P.1.1.e P.1.2) (f4.ag bJ) ?_);refine an.of (Pt h4.pr (λ k hk=>h4.lt k (h4.own.2.2.2.2 k hk)) ho (ht.iC.ag f14) { bq with cP:=true,bB:=P.1 } (none,0,0) rO) ?_
    rintro _ w5 ⟨rfl,p5,f5⟩;obtain⟨F',h5,t5⟩:=h4.GK p5 f5;refine⟨_,rfl,rfl,F',_,h5,t5.fN f14⟩
   ·have hz:P.2≠0:=hz
    rw[if_pos hz];exact⟨rfl,F,Fp,h4,(fR.refl hR).et f14⟩
  have n2:c≠2:=λ t=>h2 (by rw[t];rfl);refine ae.eq (λ h3=>?_) (λ h3=>?_)
  ·obtain rfl:=Py 3 h3
   rw[ag8];refine rest λ u hu vh=>?_;refine an.of (M0 hu vh ht.iC) ?_;rintro _ w1 ⟨rfl,f1⟩;refine⟨((iN false r).1.e,(iN false r).2,()),rfl,?_⟩;have rO:=NX r;generalize iN false r=P at *;refine aC.of λ g2 w2 qI ba f2 _=>?_;have ba:w2.heap[g2]? = some (.cells (kj bH.e).toArray 34 (0,0)):=ba;refine aG.aR (vs:=kj P.1.e) ba rfl (Pj _) λ w3 bJ f3 _=>aU.of λ w4 _ f4=>bL.all ?_;have GL:w1.heap.size<=g2:=ab;have f14:Fr none1 w w4:=(f1.trans (f2.fresh f3 GL)).trans f4;have h4:=h.ag f14;refine aJ.all (h4.db hk 2 (ck:=.ptr) (x:=some ⟨pb,0,none⟩) rfl (aJ.all (h4.db hk 0 (ck:=.int .i64) (x:=n.side) rfl ?_)));refine an.of (Xg h4.pr ho) ?_;rintro _ w5 ⟨c5,rfl,DH,f5⟩;refine⟨_,rfl,az.of f5 ?_⟩;refine an.of (tu Hr DH) ?_;rintro _ _ ⟨rfl,rfl⟩;refine⟨_,rfl,az.of (Fr.refl _ _) ⟨by decide,aU.of λ w6 _ f6=>?_⟩⟩;have f16:=(f14.trans f5).trans f6;have h6:=h.ag f16;have stay:(Value.bool false=.bool (n,false).2/\∃ F' DK,ib N w6 F' b (n,false).1 fb fg j pb wb S DK/\fR N w F b (n,false).1 fb fg w6 F' fg):=⟨rfl,F,Fp,h6,(fR.refl hR).et f16⟩;have em:Int.tmod ((n.p.es.length:Nat):Int) 2=n.p.len % 2:=Int.tmod_eq_emod_of_nonneg ab;refine ae.eq (λ hz=>?_) (λ hz=>?_)
   ·have hz:P.2=0:=hz
    rw[if_neg (λ t=>t hz)];refine ae.eq (λ qp=>?_) (λ qp=>?_)
    ·have qp:n.p.len % 2=n.side:=by rw[<- em];exact qp
     rw[if_neg (λ t=>t qp)];refine h6.db hk 2 (ck:=.ptr) (x:=some ⟨pb,0,none⟩) rfl (aF.aR (cks:=ky) (x:=P.1.e) ((f5.trans f6).ag (f4.ag bJ)) ?_);refine an.of (Pt h6.pr (λ k hk=>h6.lt k (h6.own.2.2.2.2 k hk)) ho (ht.iC.ag f16) { bq with dz:=true,cI:=P.1 } (none,0,0) fK) ?_
     rintro _ w7 ⟨rfl,p7,f7⟩;obtain⟨F',h7,t7⟩:=h6.GK p7 f7;refine⟨_,rfl,?_,F',_,h7,t7.fN f16⟩;rw[aha _ _ rfl];rfl
    ·have qp:n.p.len % 2≠n.side:=by rw[<- em];exact qp
     rw[if_pos qp];exact stay
   ·have hz:P.2≠0:=hz
    rw[if_pos hz];exact stay
  have n3:c≠3:=λ t=>h3 (by rw[t];rfl);rw[ag9 n r n1 n2 n3];exact⟨rfl,F,Fp,h,fR.refl hR⟩
theorem ahc (x:dS)(h:eT x.1):(iz x).1.length<=10000001:=by
 have:=Ts x.1 h;unfold dZ at this;unfold iz yo;split
 ·simp
 ·simp only[cY];omega
theorem ahd {n:NodeM}(h:jO N w F b n fb fg)(hk:n.kb.length=16)(hj:n.j.rs.length<=1000000)(ht:il N w)(a:cE)(s:Sl)(he:eT a.bB.1)(hp:eT a.cI):
  au 108 #[aZ b,.agg (iB a s).toArray] w λ r w'=>r=aa (n.ao a).2/\∃ F' dG,fR N w F b (n.ao a).1 fb fg w' F' dG:=by
 have hR:=h;obtain⟨j,pb,wb,S,Fp,h⟩:=h;refine c108 _ (pq a s) w _ ?_;unfold C108;refine aC.of λ g1 w1 eG aE f1 _=>?_;have a1:kS w1 g1 a s:=aE;have DJ:=Bk a s;have h1:=h.ag f1
 -- a record put
 have put:∀ (c:UInt8) (bs:ai) (v:Sl) (w2:ah) {fn:Sl->ah->(Int->ah->Prop)->Prop},Fr none1 w w2->cT w2 v bs->bs.length<=10000001->n.ao a=({ n with j:=(n.j.put (c::bs)).1 },(n.j.put (c::bs)).2) ->
   aU w2 (λ w7=>bL (λ S8=>aJ S8 ((⟨b,0,none⟩:Addr).add 17) (af .ptr ((⟨b,0,none⟩:Addr).add 17) w7 (λ(x9:aS)=>aT (Instr.buildSlice 22 1 #[(0,bc c)]) w7 aM (λ(bG:aS×Nat×Nat) bt=>az S8 w7 bt (aT (Builtin.append_ #[22,22] 22 #[.slice bG.1 bG.2.1 bG.2.2,.slice v.1 v.2.1 v.2.2]) bt aM (λ(cn:aS×Nat×Nat) bM=>az S8 bt bM (ak 72 #[.pointer x9,.slice cn.1 cn.2.1 cn.2.2] bM bN (λ(cj:Int) cB=>az S8 bM cB ((Value.int .i64 cj=aa (n.ao a).2/\∃ F' dG,fR N w F b (n.ao a).1 fb fg cB F' dG))))))))))):=by
  intro c bs v w2 _ f2 hv hl e;refine aU.of λ w7 _ f7=>bL.of (λ k=>k=b) ?_;have f27:=f2.trans f7;have h7:=h.ag f27;refine⟨rfl,h7.db hk 1 (ck:=.ptr) (x:=some ⟨j,0,none⟩) rfl ?_⟩;refine Fk c λ u w8 hu f8 pU=>az.of f8 ?_;obtain⟨y,w9,r9,hy,f9,td⟩:=vS hu (((hv.ag f7).ag f8).rd) (by simp;omega);have z27:=f27.size;have zb:=h.lt b h.own.1;have zj:=h.lt j h.own.2.2.1;have zf:=h.jr.file.lt;have z8:=f8.size;have yb:∀ k,aH y k->w7.heap.size<=k:=λ k hk=>by
   rcases td k hk with t | t
   ·exact pU k t
   ·omega
  have f9':Fr none1 w7 w9:=f8.comp f9 λ k hk t=>by have:=pU k t;omega
  refine⟨y,w9,r9,az.on f9 (λ k hk t=>by have hk:k=b:=hk;have:=pU k t;omega) ?_⟩;have f29:=f27.trans f9';have h9:=h.ag f29;have jW:=h.jr.slt;refine an.of (Uk h9.jr hy.rd (λ k hk=>?_) hj) ?_
  ·have:=yb k hk
   exact⟨aV.lt hy hk,by omega,by omega,λ t=>by have:=jW k t;omega⟩
  rintro _ aX ⟨rfl,t10⟩;obtain⟨F',dG,S',oL,xm⟩:=h9.Pu (J:=(n.j.put (c::bs)).1) t10;have f10:=t10.1;refine⟨_,rfl,az.on f10 (λ k hk t=>?_) ?_⟩
  ·have hk:k=b:=hk
   obtain⟨a1,a2,a3,a4,a5,a6,a7,a8,a9⟩:=h.apart
   rcases t with t | t | t
   ·exact a2 (by rw[<- hk];exact t)
   ·rw[<- t,hk] at zf
    exact h.file.1 (by rw[<- t,hk];exact h.own.1)
   ·exact a4 (by rw[<- hk];exact t)
  ·rw[e]
   exact⟨rfl,F',dG,xm.fN f29⟩
 refine a1.ld 0 (ck:=.bool) (x:=a.cP) DJ.1 (ae.by (λ hE=>?_) (λ hE=>?_))
 ·have hE:a.cP=true:=hE
  have eb:NodeM.fp a=(2::(iz a.bB).1,(iz a.bB).2):=by unfold NodeM.fp;rw[if_pos hE]
  refine a1.bB ?_;have hw:=yj a.bB.1.t;refine an.of (SL a.bB.1.e a.bB.2 (Az _) he.e (bT a.bB.1.t).1 ab (bT a.bB.1.t).2 w1 (λ _ w2 f2=>IM a.bB.1.t he.2.2.2.2 (ht.iC.ag f1) w2 f2)) ?_;rintro _ w2 ⟨v,rfl,hv,f2,vb⟩;refine⟨(v,(iz a.bB).2,()),rfl,ae.ne (λ aL=>?_) (λ hz=>?_)⟩
  ·have aL:(iz a.bB).2≠0:=aL
   have e:n.ao a=(n,(iz a.bB).2):=by unfold NodeM.ao;rw[if_neg (by rw[hE];simp),eb,if_pos aL]
   rw[e];exact⟨rfl,F,fg,(fR.refl hR).et (f1.trans f2)⟩
  ·have hz:(iz a.bB).2=0:=hz
   have e:n.ao a=({ n with j:=(n.j.put (2::(iz a.bB).1)).1 },(n.j.put (2::(iz a.bB).1)).2):=by unfold NodeM.ao;rw[if_neg (by rw[hE];simp),eb,if_neg (λ t=>t hz)]
   exact put 2 (iz a.bB).1 v w2 (fn:=λ _ _ _=>True) (f1.trans f2) hv (ahc _ he) e
 have hE:a.cP=false:=hE;refine a1.ld 1 (ck:=.bool) (x:=a.dz) DJ.2.1 (ae.by (λ hP=>?_) (λ hP=>?_))
 ·have hP:a.dz=true:=hP
  have eb:NodeM.fp a=(3::(dZ a.cI).1,(dZ a.cI).2):=by unfold NodeM.fp;rw[if_neg (by rw[hE];simp)]
  refine a1.cI ?_;refine an.of (Tq a.cI hp w1 (ht.iC.ag f1)) ?_;rintro _ w2 ⟨v,rfl,hv,f2,vb⟩;refine⟨(v,(dZ a.cI).2,()),rfl,ae.ne (λ aL=>?_) (λ hz=>?_)⟩
  ·have aL:(dZ a.cI).2≠0:=aL
   have e:n.ao a=(n,(dZ a.cI).2):=by unfold NodeM.ao;rw[if_neg (by rw[hP];simp),eb,if_pos aL]
   rw[e];exact⟨rfl,F,fg,(fR.refl hR).et (f1.trans f2)⟩
  ·have hz:(dZ a.cI).2=0:=hz
   have e:n.ao a=({ n with j:=(n.j.put (3::(dZ a.cI).1)).1 },(n.j.put (3::(dZ a.cI).1)).2):=by unfold NodeM.ao;rw[if_neg (by rw[hP];simp),eb,if_neg (λ t=>t hz)]
   exact put 3 (dZ a.cI).1 v w2 (fn:=λ _ _ _=>True) (f1.trans f2) hv (by have:=Ts a.cI hp;omega) e
 ·have hP:a.dz=false:=hP
  have e:n.ao a=(n,0):=by unfold NodeM.ao;rw[if_pos ⟨hE,hP⟩]
  rw[e];exact⟨rfl,F,fg,(fR.refl hR).et f1⟩
theorem ahe (h:(p.bx a).2≠0):(p.bx a).1=p:=by
 unfold PeerM.bx at h ⊢;split at h
 ·rename_i t
  rw[if_pos t];split at h
  ·rename_i q;rw[if_pos q]
  ·exact absurd rfl h
 ·exact absurd rfl h
theorem ahf (h:(cM kb bs).2=0):(cM kb bs).1.2.1<=9223372036854775807/\(cM kb bs).1.2.2.1<=9223372036854775807:=by
 unfold cM at h ⊢;split
 ·exact⟨by decide,by decide⟩
 split
 ·exact⟨by decide,by decide⟩
 split
 ·exact⟨by decide,by decide⟩
 split
 ·exact⟨by decide,by decide⟩
 ·rename_i h1 h2 h3 h4
  have hb:mA (jB (jq bs))=((mA (jB (jq bs))).1,0):=Prod.ext rfl (iG.1 λ t=>h4 (.inl t));obtain⟨_,c2,c3,_⟩:=CP (Nn hb).1;have c2:(jB (jq bs)).2.1<=2147483647:=c2.2;have c3:(jB (jq bs)).2.2.1<=2147483647:=c3.2;exact⟨by dsimp only;omega,by dsimp only;omega⟩
def sk (done:List (ai))(r:List (ai)×Int×Int):List (ai)×Int×Int:=if r.2.2≠0 then([],r.2.1,r.2.2) else(done++r.1,r.2.1,0)
theorem Xj (kb:ai)(side aY:Int)(f:bS)(l:List bS)(n:Int):NodeM.lJ kb side aY (f::l) n=if(jN kb (side,aY,n,f.2.2.2)).2≠0 then([],n,(jN kb (side,aY,n,f.2.2.2)).2) else sk [(jN kb (side,aY,n,f.2.2.2)).1] (NodeM.lJ kb side aY l (n+1)):=rfl
theorem ahg (r:List (ai)×Int×Int)(h:r.2.2≠0->r.1=[]):sk [] r=r:=by
 obtain⟨a,b,c⟩:=r;unfold sk;dsimp only at h ⊢
 by_cases hc:c≠0
 ·rw[if_pos hc,h hc]
 ·rw[if_neg hc]
  have:c=0:=iG.1 hc;rw[this];rfl
theorem ahh (kb:ai)(side aY:Int):∀ (l:List bS) (n:Int),(NodeM.lJ kb side aY l n).2.2≠0->(NodeM.lJ kb side aY l n).1=[]
 | [],n,h=>rfl
 | f::l,n,h=>by
  rw[Xj] at h ⊢;split at h
  ·rename_i t;rw[if_pos t]
  ·rename_i t
   rw[if_neg t];unfold sk at h ⊢;split at h
   ·rename_i q;rw[if_pos q]
   ·exact absurd rfl h
theorem ahi (a b:List (ai))(r:List (ai)×Int×Int):sk a (sk b r)=sk (a++b) r:=by
 unfold sk
 by_cases h:r.2.2≠0
 ·rw[if_pos h,if_pos (by exact h),if_pos h]
 ·rw[if_neg h,if_neg bm,if_neg h,gI]
theorem ahj (l:List bS):rh l=((l.map λ f=>fB f.f)).flatten:=rfl
theorem ahk (l:List bS):∀ x∈l.map (λ f=>fB f.f),x.length=15:=by
 intro x hx;obtain⟨f,_,rfl⟩:=kF.1 hx;rfl
structure mX (N:Nat)(w:ah)(F:bz)(b:Nat)(n':NodeM)(fb fg:Nat)(l:List (ai))(v:Sl)(w':ah):Prop where
 out:∃ F' dG S',fR N w F b n' fb fg w' F' dG/\kv w' S' v l/\(∀ k,S' k->w.heap.size<=k/\¬ F' k/\k≠fb/\k≠dG)
theorem mX.none {n':NodeM}{F':bz}{dG:Nat}(h:fR N w F b n' fb fg w' F' dG):mX N w F b n' fb fg [] (Option.none,0,0) w':=
 ⟨F',dG,λ _=>False,h,Fw _ _ (λ k t=>t.elim),λ k t=>t.elim⟩
theorem mX.fN {w1:ah}{n':NodeM}{l:List (ai)}{v:Sl}{w':ah}(f:Fr none1 w w1)(h:mX N w1 F b n' fb fg l v w'):mX N w F b n' fb fg l v w':=by
 obtain⟨F',dG,S',a,b,c⟩:=h.out;exact⟨F',dG,S',a.fN f,b,λ k hk=>⟨ez f.size (c k hk).1,(c k hk).2⟩⟩
theorem mX.of {w1:ah}{F1:bz}{n1 n':NodeM}{l:List (ai)}{v:Sl}{w':ah}(t:fR N w F b n1 fb fg w1 F1 g1)(h:mX N w1 F1 b n' fb g1 l v w'):mX N w F b n' fb fg l v w':=by
 obtain⟨F',dG,S',a,b,c⟩:=h.out;exact⟨F',dG,S',t.trans a,b,λ k hk=>⟨ez t.f.size (c k hk).1,(c k hk).2⟩⟩
theorem Xk {n:NodeM}(h:jO N w F b n fb fg)(hk:n.kb.length=16)(ho:cX n.p)(hj:n.j.rs.length<=1000000)(hn:0<=n.number/\n.number<=1000000000)(ht:il N w)(a:cE)(s:Sl)(ha:mT a)
  (hs:aV w 214 15 s (rh a.bg)) (Df:∀ k,aH s k->¬ F k/\k≠fb) :
  au 74 #[aZ b,.agg (iB a s).toArray] w λ r w'=>∃ v:Sl,r=.tuple #[.slice v.1 v.2.1 v.2.2,aa (n.act a).2.2]/\mX N w F b (n.act a).1 fb fg (n.act a).2.1 v w':=by
 obtain⟨bI,Kg,Pz,PA,_,_⟩:=h.lt;have nk:=ha.num;refine c74 _ (pq a s) w _ ?_;unfold C74;refine aC.of λ g1 w1 eG aE f1 _=>?_;have a1:kS w1 g1 a s:=aE;refine aF.aR (cks:=fX) (x:=pq a s) aE ?_;refine an.of (ahd (h.ag f1) hk hj (ht.ag f1) a s ha.bB ha.cI) ?_;rintro _ w2 ⟨rfl,F2,pw,GM⟩;have t2:=GM.fN f1;obtain⟨k1,k2,k3,k4,k5,k6⟩:=xi (n:=n) a;refine⟨_,rfl,ae.ne (λ aL=>?_) (λ hz=>?_)⟩
 ·have aL:(n.ao a).2≠0:=aL
  have e:n.act a=((n.ao a).1,[],(n.ao a).2):=by unfold NodeM.act;rw[if_pos aL]
  rw[e];exact⟨(none,0,0),rfl,mX.none t2⟩
 have hz:(n.ao a).2=0:=hz;have Xl:∀ k,w.heap.size<=k->¬ vH F fb k:=λ k hk t=>by
  rcases t with t | t
  ·have:=bI k t;omega
  ·omega
 have Xm:∀ k,aH s k->¬ vH F fb k:=λ k hk t=>t.elim (Df k hk).1 (Df k hk).2;have ahl:∀ k,aH s k->k<w.heap.size:=λ k hk=>aV.lt hs hk
 -- blocks of the act, and of JZ is to be said, stay
 have a2:kS w2 g1 a s:=GM.f.ao a1 (Xl g1 ab);have iQ:aV w2 214 15 s (rh a.bg):=(hs.ag f1).ao GM.f Xm;have qq:il N w2:=t2.iC h ht;refine aU.of λ w3 _ f3=>?_;have a3:kS w3 g1 a s:=f3.ag a2;have t3:=t2.et f3;obtain⟨j,pb,wb,S,Fp,h3⟩:=t3.r;have Xn:(n.ao a).1.kb.length=16:=by rw[k2];exact hk
 refine h3.db Xn 2 (ck:=.ptr) (x:=some ⟨pb,0,none⟩) rfl (aF.aR (cks:=fX) (x:=pq a s) a3 ?_);refine an.of (Pt h3.pr (λ k hk=>h3.lt k (h3.own.2.2.2.2 k hk)) (by rw[k1];exact ho) (qq.ag f3).iC a s ha.bB) ?_;rw[k1];rintro _ w4 ⟨rfl,p4,f4⟩;obtain⟨F4,h4,t34⟩:=h3.GK p4 f4;have t4:=t3.trans t34;have g1F:∀ k,k<w3.heap.size->¬ F2 k->¬ F4 k:=λ k hk hn t=>by
  rcases t34.sub k t with t | t
  ·exact hn t
  ·have:=t.1;omega
 have Xo:∀ k,k<w1.heap.size->¬ vH F fb k->¬ F2 k:=λ k hk hn t=>by
  rcases GM.sub k t with t | t
  ·exact hn (.inl t)
  ·have:=t.1;omega
 have z1:=f1.size;have z2:=GM.f.size;have z3:=f3.size;have z4:=f4.size;have l1:=cQ aE;have nF4:∀ k,k<w1.heap.size->¬ vH F fb k->¬ F4 k:=λ k hk hn=>g1F k ab (Xo k hk hn);have Xp:∀ k,k<w1.heap.size->¬ vH F fb k->¬ vH F2 fb k:=λ k hk hn t=>t.elim (Xo k hk hn) (λ q=>hn (.inr q));have a4:kS w4 g1 a s:=t34.f.ao a3 (Xp g1 l1 (Xl g1 ab));have wS:aV w4 214 15 s (rh a.bg):=(iQ.ag f3).ao t34.f λ k hk=>Xp k (by have:=ahl k hk;omega) (Xm k hk);refine⟨_,rfl,ae.ne (λ aL=>?_) (λ PB=>?_)⟩
 ·have aL:(n.p.bx a).2≠0:=aL
  have e:n.act a=((n.ao a).1,[],(n.p.bx a).2):=by unfold NodeM.act;rw[if_neg (λ t=>t hz),k1,if_pos aL]
  have e2:({ (n.ao a).1 with p:=(n.p.bx a).1 }:NodeM)=(n.ao a).1:=by rw[ahe aL,<- k1]
  rw[e2] at t4;rw[e];exact⟨(none,0,0),rfl,mX.none t4⟩
 have PB:(n.p.bx a).2=0:=PB;have ahm:n.act a=({ (n.ao a).1 with p:=(n.p.bx a).1,number:=(NodeM.lJ n.kb n.side n.aY a.bg n.number).2.1 },(NodeM.lJ n.kb n.side n.aY a.bg n.number).1,(NodeM.lJ n.kb n.side n.aY a.bg n.number).2.2):=by
  unfold NodeM.act;rw[if_neg (λ t=>t hz),k1,if_neg (λ t=>t PB)]
 rw[ahm];refine a4.ld 23 (ck:=.bE) (x:=s) (by rw[tw];rfl) ?_
 -- the node behind so many aiI
 let nd:Int->NodeM:=λ m=>{ (n.ao a).1 with p:=(n.p.bx a).1,number:=m }
 have hnd:∀ m,(nd m).kb.length=16:=λ m=>by show(n.ao a).1.kb.length=16;exact Xn
 have jW:=hs.rd.1;have ye:s.2.1=a.bg.length:=by
  have e:(rh a.bg).length=15 * a.bg.length:=by
   unfold rh
   induction a.bg with
   | nil=>rfl
   | cons x l ih=>rw[gU,vV,bU,ih,cY];show 15+_=_;omega
  omega
 have SY:ib N w4 F4 b (nd n.number) fb pw j pb wb S (λ k=>Fp k\/cD w3 w4 k):=by rw[<- k5];exact h4
 refine cp.of (λ q w'=>∃ (i:Nat) (m:Int) (done:List (ai)) (S':bz),q.2.1=(i:Int)/\i<=a.bg.length/\m=n.number+i/\kv w' S' q.1 done/\(∀ k,S' k->w4.heap.size<=k)/\ib N w' F4 b (nd m) fb pw j pb wb S (λ k=>Fp k\/cD w3 w4 k) /\
   NodeM.lJ n.kb n.side n.aY a.bg n.number=sk done (NodeM.lJ n.kb n.side n.aY (a.bg.drop i) m)/\done.length<=i/\Fr (only b) w4 w') (λ q _=>(a.bg.length - q.2.1).toNat)
  ⟨0,n.number,[],λ _=>False,rfl,fj _,by simp,Fw _ _ (λ k t=>t.elim),λ k t=>t.elim,SY,(ahg _ (ahh _ _ _ _ _)).symm,eR _,Fr.refl _ _⟩ ?_
 rintro _ ⟨q,i',_⟩ w5 ⟨i,m,done,S',GO,jV,hm,vn,pd,h5,xv,rI,f5⟩;dsimp only at GO vn;subst GO;have z5:=f5.size;have Xq:∀ {w':ah},Fr (only b) w4 w'->Fr (vH F4 fb) w4 w':=λ f=>f.mono λ k _ t=>.inl (by have t:k=b:=t;rw[t];exact h4.own.1)
 -- JZ is given back
 have fin:∀ {w':ah} {m':Int} {l:List (ai)} {v:Sl} {S2:bz},ib N w' F4 b (nd m') fb pw j pb wb S (λ k=>Fp k\/cD w3 w4 k)->Fr (only b) w4 w'->kv w' S2 v l->(∀ k,S2 k->w4.heap.size<=k)->mX N w F b (nd m') fb fg l v w':=by
  intro w' m' l v S2 hI f hr vm;refine⟨F4,pw,S2,t4.trans ⟨⟨_,_,_,_,_,hI⟩,λ k hk=>.inl hk,.inr (.inl rfl),Xq f⟩,hr,λ k hk=>?_⟩;have:=vm k hk;have:=h4.jr.file.lt;have:=h4.jr.file.ug;exact⟨by omega,λ t=>by have:=h4.lt k t;omega,by omega,by omega⟩
 refine ae.dec (λ PC=>?_) (λ gk=>?_)
 rotate_left
 ·have gk:¬ (i:Int)<(s.2.1:Int):=gk
  have hi:i=a.bg.length:=ab;rw[hi,List.drop_length] at xv;have e:sk done (NodeM.lJ n.kb n.side n.aY [] m)=(done,m,0):=by unfold sk;rw[if_neg (by intro t;exact t rfl)];simp[NodeM.lJ]
  rw[e] at xv;rw[xv];exact⟨q,rfl,fin h5 f5 vn pd⟩
 have PC:(i:Int)<(s.2.1:Int):=PC;have hi:i<a.bg.length:=ab;obtain⟨f,hf⟩:∃ f,a.bg[i]? = some f:=⟨_,cV hi⟩;have GA:a.bg.drop i=f::a.bg.drop (i+1):=by
  obtain⟨bI,he⟩:=nj.1 hf;rw[zD bI,he]
 rw[GA,Xj] at xv;have je:=ha.bg f (mI hf);obtain⟨p,hp⟩:∃ p,s.1=some p:=by
  cases hp:s.1 with
  | none=>have:=(hs.rd.2.1 hp).1;omega
  | some p=>exact⟨p,rfl⟩
 have nb:∀ k,aH s k->¬ (only b) k:=λ k hk t=>by have t:k=b:=t;rw[t] at hk;exact(Df b hk).1 PA
 have Fe:=wS.ao f5 nb;rw[ahj] at Fe;refine⟨p,hp,(show(0:Int)<=(i:Int) by omega),(show(i:Int)<(s.2.1:Int) from PC),?_⟩;rw[iH];refine eW.yp Fe.rd (ahk _) (cks:=FK) (x:=f.f) (by rw[ig,hf];rfl) ab ?_ hp;refine aC.of λ g6 w6 NV gM f6 _=>aG.aR gM rfl (WW f) λ w7 gL f7 s7=>aU.of λ w8 _ f8=>bL.of (λ k=>k=b) ?_;have zb:=h5.lt b h5.own.1;have f58:Fr none1 w5 w8:=(f6.fresh f7 ab).et f8;have h8:=h5.ag f58;have b8:w8.heap[g6]? = some (.cells (fB f.f).toArray 214 (0,0)):=f8.ag gL;have DL:∀ k,k=b->¬ (only g6) k:=λ k hk t=>by have t:k=g6:=t;omega
 refine⟨rfl,h8.db (hnd m) 0 (ck:=.int .i64) (x:=n.side) (by show some (Value.int .i64 (n.ao a).1.side)=some (Value.int .i64 n.side);rw[k3]) ⟨rfl,h8.db (hnd m) 4 (ck:=.int .i64) (x:=n.aY) (by show some (Value.int .i64 (n.ao a).1.aY)=some (Value.int .i64 n.aY);rw[k4]) ⟨rfl,h8.db (hnd m) 5 (ck:=.int .i64) (x:=m) rfl ?_⟩⟩⟩;refine aK.aw b8 (by show _<15;decide) rfl λ w9 oG f9 s9=>az.on f9 DL ?_;refine aK.aw oG (by simp[fB]) rfl λ aX oK f10 wT=>az.on f10 DL ?_;refine aK.aw oK (by simp[fB]) rfl λ bt ud f11 Gt=>az.on f11 DL ?_;have ud:bt.heap[g6]? = some (.cells (fB (bS.f (n.side,n.aY,m,f.2.2.2))).toArray 214 (0,0)):=ud;refine aU.of λ br _ f12=>bL.all ?_;have GP:Fr none1 w5 br:=(((f58.fresh f9 ab).fresh f10 ab).fresh f11 ab).et f12;have Xr:=h5.ag GP;refine aJ.all (Xr.key (hnd m) (aJ.all (aF.aR (cks:=FK) (x:=bS.f (n.side,n.aY,m,f.2.2.2)) (f12.ag ud) ?_)));have ahn:il N br:=((t4.trans ⟨⟨_,_,_,_,_,h5⟩,λ k hk=>.inl hk,.inr (.inl rfl),Xq f5⟩:fR N w F b (nd m) fb fg w5 F4 pw).iC h ht).ag GP;refine an.of (adR (nd m).kb (hnd m) (n.side,n.aY,m,f.2.2.2) je.1.e je.1.2.2.2.2 je.2 br ahn.iC) ?_;rw[show(nd m).kb=n.kb from k2];generalize jN n.kb (n.side,n.aY,m,f.2.2.2)=Z at *;rintro _ bM ⟨v,rfl,hv,f13⟩;refine⟨(v,Z.2,()),rfl,az.of f13 (ae.ne (λ aL=>?_) (λ PD=>?_))⟩
 ·have aL:Z.2≠0:=aL
  rw[if_pos aL] at xv;have e:sk done ([],m,Z.2)=([],m,Z.2):=by unfold sk;rw[if_pos aL]
  rw[e] at xv;rw[xv];exact⟨(none,0,0),rfl,fin (Xr.ag f13) ((f5.et GP).et f13) (Fw _ (λ _=>False) (λ k t=>t.elim)) (λ k t=>t.elim)⟩
 have PD:Z.2=0:=PD;rw[if_neg (λ t=>t PD),ahi] at xv;have Kh:Fr none1 w5 bM:=GP.trans f13;have aho:=vn.ag Kh;have A0:∀ k,aH v k->br.heap.size<=k:=hv.lo;have zc:=GP.size;have zc':=Kh.size;have Fb:=vn.lt;obtain⟨y,bY,r,cB,r14,f14,r15,f15,S2,vm,ahp⟩:=aho.snoc hv.is.rd hv.is.cap (λ k hk=>⟨aV.lt hv.is hk,λ t=>by have:=Fb k t;have:=A0 k hk;omega⟩) ab;refine⟨y,bY,r14,r,cB,r15,?_⟩;have f5d:Fr none1 w5 cB\/True:=.inr trivial;have um:∀ k,aH q k->¬ (only b) k/\¬ F4 k/\k≠fb/\k≠pw:=λ k hk=>by
  have h1:=pd k (vn.own k hk);have:=h4.lt b h4.own.1;have:=h4.jr.file.lt;have:=h4.jr.file.ug;exact⟨λ t=>by have t:k=b:=t;omega,λ t=>by have:=h4.lt k t;omega,by omega,by omega⟩
 have PE:ib N cB F4 b (nd m) fb pw j pb wb S (λ k=>Fp k\/cD w3 w4 k):=(h5.ag Kh).ao f15 (λ k hk t=>(um k t).2.1 hk) (λ t=>(um fb t).2.2.1 rfl) (λ t=>(um pw t).2.2.2 rfl);have f45:Fr (only b) w4 cB:=by
  refine(f5.et Kh).comp f15 λ k hk t=>?_;have:=pd k (vn.own k t);omega
 refine PE.db (hnd m) 5 (ck:=.int .i64) (x:=m) rfl ?_;have hwm:IntKind.i64.wrap (m+1)=m+1:=wI ab ab;rw[hwm];refine ri (hnd m) PE.aR 5 (by show 5<6;decide) rfl λ bV II f16 s16=>?_;rw[ag5] at II;obtain⟨Ki,_⟩:=PE.cell (n':=nd (m+1)) f16 II rfl rfl rfl;refine⟨⟨i+1,m+1,done++[Z.1],S2,?_,by omega,by omega,ahp.ao f16 (λ k hk t=>?_),λ k hk=>?_,Ki,xv,by simp;omega,f45.trans f16⟩,?_⟩
 ·dsimp only;rw[wI ab ab];omega
 ·have t:k=b:=t
  have:=h4.lt b h4.own.1
  rcases vm k hk with q | q | q
  ·have:=pd k q;omega
  ·have:=A0 k q;omega
  ·omega
 ·rcases vm k hk with q | q | q
  ·exact pd k q
  ·have:=A0 k q;omega
  ·omega
 ·dsimp only;rw[wI ab ab];omega
theorem ahq {n:NodeM}(h:jO N w F b n fb fg)(hk:n.kb.length=16)(ho:cX n.p)(hj:n.j.rs.length<=1000000)(hn:0<=n.number/\n.number<=1000000000)(ht:il N w):
  au 41 #[aZ b] w λ r w'=>∃ v:Sl,r=.tuple #[.slice v.1 v.2.1 v.2.2,aa n.tick.2.2]/\mX N w F b n.tick.1 fb fg n.tick.2.1 v w':=by
 obtain⟨bI,Kg,Pz,PA,_,_⟩:=h.lt;refine c41 _ w _ ?_;unfold C41;refine an.of (Kf h hk) ?_;rintro _ _ ⟨rfl,rfl⟩;refine⟨_,rfl,ae.by (λ hd=>?_) (λ hd=>?_)⟩
 ·have hd:n.dead=true:=hd
  have e:n.tick=(n,[],11):=by unfold NodeM.tick;rw[if_pos hd]
  rw[e];exact⟨(none,0,0),rfl,mX.none (fR.refl h)⟩
 have hd:n.dead=false:=hd;have e:n.tick=n.act n.p.tick:=by unfold NodeM.tick;rw[if_neg (by rw[hd];simp)]
 rw[e];have h':=h;obtain⟨j,pb,wb,S,Fp,h'⟩:=h';refine h'.db hk 2 (ck:=.ptr) (x:=some ⟨pb,0,none⟩) rfl ?_;refine an.of (agI h'.pr ho ht.iC) ?_;rintro _ w1 ⟨⟨s,rfl,hs,sf⟩,f1⟩;refine⟨pq n.p.tick s,rfl,?_⟩;refine an.of (Xk (h.ag f1) hk ho hj hn (ht.ag f1) n.p.tick s ho.tick hs λ k hk=>?_) ?_
 ·have:=sf k hk
  exact⟨λ t=>by have:=bI k t;omega,by omega⟩
 rintro _ w2 ⟨v,rfl,h2⟩;exact⟨(v,(n.act n.p.tick).2.2,()),rfl,v,rfl,h2.fN f1⟩
theorem ahr {n:NodeM}(h:jO N w F b n fb fg)(hk:n.kb.length=16)(ho:cX n.p)(hj:n.j.rs.length<=1000000)(hn:0<=n.number/\n.number<=1000000000)(ht:il N w){u:Sl}{bs:ai}(hu:bO w u bs)(hc:u.2.1<=u.2.2)(hl:bs.length<=140737488355300):
  au 62 #[aZ b,.slice u.1 u.2.1 u.2.2] w λ r w'=>∃ v:Sl,r=.tuple #[.slice v.1 v.2.1 v.2.2,aa (n.take bs).2.2]/\mX N w F b (n.take bs).1 fb fg (n.take bs).2.1 v w':=by
 obtain⟨bI,Kg,Pz,PA,_,_⟩:=h.lt;refine c62 _ u.1 u.2.1 u.2.2 w _ ?_;unfold C62;refine an.of (Kf h hk) ?_;rintro _ _ ⟨rfl,rfl⟩;refine⟨_,rfl,ae.by (λ hd=>?_) (λ hd=>?_)⟩
 ·have hd:n.dead=true:=hd
  have e:n.take bs=(n,[],11):=by unfold NodeM.take;rw[if_pos hd]
  rw[e];exact⟨(none,0,0),rfl,mX.none (fR.refl h)⟩
 have hd:n.dead=false:=hd;have hR:=h;obtain⟨j,pb,wb,S,Fp,h⟩:=h;refine h.key hk ?_;refine an.of (adT n.kb hk hu hc hl ht.iC) ?_;rintro _ w1 ⟨rfl,f1⟩;have rO:=Dd n.kb bs;have ahs:n.take bs=if(cM n.kb bs).2≠0 then(n,[],(cM n.kb bs).2) else if(cM n.kb bs).1.1=n.side then(n,[],8) else if n.w.acc (cM n.kb bs).1.2.1 (cM n.kb bs).1.2.2.1=false then(n,[],4) else
   ({ n with w:=n.w.accept (cM n.kb bs).1.2.1 (cM n.kb bs).1.2.2.1 }:NodeM).act (n.p.take (cM n.kb bs).1):=by
  conv=>lhs;unfold NodeM.take
  rw[if_neg (by rw[hd];simp)]
 have Xs:(cM n.kb bs).2=0->(cM n.kb bs).1.2.1<=9223372036854775807/\(cM n.kb bs).1.2.2.1<=9223372036854775807:=ahf;rw[ahs];generalize cM n.kb bs=O at *;refine⟨(O.1.f,O.2,()),rfl,?_⟩;refine aC.of λ g2 w2 qI ba f2 _=>aG.aR (vs:=fB O.1.f) ba rfl (WW O.1) λ w3 bJ f3 s3=>?_;have GL:w.heap.size<=g2:=by have:=f1.size;omega
 have f13:Fr none1 w w3:=(f1.trans f2).fresh f3 GL;refine ae.ne (λ aL=>?_) (λ hz=>?_)
 ·have aL:O.2≠0:=aL
  rw[if_pos aL];exact⟨(none,0,0),rfl,mX.none ((fR.refl hR).et f13)⟩
 have hz:O.2=0:=hz;rw[if_neg (λ t=>t hz)];refine aU.of λ w4 _ f4=>?_;have f14:=f13.trans f4;have df:=f4.ag bJ;have h4:=h.ag f14;refine af.aw df (x:=O.1.1) rfl (h4.db hk 0 (ck:=.int .i64) (x:=n.side) rfl (ae.eq (λ hs=>?_) (λ hs=>?_)))
 ·have hs:O.1.1=n.side:=hs
  rw[if_pos hs];exact⟨(none,0,0),rfl,mX.none ((fR.refl hR).et f14)⟩
 have hs:O.1.1≠n.side:=hs;rw[if_neg hs];refine aU.of λ w5 _ f5=>?_;have f15:=f14.trans f5;have dN:=f5.ag df;have h5:=h.ag f15;refine h5.db hk 3 (ck:=.ptr) (x:=some ⟨wb,0,none⟩) rfl (af.aw dN (x:=O.1.2.1) rfl (af.aw dN (x:=O.1.2.2.1) rfl ?_));refine an.of (ac0 _ _ h5.wr (Xs hz).1 (Xs hz).2) ?_;rintro _ w6 ⟨rfl,f6,wr6⟩;obtain⟨h6,t6⟩:=h5.wto (W:=n.w.accept O.1.2.1 O.1.2.2.1) wr6 f6;have z15:=f15.size;have nwb:g2≠wb:=λ t=>by have:=h.lt wb h.own.2.1;omega
 have gM:=f6.ao dN nwb;have aiJ:n.w.acc O.1.2.1 O.1.2.2.1=lj n.w.e n.w.h n.w.s O.1.2.1 O.1.2.2.1:=rfl;refine⟨_,rfl,ae.not (ae.by (λ hA=>?_) (λ hA=>?_))⟩
 rotate_left
 ·have hA:n.w.acc O.1.2.1 O.1.2.2.1=false:=hA
  rw[if_pos hA];have en:({ n with w:=n.w.accept O.1.2.1 O.1.2.2.1 }:NodeM)=n:=by
   have:n.w.accept O.1.2.1 O.1.2.2.1=n.w:=by
    unfold lY.accept;rw[hA];unfold vj qS vk;simp
   rw[this]
  rw[en] at t6;exact⟨(none,0,0),rfl,mX.none (t6.fN f15)⟩
 have hA:n.w.acc O.1.2.1 O.1.2.2.1=true:=hA;rw[if_neg (by rw[hA];simp)];refine aU.of λ w7 _ f7=>bL.all ?_;have h7:=h6.ag f7;have t7:=(t6.fN f15).et f7;refine aJ.all (h7.db hk 2 (ck:=.ptr) (x:=some ⟨pb,0,none⟩) rfl (aJ.all (aF.aR (cks:=FK) (x:=O.1.f) (f7.ag gM) ?_)));have LC:=t7.iC hR ht;refine an.of (agT h7.pr ho LC.iC O.1 rO) ?_;rintro _ w8 ⟨⟨s,rfl,hs8,sf⟩,f8⟩;refine⟨pq (n.p.take O.1) s,rfl,?_⟩;have z8:=f8.size;refine an.of (Xk (n:={ n with w:=n.w.accept O.1.2.1 O.1.2.2.1 }) ((t7.et f8).r) hk ho hj hn (LC.ag f8) (n.p.take O.1) s (ho.take rO) hs8 λ k hk=>?_) ?_
 ·have:=sf k hk
  have:=h7.jr.file.lt;exact⟨λ t=>by have:=h7.lt k t;omega,by omega⟩
 rintro _ w9 ⟨v,rfl,h9⟩;exact⟨(v,_,()),rfl,v,rfl,(h9.of (t7.et f8))⟩
namespace Vc
def Kj:(a b:List Ck)->Cs a->Cs b->Cs (a++b)
 | [],_,_,y=>y
 | _::a,b,x,y=>(x.1,Kj a b x.2 y)
theorem Xt:∀ (a b:List Ck) (x:Cs a) (y:Cs b),Cs.vals (a++b) (Kj a b x y)=Cs.vals a x++Cs.vals b y
 | [],_,_,_=>rfl
 | c::a,b,x,y=>by
  show c.val x.1::Cs.vals (a++b) (Kj a b x.2 y)=c.val x.1::(Cs.vals a x.2++Cs.vals b y);rw[Xt a b x.2 y]
end Vc
abbrev DM:List Ck:=[.int .i64,.ptr,.ptr,.int .i64,.str,.str,.str,.str,.int .i64,.int .i64,.raw,.bool,.int .i64,.str,.str,.str,.str,.int .i64,.int .i64,.raw,.bool,.bool,.bool,.int .i64]
def Xu (p:PeerM)(c l:Nat):Cs DM:=
 (p.side,some ⟨c,0,none⟩,some ⟨l,0,none⟩,p.off.1.e.1,p.off.1.e.2.1,p.off.1.e.2.2.1,p.off.1.e.2.2.2.1,p.off.1.e.2.2.2.2.1,p.off.1.e.2.2.2.2.2.1,p.off.1.e.2.2.2.2.2.2.1,p.off.1.e.2.2.2.2.2.2.2.1,p.off.2,p.aW.1.e.1,p.aW.1.e.2.1,p.aW.1.e.2.2.1,p.aW.1.e.2.2.2.1,p.aW.1.e.2.2.2.2.1,p.aW.1.e.2.2.2.2.2.1,p.aW.1.e.2.2.2.2.2.2.1,p.aW.1.e.2.2.2.2.2.2.2.1,p.aW.2,p.wanted,p.bD,p.refused,())
theorem aht (p:PeerM)(c l:Nat):Cs.vals DM (Xu p c l)=kz p c l:=rfl
theorem ahu (hk:p.kb.length=16)(c l:Nat):∃ x:Cs (ql++DM),Cs.vals (ql++DM) x=dh p.kb++kz p c l:=by
 obtain⟨y,hy⟩:=O3 16 p.kb hk;refine⟨Kj ql DM y (Xu p c l),?_⟩;rw[Xt,aht];have hy:dh p.kb=Cs.vals ql y:=hy;rw[hy]
theorem ahv (p:PeerM)(c l:Nat):(dh p.kb++kz p c l).all cG=true:=by
 rw[List.all_append,dp];refine⟨?_,?_⟩
 ·rw[xN]
  intro v hv;obtain⟨b,_,rfl⟩:=kF.1 hv;rfl
 ·unfold kz
  simp only[List.all_append,Pj,List.all_cons,List.all_nil];rfl
theorem ahw (p:PeerM)(c l c' l':Nat):((kz p c l).set 1 (.pointer (some ⟨c',0,none⟩))).set 2 (.pointer (some ⟨l',0,none⟩))=kz p c' l':=rfl
theorem ahx (h:eh w F b p)(ho:cX p):au 76 #[aZ b] w λ r w'=>∃ d,r=aZ d/\eh w' (cD w w') d p/\Fr none1 w w':=by
 obtain⟨c,l,Fc,Fl,h⟩:=h;have hk:=ho.kb;have hn:=ho.num;have hh:=ho.hs;have hd:=ho.bX.num;refine c76 _ w _ ?_;unfold C76;obtain⟨x,hx⟩:=ahu hk c l;refine⟨x,?_,?_⟩
 ·refine Eq.mp (congrArg (ma w ⟨b,0,none⟩ 0) hx.symm) ?_
  exact qt h.aR _ 0 λ j _=>by simp
 refine aC.of λ g w1 hg aE f1 s1=>?_;refine aG.aR (vs:=Cs.vals (ql++DM) x) aE (by rw[hx,bU,l0,hk];rfl) (by rw[hx];exact ahv p c l) λ w2 ba f2 s2=>aU.of λ w3 _ f3=>bL.of (λ k=>k=b) ?_;rw[hx] at ba;have ba:w2.heap[g]? = some (.cells (dh p.kb++kz p c l).toArray 107 (0,0)):=ba;have gl:w.heap.size<=g:=ab;have f13:Fr none1 w w3:=(f1.fresh f2 gl).et f3;have h3:=h.ag f13;have bJ:=f3.ag ba;have bl:=cQ h.aR;have DL:∀ k,k=b->¬ (only g) k:=λ k hk t=>by have t:k=g:=t;omega
 refine⟨rfl,h3.db hk 1 (ck:=.ptr) (x:=some ⟨c,0,none⟩) rfl ⟨rfl,h3.db hk 2 (ck:=.ptr) (x:=some ⟨l,0,none⟩) rfl ?_⟩⟩;refine an.of (O5 hk h3.ch ab ab) ?_;rintro _ w4 ⟨c',rfl,Kb,f4⟩;refine⟨some ⟨c',0,none⟩,rfl,az.of f4 ?_⟩;refine an.of (JO (h3.ag f4).ld ab) ?_;rintro _ w5 ⟨l',rfl,Kc,f5⟩;refine⟨some ⟨l',0,none⟩,rfl,az.of f5 ?_⟩;have dN:=(f4.trans f5).ag bJ;refine ri hk dN 1 (by rw[tv];decide) rfl λ w6 gM f6 s6=>az.on f6 DL ?_;refine ri hk gM 2 (by rw[List.length_set,tv];decide) rfl λ w7 gL f7 s7=>az.on f7 DL ?_;rw[ahw p c l c' l'] at gL;have z3:=f13.size;have z4:=f4.size;have z5:=f5.size;have gg:g<w3.heap.size:=cQ bJ;have f57:Fr (only g) w5 w7:=f6.trans f7;refine⟨g,rfl,⟨c',l',_,_,gL,(Kb.ag f5).ao f57 (λ k hk t=>?_),Kc.ao f57 (λ k hk t=>?_),λ k hk=>⟨⟨by have:=hk.1;omega,by have:=hk.2;have:=f57.size;omega⟩,by have:=hk.1;omega⟩,λ k hk=>⟨⟨by have:=hk.1;omega,by have:=hk.2;have:=f57.size;omega⟩,by have:=hk.1;omega⟩,⟨gl,by have:=f57.size;omega⟩⟩,((f13.trans f4).trans f5).fresh f57 gl⟩
 ·have t:k=g:=t
  have:=hk.1;omega
 ·have t:k=g:=t
  have:=hk.1;omega
theorem ahy {n:NodeM}(h:jO N w F b n fb fg)(hk:n.kb.length=16)(ho:cX n.p):au 44 #[aZ b] w λ r w'=>∃ d,r=aZ d/\eh w' (cD w w') d n.p/\Fr none1 w w':=by
 obtain⟨j,pb,wb,S,Fp,h⟩:=h;refine c44 _ w _ ?_;refine h.db hk 2 (ck:=.ptr) (x:=some ⟨pb,0,none⟩) rfl ?_;refine an.of (ahx h.pr ho) ?_;rintro _ w1 ⟨d,rfl,hd,f1⟩;exact⟨some ⟨d,0,none⟩,rfl,d,rfl,hd,f1⟩
theorem ahz (n:NodeM)(b:ai):n.aY<=(n.record b).1.aY/\(n.record b).1.aY<=n.aY+1:=by
 unfold NodeM.record;split
 ·exact⟨by simp,by dsimp only;omega⟩
 split
 ·exact⟨by dsimp only;omega,by simp⟩
 split
 ·split<;>exact⟨by simp,by dsimp only;omega⟩
 split
 ·split
  ·exact⟨by simp,by dsimp only;omega⟩
  split<;>exact⟨by simp,by dsimp only;omega⟩
 ·exact⟨by simp,by dsimp only;omega⟩
def ahA (N:Nat)(w:ah)(fb fg:Nat)(o:cL×Option NodeM×Int)(r:av)(w':ah):Prop:=
  ∃ dG,(dG=fb\/dG=fg\/cD w w' dG)/\Fr (only fb) w w' /\
    ((∃ b n F,o.2.1=some n/\n.j.fs=o.1/\o.2.2=0/\r=.tuple #[aZ b,aa 0]/\jO N w' F b n fb dG/\∀ k,F k->cD w w' k) \/
     (o.2.1=none/\o.2.2≠0/\r=.tuple #[.pointer none,aa o.2.2]/\js w' fb dG o.1))
theorem Xv {s:cL}(h:js w fb fg s)(hd:s.dead=false){kb:ai}(hk:kb.length=16)(side:Int)(ht:il N w)(hN:N<=fb):
  au 38 #[aZ fb,.agg (dh kb).toArray,aa side] w (ahA N w fb fg (NodeM.open_ kb side s)):=by
 refine c38 _ (dh kb) side w _ ?_;unfold C38;refine aC.of λ g1 w1 eG aE f1 s1=>?_;refine dc.of (λ st w'=>st.1=decide (side≠0/\side≠1)/\w1=w') ?_ ?_
 ·refine ae.ne (λ h0=>⟨?_,rfl⟩) (λ h0=>⟨?_,rfl⟩)
  ·have h0:side≠0:=h0
   show(side != 1)=_
   by_cases h1:side=1
   ·rw[decide_eq_false (by simp[h1])];simpa using h1
   ·rw[decide_eq_true ⟨h0,h1⟩];simpa using h1
  ·have h0:side=0:=h0
   show false=_;rw[decide_eq_false (by simp[h0])]
 rintro _ ⟨st,_⟩ _ ⟨dH,rfl⟩;dsimp only at dH ⊢;subst dH;have h1:=h.ag f1;have ofl:=h.lt;have ogl:=h.ug;have z1:=f1.size;refine ae.dec (λ hs=>?_) (λ hs=>?_)
 ·have e:NodeM.open_ kb side s=(s,none,1):=by unfold NodeM.open_;rw[if_pos hs]
  rw[e];exact⟨fg,.inr (.inl rfl),f1.mono λ _ _ t=>t.elim,.inr ⟨rfl,(show(1:Int)≠0 by decide),rfl,h1⟩⟩
 have kQ:side=0\/side=1:=by
  by_cases h0:side=0
  ·exact .inl h0
  ·by_cases h1:side=1
   ·exact .inr h1
   ·exact absurd ⟨h0,h1⟩ hs
 obtain⟨rows,rest,hP⟩:=adC s.b.length s.b (eR _);have I2:=hP.len;have jW:=h.ok.len;refine an.of (adA h1 hd hP) ?_;rintro _ w2 (⟨j,S,g',s',rfl,mC,f2,vm,qV,J2,nM⟩ | ⟨U6,Kk,rfl,t2⟩)
 rotate_left
 ·have eo:(oh s)=((oJ s ((s.b.length - rest.length:Nat):Int)).1,[],(oJ s ((s.b.length - rest.length:Nat):Int)).2):=by
   unfold oh;rw[N5 hP,if_neg (by rw[hd];simp)];dsimp only;rw[if_neg U6,if_pos Kk]
  have e:NodeM.open_ kb side s=((oJ s ((s.b.length - rest.length:Nat):Int)).1,none,(oJ s ((s.b.length - rest.length:Nat):Int)).2):=by
   unfold NodeM.open_;rw[if_neg hs,eo,if_pos Kk]
  rw[e];obtain⟨f2,g',qV,h2⟩:=t2;refine⟨(none,_,()),rfl,ae.ne (λ aL=>?_) (λ he=>absurd he Kk)⟩;exact⟨g',qV.imp_right λ t=>t.imp_right λ t=>⟨by omega,h2.ug⟩,f1.fN f2,.inr ⟨rfl,Kk,rfl,h2⟩⟩
 have eo:oh s=(s',rows,0):=by
  unfold oh;rw[N5 hP,if_neg (by rw[hd];simp)];dsimp only
  rcases nM with⟨hr,rfl⟩ | ⟨hr,hc,rfl⟩
  ·rw[if_pos hr]
  ·rw[if_neg hr,hc,if_neg bm]
 refine⟨(some ⟨j,0,none⟩,0,()),rfl,ae.f rfl ?_⟩;have z2:=f2.size;have ahB:g1≠fb:=ab;refine aU.of λ w3 _ f3=>bL.all ?_;have b3:=f3.ag (f2.ao aE ahB);refine aJ.all (fL.of b3 (by rw[l0,hk]) (aJ.all (fL.of b3 (by rw[l0,hk]) ?_)));refine an.of (ag2 hk side w3) ?_;rintro _ w4 ⟨pb,rfl,CZ,f4⟩;refine⟨some ⟨pb,0,none⟩,rfl,az.of f4 ?_⟩;refine an.of (acQ w4) ?_;rintro _ w5 ⟨wb,hwb,rfl,f5,vB⟩;refine⟨some ⟨wb,0,none⟩,rfl,az.of f5 ?_⟩;refine Gu hk λ y hy=>aC.of λ b w6 hb gM f6 s6=>az.of f6 ?_;have gM:w6.heap[b]? = some (.cells (Cs.vals ql y++[Value.int .i64 side,aZ j,aZ pb,aZ wb,aa 0,aa 0]).toArray 162 (0,0)):=gM;rw[hy] at gM;have z3:=f3.size;have z4:=f4.size;have z5:=f5.size;have jl:=J2.Fy;have IU:=J2.file.ug;have q9:=vB.lt;have Kl:=J2.slt;have pbn:cD w3 w4 pb:=by obtain⟨c,l,Fc,Fl,q⟩:=CZ;exact q.mem
 have f26:Fr none1 w2 w6:=((f3.trans f4).trans f5).trans f6;have e0:NodeM.fresh kb side s' rows=⟨kb,side,⟨s',false,rows⟩,j6 kb side,C3,0,0⟩:=rfl
 -- JZ is the new aiK own
 have aiL:∀ k,w.heap.size<=k->k≠fb:=λ k hk t=>by omega
 have n6:ib N w6 (λ k=>k=b\/k=wb\/k=j\/S k\/cD w3 w4 k) b (NodeM.fresh kb side s' rows) fb g' j pb wb S (cD w3 w4):=by
  refine⟨gM,J2.ag f26,CZ.ag (f5.trans f6),vB.ao f6 (λ t=>t),⟨.inl rfl,.inr (.inl rfl),.inr (.inr (.inl rfl)),λ k hk=>.inr (.inr (.inr (.inl hk))),λ k hk=>.inr (.inr (.inr (.inr hk)))⟩,?_,?_,?_,?_,hN⟩
  ·refine⟨by omega,by omega,by omega,λ t=>by have:=Kl b t;omega,λ t=>by have:=Kl wb t;omega,λ t=>by have:=t.2;omega,λ t=>by have:=t.2;omega,λ t=>by have:=t.1;omega,λ k hk t=>by have:=Kl k hk;have:=t.1;omega⟩
  ·refine⟨λ t=>?_,λ t=>?_⟩
   ·rcases t with t | t | t | t | t
    ·omega
    ·omega
    ·omega
    ·have:=vm fb t;omega
    ·have:=t.1;omega
   ·rcases t with t | t | t | t | t
    ·omega
    ·omega
    ·exact J2.ne.2 (Eq.symm t)
    ·exact(J2.off g' t).2.2 rfl
    ·have:=t.1;omega
  ·intro k hk
   rcases hk with t | t | t | t | t
   ·omega
   ·omega
   ·omega
   ·have:=Kl k t;omega
   ·have:=t.2;omega
  ·intro k hk
   have hNw:N<=w.heap.size:=ht.le
   rcases hk with t | t | t | t | t
   ·omega
   ·omega
   ·omega
   ·have:=vm k t;omega
   ·have:=t.1;omega
 generalize Xw:(λ k=>k=b\/k=wb\/k=j\/S k\/cD w3 w4 k)=F0 at n6;have Xx:∀ k,F0 k->w.heap.size<=k:=by
  intro k hk;rw[<- Xw] at hk
  rcases hk with t | t | t | t | t
  ·omega
  ·omega
  ·omega
  ·have:=vm k t;omega
  ·have:=t.1;omega
 have I9:Fr (only fb) w w6:=(f1.fN f2).et f26;have FB:∀ {w':ah},w2.heap.size<=w'.heap.size->(g'=fb\/g'=fg\/cD w w' g'):=λ hz=>qV.imp_right λ t=>t.imp_right λ t=>⟨by omega,by omega⟩;refine an.of (ada (J2.ag f26) ab (λ r hr=>by have:=I2.2 r hr;omega)) ?_;rintro _ w7 ⟨v,Sv,rfl,PF,f7,hSv⟩;refine⟨v,rfl,?_⟩;have n7:=n6.ag f7;have dD:=PF.len;have ahC:=PF.lt;have aiM:(NodeM.fresh kb side s' rows).p.kb.length=16:=hk;have FF:Fr (only fb) w w7:=I9.et f7;have z6:=f26.size;have z7:=f7.size;have F0l:∀ k,F0 k->k<w6.heap.size:=n6.lt;refine cp.of (λ q w'=>∃ (i:Nat) (n:NodeM) (F' DK:bz),q.1=(i:Int)/\i<=rows.length/\ib N w' F' b n fb g' j pb wb S DK/\(NodeM.fresh kb side s' rows).records rows=n.records (rows.drop i)/\(0<=n.aY/\n.aY<=i)/\cX n.p/\n.kb=kb/\n.side=side/\n.j=⟨s',false,rows⟩ /\
   Fr (only fb) w w'/\w7.heap.size<=w'.heap.size/\(∀ k,F' k->F0 k\/cD w7 w' k)/\kv w' Sv v rows) (λ q _=>(rows.length - q.1).toNat)
  ⟨0,_,F0,_,rfl,fj _,n7,rfl,⟨kC _,kC _⟩,UJ hk side,rfl,rfl,rfl,FF,eR _,λ k hk=>.inl hk,PF⟩ ?_
 rintro _ ⟨q,_⟩ w8 ⟨i,n,F',DK,GO,jV,n8,ot,vt,JB,Hm,BJ,xh,PG,z8,PH,Xy⟩;dsimp only at GO ⊢;subst GO;have ht8:il N w8:=ht.ao PG λ k t=>by have t:k=fb:=t;omega
 have GQ:n.kb.length=16:=by rw[Hm];exact hk
 have Km:∀ k,F' k->cD w w8 k:=λ k hk=>by
  rcases PH k hk with t | t
  ·exact⟨Xx k t,n8.lt k hk⟩
  ·exact⟨by have:=t.1;omega,t.2⟩
 have J8:kO w8 S j fb g' s' false rows:=by have:=n8.jr;rw[xh] at this;exact this
 have Xz:∀ {w':ah},w8.heap.size<=w'.heap.size->(g'=fb\/g'=fg\/cD w w' g'):=λ hz=>qV.imp_right λ t=>t.imp_right λ t=>⟨by omega,by omega⟩;refine ae.dec (λ bI=>?_) (λ gk=>?_)
 ·have bI:(i:Int)<(v.2.1:Int):=bI
  have hi:i<rows.length:=ab;refine Xy.Uw ab bI λ u hu vh hus=>?_;rw[iH] at hu;have hx:rows.getD i []∈rows:=by rw[dB,cV hi];exact nQ hi
  have nU:=I2.2 _ hx;have GA:rows.drop i=rows.getD i []::rows.drop (i+1):=by
   rw[dB,cV hi,zD hi];rfl
  rw[GA,yG] at ot;refine an.of (ahb n8 GQ JB (by rw[BJ];exact kQ) ⟨vt.1,by omega⟩ ht8 hu vh ab) ?_;rintro _ w9 ⟨rfl,F9,Fp9,n9,t9⟩;have hre:=ahz n (rows.getD i []);obtain⟨r1,r2,r3,r4,r5⟩:=UY n (rows.getD i []);have hrp:=(U7 JB (rows.getD i [])).1;have z9:=t9.f.size;have XA:Fr (only fb) w w9:=PG.comp t9.f λ k hk t=>by
   rcases t with t | t
   ·have:=(Km k t).1;omega
   ·exact t
  refine⟨_,rfl,ae.not (ae.by (λ hA=>?_) (λ hA=>?_))⟩
  ·have hA:(n.record (rows.getD i [])).2=true:=hA
   rw[if_pos hA] at ot;refine⟨⟨i+1,(n.record (rows.getD i [])).1,F9,Fp9,?_,hi,n9,ot,⟨by have:=vt.1;omega,by have:=vt.2;omega⟩,hrp,r1.trans Hm,r2.trans BJ,r3.trans xh,XA,by omega,λ k hk=>?_,?_⟩,?_⟩
   ·rw[wI ab ab];omega
   ·rcases t9.sub k hk with t | t
    ·exact(PH k t).imp_right λ t=>⟨t.1,by have:=t.2;omega⟩
    ·exact .inr ⟨by have:=t.1;omega,t.2⟩
   ·refine Xy.ao t9.f λ k hk t=>?_
    have h1:=hSv k hk;have h2:=ahC k hk
    rcases t with t | t
    ·rcases PH k t with t | t
     ·have:=F0l k t;omega
     ·have:=t.1;omega
    ·omega
   ·rw[wI ab ab];omega
  ·have hA:(n.record (rows.getD i [])).2=false:=hA
   rw[if_neg (by rw[hA];simp)] at ot;have e:NodeM.open_ kb side s=(s',none,12):=by unfold NodeM.open_;rw[if_neg hs,eo];dsimp only;rw[if_neg (λ t=>t rfl),ot];rfl
   rw[e];have J9:js w9 fb g' s':=by have:=n9.jr.file;rw[r3,xh] at this;exact this
   exact⟨g',Xz z9,XA,.inr ⟨rfl,(show(12:Int)≠0 by decide),rfl,J9⟩⟩
 ·have gk:¬ (i:Int)<(v.2.1:Int):=gk
  have hi:i=rows.length:=ab;rw[hi,List.drop_length] at ot;have ot:(NodeM.fresh kb side s' rows).records rows=(n,true):=ot;refine Fk 1 λ u w9 hu f9 pU=>?_;have n9:=n8.ag f9;have J9:=J8.ag f9;have ze:=f9.size;refine an.of (Uk J9 hu.rd (λ k hk=>?_) ab) ?_
  ·have:=pU k hk
   have h1:=J8.Fy;have h2:=J8.file.lt;exact⟨aV.lt hu hk,by omega,by omega,λ t=>by have:=J8.slt k t;omega⟩
  rintro _ aX ⟨rfl,t10⟩;obtain⟨XB,g10,AE,xm,Kn⟩:=n9.Pu (J:=(n.j.put [1]).1) (by unfold lI.put;rw[xh];exact t10);have z10:=Kn.f.size;have XC:Fr (only fb) w aX:=(PG.et f9).comp Kn.f λ k hk t=>by
   rcases t with t | t
   ·have:=(Km k t).1;omega
   ·exact t
  have XD:g10=fb\/g10=fg\/cD w aX g10:=by
   rcases Kn.g with t | t | t
   ·exact .inl t
   ·rw[t];exact Xz ab
   ·exact .inr (.inr ⟨by have:=t.1;omega,t.2⟩)
  have XE:∀ k,XB k->cD w aX k:=λ k hk=>by
   rcases Kn.sub k hk with t | t
   ·exact⟨(Km k t).1,by have:=(Km k t).2;omega⟩
   ·exact⟨by have:=t.1;omega,t.2⟩
  have e0:NodeM.open_ kb side s=if(n.j.put [1]).2≠0 then((n.j.put [1]).1.fs,none,(n.j.put [1]).2) else((n.j.put [1]).1.fs,some { n with j:=(n.j.put [1]).1,aY:=n.aY+1 },0):=by
   unfold NodeM.open_;rw[if_neg hs,eo];dsimp only;rw[if_neg (λ t=>t rfl),ot,if_neg bm]
  have ec:(j8 s' false [1]).2.2.1=(n.j.put [1]).2:=by unfold lI.put;rw[xh]
  refine⟨(n.j.put [1]).2,by rw[ec];rfl,ae.ne (λ aL=>?_) (λ hz=>?_)⟩
  ·have aL:(n.j.put [1]).2≠0:=aL
   rw[e0,if_pos aL];exact⟨g10,XD,XC,.inr ⟨rfl,aL,rfl,xm.jr.file⟩⟩
  ·have hz:(n.j.put [1]).2=0:=hz
   rw[e0,if_neg (λ t=>t hz)];refine xm.db GQ 4 (ck:=.int .i64) (x:=n.aY) rfl ?_;have hw:IntKind.i64.wrap (n.aY+1)=n.aY+1:=wI ab ab;rw[hw];refine ri GQ xm.aR 4 (by show 4<6;decide) rfl λ bt ud f11 Gt=>?_;rw[Xi] at ud;obtain⟨Ol,t11⟩:=xm.cell (n':={ n with j:=(n.j.put [1]).1,aY:=n.aY+1 }) f11 ud rfl rfl rfl
   refine⟨g10,XD.imp_right λ t=>t.imp_right λ t=>⟨t.1,by have:=t.2;omega⟩,XC.comp f11 (λ k hk t=>by have t:k=b:=t;have:=Xx b (by rw[<- Xw];exact .inl rfl);omega),.inl ⟨b,_,XB,rfl,rfl,rfl,rfl,⟨_,_,_,_,_,Ol⟩,λ k hk=>⟨(XE k hk).1,by have:=(XE k hk).2;omega⟩⟩⟩
def C7 (p0:List av)(p1:Int)(w:ah)(K:aP):Prop:=
 aC (.cells p0.toArray 25) w (λ g1 w2=>fL 16 (ad g1) w2 (λ x3=>xz [.int .u8,.int .u8,.int .u8,.int .u8,.int .u8,.int .u8,.int .u8,.int .u8,.int .u8,.int .u8,.int .u8,.int .u8,.int .u8,.int .u8,.int .u8,.int .u8] x3 (λ(x4:Int×Int×Int×Int×Int×Int×Int×Int×Int×Int×Int×Int×Int×Int×Int×Int×Unit)=>aC (.cells #[.int .u8 x4.1,.int .u8 x4.2.1,.int .u8 x4.2.2.1,.int .u8 x4.2.2.2.1,.int .u8 x4.2.2.2.2.1,.int .u8 x4.2.2.2.2.2.1,.int .u8 x4.2.2.2.2.2.2.1,.int .u8 x4.2.2.2.2.2.2.2.1,.int .u8 x4.2.2.2.2.2.2.2.2.1,.int .u8 x4.2.2.2.2.2.2.2.2.2.1,.int .u8 x4.2.2.2.2.2.2.2.2.2.2.1,.int .u8 x4.2.2.2.2.2.2.2.2.2.2.2.1,.int .u8 x4.2.2.2.2.2.2.2.2.2.2.2.2.1,.int .u8 x4.2.2.2.2.2.2.2.2.2.2.2.2.2.1,.int .u8 x4.2.2.2.2.2.2.2.2.2.2.2.2.2.2.1,.int .u8 x4.2.2.2.2.2.2.2.2.2.2.2.2.2.2.2.1,.pointer none,.pointer none,.slice none 0 0] 87) w2 (λ g5 w6=>cp (Int×Unit) (λ _ s7 w8 Ah=>ae (decide (s7.1<2))
 (ak 37 #[aa p1] w8 gH (λ(bG:aS) bt=>fL 16 (ad g1) bt (λ cn=>ak 38 #[.pointer bG,.agg cn.toArray,aa s7.1] bt uQ (λ(cA:aS×Int×Unit) bY=>ae (cA.2.1 != 0)
 (K (.tuple #[.pointer none,aa cA.2.1]) bY)
 (aC (.cells #[.pointer bG,.pointer cA.1,.bool false] 94) bY (λ g15 bV=>y7 ((ad g5).add 16) 2 s7.1 1 (λ a17=>aK a17 (.pointer (some (ad g15))) bV (λ b9=>Ah (IntKind.i64.wrap (s7.1+1),()) b9))))))))
 (K (.tuple #[.pointer (some (ad g5)),aa 0]) w8))
 (0,()) w6))))
def pl7:aN:=(.seq .auto (.seq .auto (.seq (.seq .auto (.block (.loop [(14,.one (.int .i64))] .auto))) .auto)))
theorem c7 (p0 p1 w K)(h:C7 p0 p1 w K):au 7 #[.agg p0.toArray,aa p1] w K:=aQ Tryz.func7 (p:=pl7) aA h
def C43 (p0:Addr)(p1:Int)(w:ah)(K:aP):Prop:=
 ae (p1 != 0)
 (ae (p1 != 1)
 (K (.pointer none) w)
 (y7 (p0.add 16) 2 p1 1 (λ a1=>af .ptr a1 w (λ(x2:aS)=>K (.pointer x2) w))))
 (y7 (p0.add 16) 2 p1 1 (λ a3=>af .ptr a3 w (λ(x4:aS)=>K (.pointer x4) w)))
def pl43:aN:=.auto
theorem c43 (p0 p1 w K)(h:C43 p0 p1 w K):au 43 #[aI p0,aa p1] w K:=aQ Tryz.func43 (p:=pl43) aA h
def C39 (p0:Addr)(p1:Int)(w:ah)(K:aP):Prop:=
 ak 43 #[aI p0,aa p1] w gH (λ(x1:aS) w2=>ae (Option.isNone x1)
 (K (.tuple #[.pointer none,aa 1]) w2)
 (ie x1 (λ a3=>af .bool (a3.add 2) w2 (λ(x4:Bool)=>ae x4
 (K (.tuple #[.pointer none,aa 11]) w2)
 (K (.tuple #[.pointer x1,aa 0]) w2)))))
def pl39:aN:=.auto
theorem c39 (p0 p1 w K)(h:C39 p0 p1 w K):au 39 #[aI p0,aa p1] w K:=aQ Tryz.func39 (p:=pl39) aA h
def C9 (p0:Addr)(p1:Int)(p2:di)(w:ah)(K:aP):Prop:=
 aC (.cells ((cO p2).toArray) 34) w (λ g1 w2=>ak 39 #[aI p0,aa p1] w2 uQ (λ(x3:aS×Int×Unit) w4=>ae (x3.2.1 != 0)
 (K (aa x3.2.1) w4)
 (aU w4 (λ w5=>ie x3.1 (λ a6=>af .ptr (a6.add 1) w5 (λ(x7:aS)=>aF fO (ad g1) w5 (λ(x8:di)=>ak 40 #[.pointer x7,.agg (cO x8).toArray] w5 bN (λ(x9:Int) aX=>K (aa x9) aX))))))))
def pl9:aN:=(.seq .auto (.seq .auto (.seq .auto (.seq (.tail 5) .auto))))
theorem c9 (p0 p1 p2 w K)(h:C9 p0 p1 p2 w K):au 9 #[aI p0,aa p1,.agg (cO p2).toArray] w K:=aQ Tryz.func9 (p:=pl9) aA h
def C26 (p0:Addr)(p1:Int)(p2:Int)(w:ah)(K:aP):Prop:=
 ak 39 #[aI p0,aa p1] w uQ (λ(x1:aS×Int×Unit) w2=>ae (x1.2.1==0)
 (ie x1.1 (λ a3=>af .ptr (a3.add 1) w2 (λ(x4:aS)=>ak 57 #[.pointer x4,aa p2] w2 gR (λ(x5:Unit) w6=>K (.tuple #[]) w6))))
 (K (.tuple #[]) w2))
def pl26:aN:=.auto
theorem c26 (p0 p1 p2 w K)(h:C26 p0 p1 p2 w K):au 26 #[aI p0,aa p1,aa p2] w K:=aQ Tryz.func26 (p:=pl26) aA h
def C42 (p0:Addr)(p1:Int)(p2:aS)(pj tk:Nat)(w:ah)(K:aP):Prop:=
 cp (Int×Unit) (λ _ s1 w2 jh=>ae (decide (s1.1<(pj:Int)))
 (cz p2 pj s1.1 1 (λ a4=>af .bE a4 w2 (λ(x5:aB)=>af .bE (p0.add 18) w2 (λ(x6:aB)=>aT (Instr.buildSlice 85 1 #[(0,.agg #[aa (IntKind.i64.wrap (1 - p1)),aO x5])]) w2 aM (λ(x7:aB) w8=>aT (Builtin.append_ #[85,85] 85 #[aO x6,aO x7]) w8 aM (λ(x9:aB) aX=>aK (p0.add 18) (aO x9) aX (λ bt=>jh (IntKind.i64.wrap (s1.1+1),()) bt)))))))
 (K (.tuple #[]) w2))
 (0,()) w
def pl42:aN:=(.seq .auto (.block (.loop [(10,.one (.int .i64))] .auto)))
theorem c42 (p0 p1 p2 pj tk w K)(h:C42 p0 p1 p2 pj tk w K):au 42 #[aI p0,aa p1,.slice p2 pj tk] w K:=aQ Tryz.func42 (p:=pl42) aA h
def C10 (p0:Addr)(p1:Int)(w:ah)(K:aP):Prop:=
 ak 39 #[aI p0,aa p1] w uQ (λ(x1:aS×Int×Unit) w2=>ae (x1.2.1 != 0)
 (K (aa x1.2.1) w2)
 (ie x1.1 (λ a3=>af .ptr (a3.add 1) w2 (λ(x4:aS)=>ak 41 #[.pointer x4] w2 pI (λ(x5:aB×Int×Unit) w6=>ak 42 #[aI p0,aa p1,.slice x5.1.1 x5.1.2.1 x5.1.2.2] w6 gR (λ(x7:Unit) w8=>K (aa x5.2.1) w8))))))
def pl10:aN:=.auto
theorem c10 (p0 p1 w K)(h:C10 p0 p1 w K):au 10 #[aI p0,aa p1] w K:=aQ Tryz.func10 (p:=pl10) aA h
def C32 (p0:Addr)(p1:Int)(p2:aS)(pj tk:Nat)(w:ah)(K:aP):Prop:=
 ak 39 #[aI p0,aa p1] w uQ (λ(x1:aS×Int×Unit) w2=>ae (x1.2.1 != 0)
 (K (aa x1.2.1) w2)
 (ie x1.1 (λ a3=>af .ptr (a3.add 1) w2 (λ(x4:aS)=>ak 62 #[.pointer x4,.slice p2 pj tk] w2 pI (λ(x5:aB×Int×Unit) w6=>ak 42 #[aI p0,aa p1,.slice x5.1.1 x5.1.2.1 x5.1.2.2] w6 gR (λ(x7:Unit) w8=>K (aa x5.2.1) w8))))))
def pl32:aN:=.auto
theorem c32 (p0 p1 p2 pj tk w K)(h:C32 p0 p1 p2 pj tk w K):au 32 #[aI p0,aa p1,.slice p2 pj tk] w K:=aQ Tryz.func32 (p:=pl32) aA h
def C12 (p0:Addr)(p1:Int)(w:ah)(K:aP):Prop:=
 ak 36 #[aI p0,aa p1] w (.bR [.one (.int .i64),.one .bE,.one .bool]) (λ(x1:Int×aB×Bool×Unit) w2=>ae (!x1.2.2.1)
 (K (aa 3) w2)
 (ak 32 #[aI p0,aa x1.1,.slice x1.2.1.1 x1.2.1.2.1 x1.2.1.2.2] w2 bN (λ(x3:Int) w4=>K (aa x3) w4)))
def pl12:aN:=.auto
theorem c12 (p0 p1 w K)(h:C12 p0 p1 w K):au 12 #[aI p0,aa p1] w K:=aQ Tryz.func12 (p:=pl12) aA h
def C35 (p0:Addr)(p1:Int)(p2:Int)(w:ah)(K:aP):Prop:=
 ak 43 #[aI p0,aa p1] w gH (λ(x1:aS) w2=>ae (!(Option.isNone x1))
 (ie x1 (λ a3=>af .ptr (a3.add 0) w2 (λ(x4:aS)=>ak 65 #[.pointer x4,aa p2] w2 gR (λ(x5:Unit) w6=>K (.tuple #[]) w6))))
 (K (.tuple #[]) w2))
def pl35:aN:=.auto
theorem c35 (p0 p1 p2 w K)(h:C35 p0 p1 p2 w K):au 35 #[aI p0,aa p1,aa p2] w K:=aQ Tryz.func35 (p:=pl35) aA h
def C33 (p0:Addr)(p1:Int)(p2:Int)(p3:Int)(w:ah)(K:aP):Prop:=
 ak 43 #[aI p0,aa p1] w gH (λ(x1:aS) w2=>ae (Option.isNone x1)
 (K (aa 1) w2)
 (ie x1 (λ a3=>af .ptr (a3.add 0) w2 (λ(x4:aS)=>ak 63 #[.pointer x4,aa p2,.int .u8 p3] w2 gR (λ(x5:Unit) w6=>aU w6 (λ w7=>bL (λ S8=>ie x1 (λ a9=>aJ S8 (a9.add 0) (af .ptr (a9.add 0) w7 (λ(bG:aS)=>aJ S8 (p0.add 0) (fL 16 (p0.add 0) w7 (λ bQ=>ak 38 #[.pointer bG,.agg bQ.toArray,aa p1] w7 uQ (λ(cn:aS×Int×Unit) bM=>az S8 w7 bM (ie x1 (λ zK=>aK (zK.add 2) (.bool (cn.2.1 != 0)) bM (λ cB=>ie x1 (λ zL=>af .bool (zL.add 2) cB (λ(bZ:Bool)=>ae (!bZ)
 (ie x1 (λ wF=>aK (wF.add 1) (.pointer cn.1) cB (λ ct=>K (aa cn.2.1) ct)))
 (K (aa cn.2.1) cB)))))))))))))))))))
def pl33:aN:=(.seq .auto (.seq .auto (.seq .auto (.seq .auto (.seq (.held (.soft 0 (.soft 1 (.soft 2 (.soft 3 (.soft 4 (.soft 5 (.soft 6 (.soft 7 (.soft 8 (.pick 9 (.soft 10 (.soft 11 (.soft 12 (.soft 13 (.soft 14 .done))))) .stop))))))))))) .auto)))))
theorem c33 (p0 p1 p2 p3 w K)(h:C33 p0 p1 p2 p3 w K):au 33 #[aI p0,aa p1,aa p2,.int .u8 p3] w K:=aQ Tryz.func33 (p:=pl33) aA h
def C11 (p0:Addr)(w:ah)(K:aP):Prop:=
 af .bE (p0.add 18) w (λ(x1:aB)=>K (aa (x1.2.1:Int)) w)
def pl11:aN:=.auto
theorem c11 (p0 w K)(h:C11 p0 w K):au 11 #[aI p0] w K:=aQ Tryz.func11 (p:=pl11) aA h
def C36 (p0:Addr)(p1:Int)(w:ah)(K:aP):Prop:=
 ae (decide (p1<0))
 (K (.tuple #[aa 0,.slice none 0 0,.bool false]) w)
 (af .bE (p0.add 18) w (λ(x1:aB)=>ae (decide (p1 >= (x1.2.1:Int)))
 (K (.tuple #[aa 0,.slice none 0 0,.bool false]) w)
 (aU w (λ w2=>bL (λ S3=>aJ S3 (p0.add 18) (af .bE (p0.add 18) w2 (λ(x4:aB)=>cz x4.1 x4.2.1 p1 2 (λ a5=>aJ S3 (a5.add 0) (af (.int .i64) (a5.add 0) w2 (λ(x6:Int)=>aJ S3 (p0.add 18) (af .bE (p0.add 18) w2 (λ(x7:aB)=>cz x7.1 x7.2.1 p1 2 (λ a8=>aJ S3 (a8.add 1) (af .bE (a8.add 1) w2 (λ(x9:aB)=>ak 66 #[aO x9] w2 aM (λ(bG:aB) bt=>az S3 w2 bt (K (.tuple #[aa x6,aO bG,.bool true]) bt)))))))))))))))))
def pl36:aN:=(.seq .auto (.seq .auto (.seq (.held (.soft 0 (.soft 1 (.soft 2 (.soft 3 (.soft 4 (.soft 5 (.soft 6 (.soft 7 (.soft 8 (.soft 9 (.soft 10 (.soft 11 (.soft 12 (.soft 13 (.soft 14 (.soft 15 (.pick 16 (.soft 17 (.soft 18 (.soft 19 .done))) .stop)))))))))))))))))) .auto)))
theorem c36 (p0 p1 w K)(h:C36 p0 p1 w K):au 36 #[aI p0,aa p1] w K:=aQ Tryz.func36 (p:=pl36) aA h
def C14 (p0:Addr)(p1:Int)(w:ah)(K:aP):Prop:=
 ak 43 #[aI p0,aa p1] w gH (λ(x1:aS) w2=>ae (!(Option.isNone x1))
 (ie x1 (λ a3=>af .ptr (a3.add 1) w2 (λ(x4:aS)=>ak 44 #[.pointer x4] w2 gH (λ(x5:aS) w6=>K (.pointer x5) w6))))
 (K (.pointer none) w2))
def pl14:aN:=.auto
theorem c14 (p0 p1 w K)(h:C14 p0 p1 w K):au 14 #[aI p0,aa p1] w K:=aQ Tryz.func14 (p:=pl14) aA h
def C34 (p0:Addr)(p1:Int)(w:ah)(K:aP):Prop:=
 ak 43 #[aI p0,aa p1] w gH (λ(x1:aS) w2=>ae (!(Option.isNone x1))
 (ie x1 (λ a3=>af .bool (a3.add 2) w2 (λ(x4:Bool)=>ae x4
 (K (.bool true) w2)
 (ie x1 (λ a5=>af .ptr (a5.add 1) w2 (λ(x6:aS)=>ak 64 #[.pointer x6] w2 bK (λ(x7:Bool) w8=>K (.bool x7) w8)))))))
 (K (.bool false) w2))
def pl34:aN:=.auto
theorem c34 (p0 p1 w K)(h:C34 p0 p1 w K):au 34 #[aI p0,aa p1] w K:=aQ Tryz.func34 (p:=pl34) aA h
def C13 (p0:Addr)(w:ah)(K:aP):Prop:=
 ak 11 #[aI p0] w bN (λ(x1:Int) w2=>ak 10 #[aI p0,aa 0] w2 bN (λ(x3:Int) w4=>ak 10 #[aI p0,aa 1] w4 bN (λ(x5:Int) w6=>cp (Int×Unit) (λ _ s7 w8 Ah=>ak 11 #[aI p0] w8 bN (λ(bG:Int) bt=>ae (decide (s7.1<bG))
 (ak 12 #[aI p0,aa s7.1] bt bN (λ(cn:Int) bM=>Ah (IntKind.i64.wrap (s7.1+1),()) bM))
 (ak 34 #[aI p0,aa 0] bt bK (λ(cj:Bool) cB=>ae cj
 (K (aa 11) cB)
 (ak 34 #[aI p0,aa 1] cB bK (λ(bP:Bool) da=>ae bP
 (K (aa 11) da)
 (K (aa 0) da)))))))
 (x1,()) w6)))
def pl13:aN:=(.seq .auto (.seq .auto (.seq .auto (.seq .auto (.seq (.seq .auto (.block (.loop [(4,.one (.int .i64))] .auto))) .auto)))))
theorem c13 (p0 w K)(h:C13 p0 w K):au 13 #[aI p0] w K:=aQ Tryz.func13 (p:=pl13) aA h
def C19  (w:ah) (K:aP):Prop:=
 ak 7 #[.agg #[.int .u8 1,.int .u8 0,.int .u8 0,.int .u8 0,.int .u8 0,.int .u8 0,.int .u8 0,.int .u8 0,.int .u8 0,.int .u8 0,.int .u8 0,.int .u8 0,.int .u8 0,.int .u8 0,.int .u8 0,.int .u8 0],aa 900] w uQ (λ(x1:aS×Int×Unit) w2=>ae (x1.2.1 != 0)
 (K (.bool false) w2)
 (ae (Option.isNone x1.1)
 (K (.bool false) w2)
 (ak 11 #[.pointer x1.1] w2 bN (λ(x3:Int) w4=>ae (x3 != 0)
 (K (.bool false) w4)
 (ak 9 #[.pointer x1.1,aa 0,.agg #[aa 5,aj,aj,aj,aj,aa 1,aa 0,.nilIface]] w4 bN (λ(x5:Int) w6=>ae (x5 != 0)
 (K (.bool false) w6)
 (ak 13 #[.pointer x1.1] w6 bN (λ(x7:Int) w8=>ae (x7 != 0)
 (K (.bool false) w8)
 (ak 14 #[.pointer x1.1,aa 1] w8 gH (λ(x9:aS) aX=>ae (!(Option.isNone x9))
 (ak 17 #[.pointer x9] aX gH (λ(bQ:aS) br=>ak 20 #[.pointer bQ] br bN (λ(cA:Int) bY=>K (.bool (cA==1)) bY)))
 (K (.bool false) aX)))))))))))
def pl19:aN:=.auto
theorem c19 (w K)(h:C19  w K):au 19 #[] w K:=aQ Tryz.func19 (p:=pl19) aA h
theorem XF:jR Tryz.prog 85 151 2 (.agg #[aa 0,.slice none 0 0]) 32:=⟨Tryz.underlying85,⟨Tryz.t151,by kernel_rfl,rfl,rfl,rfl⟩,rfl,by decide⟩
abbrev vI:=List (Int×ai)
def uE:vI->List Sl->List av
 | x::l,u::us=>.int .i64 x.1::pc u::uE l us
 | _,_=>[]
theorem PI:∀ (l:vI) (us:List Sl),us.length=l.length->(uE l us).length=l.length * 2
 | [],us,h=>by simp[uE]
 | x::l,[],h=>by simp at h
 | x::l,u::us,h=>by
  show(uE l us).length+1+1=_;rw[PI l us (by simpa using h),cY];omega
theorem XG:∀ (l:vI) (us:List Sl) (x:Int×ai) (u:Sl),us.length=l.length->uE (l++[x]) (us++[u])=uE l us++[aa x.1,pc u]
 | [],us,x,u,h=>by
  have:us=[]:=tH h;subst this;rfl
 | y::l,[],x,u,h=>by simp at h
 | y::l,v::us,x,u,h=>by
  show _::_::uE (l++[x]) (us++[u])=_::_::(uE l us++_);rw[XG l us x u (by simpa using h)]
theorem XH:∀ (l:vI) (us:List Sl) (i:Nat),us.length=l.length->i<l.length->(uE l us)[i * 2]? = some (aa (l.getD i (0,[])).1)/\(uE l us)[i * 2+1]? = some (pc (us.getD i yC))
 | [],us,i,h,hi=>by simp at hi
 | x::l,[],i,h,hi=>by simp at h
 | x::l,u::us,0,h,hi=>⟨rfl,rfl⟩
 | x::l,u::us,i+1,h,hi=>by
  have:=XH l us i (by simpa using h) (by simpa using hi);rw[show(i+1) * 2=i * 2+2 by omega,show i * 2+2+1=i * 2+1+2 by omega];exact this
structure pz (w:ah)(S:bz)(v:Sl)(l:vI):Prop where
 out:∃ us:List Sl,us.length=l.length/\aV w 151 2 v (uE l us)/\(∀ i,i<us.length->bO w (us.getD i yC) (l.getD i (0,[])).2)/\∀ u∈us,(∀ k,aH u k->S k/\¬ aH v k)/\u.2.1<=u.2.2
 own:∀ k,aH v k->S k
 lt:∀ k,S k->k<w.heap.size
theorem pz.ao {v:Sl}{l:vI}(h:pz w S v l){T:bz}(f:Fr T w w')(hT:∀ k,S k->¬ T k):pz w' S v l:=by
 obtain⟨⟨us,a,b,c,d⟩,o,lt⟩:=h;refine⟨⟨us,a,b.ao f (λ k hk=>hT k (o k hk)),λ i hi=>(c i hi).ao f (λ k hk=>?_),d⟩,o,λ k hk=>nS (lt k hk) f.size⟩;rw[dB,cV hi] at hk;exact hT k ((d _ (nQ hi)).1 k hk).1
theorem pz.ag {v:Sl}{l:vI}(h:pz w S v l)(f:Fr none1 w w'):pz w' S v l:=h.ao f (λ _ _ t=>t)
theorem pz.len {v:Sl}{l:vI}(h:pz w S v l):v.2.1=l.length:=by
 obtain⟨⟨us,a,b,_⟩,_⟩:=h;have:=b.len;rw[PI l us a] at this;omega
theorem ahD (w:ah):pz w none1 (none,0,0) []:=⟨⟨[],rfl,.inl ⟨rfl,rfl⟩,λ i hi=>by simp at hi,λ u hu=>by simp at hu⟩,(λ k ⟨a,ha,_⟩=>by cases ha),λ k hk=>hk.elim⟩
theorem pz.snoc {v u:Sl}{l:vI}{x:Int×ai}(h:pz w S v l)(hu:bO w u x.2)(AM:u.2.1<=u.2.2)(dP:∀ k,aH u k->k<w.heap.size/\¬ aH v k)(hl:l.length<=1000000):
  ∃ (y:Sl) (w2:ah) (z:Sl) (w3:ah),(Instr.buildSlice 85 1 #[(0,.agg #[aa x.1,.slice u.1 u.2.1 u.2.2])]).run Tryz.prog w=.ok (.slice y.1 y.2.1 y.2.2) w2/\Fr none1 w w2 /\
   (Builtin.append_ #[85,85] 85 #[.slice v.1 v.2.1 v.2.2,.slice y.1 y.2.1 y.2.2]).run Tryz.prog w2=.ok (.slice z.1 z.2.1 z.2.2) w3 /\
   Fr (aH v) w w3/\(∀ k,aH z k->aH v k\/cD w w3 k)/\∃ S',(∀ k,S' k->S k\/aH u k\/cD w w3 k)/\pz w3 S' z (l++[x]):=by
 have dD:=h.len;obtain⟨⟨us,a0,a1,a3,a4⟩,o,lt⟩:=h;obtain⟨y,w2,hr,hy,gG,f1,hf⟩:=po (P:=Tryz.prog) (w:=w) XF [aa x.1,pc u] rfl ar;obtain⟨z,w3,iD,hz,hzl,f2,nP⟩:=jf XF 85 (a1.ag f1) hy.rd (by simp[pc,cG]) (by rw[gG,dD];omega);have f3:Fr (aH v) w w3:=f1.fN f2;refine⟨y,w2,z,w3,hr,f1,iD,f3,(λ k t=>(nP k t).imp_right λ q=>⟨ez f1.size q,aV.lt hz t⟩),λ k=>S k\/aH u k\/aH z k,λ k hk=>?_,?_⟩
 ·rcases hk with t | t | t
  ·exact .inl t
  ·exact .inr (.inl t)
  ·rcases nP k t with q | q
   ·exact .inl (o k q)
   ·exact .inr (.inr ⟨ez f1.size q,aV.lt hz t⟩)
 ·refine⟨⟨us++[u],by simp[a0],by rw[XG l us x u a0];exact hz,λ i hi=>?_,λ x2 hx=>⟨λ k hk=>?_,?_⟩⟩,λ k hk=>.inr (.inr hk),λ k hk=>?_⟩
  ·by_cases wY:i<us.length
   ·rw[IE _ _ _ wY,IE _ _ _ ab]
    refine(a3 i wY).ao f3 (λ k hk=>?_);rw[dB,cV wY] at hk;exact((a4 _ (nQ wY)).1 k hk).2
   ·have:i=us.length:=by simp at hi;omega
    subst this;rw[IF,a0,IF];exact hu.ao f3 (λ k hk t=>(dP k hk).2 t)
  ·rcases kE.1 hx with hx | hx
   ·obtain⟨t1,t2⟩:=(a4 x2 hx).1 k hk
    refine⟨.inl t1,λ t=>?_⟩
    rcases nP k t with t | t
    ·exact t2 t
    ·have:=lt k t1;have:=f1.size;omega
   ·simp at hx;subst hx
    refine⟨.inr (.inl hk),λ t=>?_⟩
    rcases nP k t with t | t
    ·exact(dP k hk).2 t
    ·have:=(dP k hk).1;have:=f1.size;omega
  ·rcases kE.1 hx with hx | hx
   ·exact(a4 x2 hx).2
   ·simp at hx;subst hx;exact AM
  ·have s3:=f3.size
   rcases hk with t | t | t
   ·have:=lt k t;omega
   ·have:=(dP k t).1;omega
   ·exact aV.lt hz t
theorem pz.at_ {w0:ah}{v:Sl}{l:vI}(h:pz w0 S v l)(f:Fr none1 w0 w){i:Int}(h0:0<=i)(h1:i<v.2.1){K:Addr->Prop}
  (k:∀ (a:Addr) (u:Sl),w.cell? (a.add 0)=some (aa (l.getD i.toNat (0,[])).1)->w.cell? (a.add 1)=some (pc u)->bO w u (l.getD i.toNat (0,[])).2->u.2.1<=u.2.2->(∀ k,aH u k->S k)->K a):cz v.1 v.2.1 i 2 K:=by
 have hlen:=h.len;have h:=h.ag f;obtain⟨⟨us,a0,a1,a3,a4⟩,o,lt⟩:=h
 rcases a1 with⟨rfl,-⟩ | ⟨g,off,cs,e,hb,h2,h3,h4,h5⟩
 ·simp at h1;omega
 rw[e];have hi:i.toNat<l.length:=ab;obtain⟨c1,c2⟩:=XH l us i.toNat a0 hi;have hz:=PI l us a0;refine cz.of h0 h1 (k _ (us.getD i.toNat yC) ?_ ?_ (a3 _ ab) ?_ ?_)
 ·rw[eN,rr hb,tJ,h5 _ ab];exact c1
 ·rw[eN,rr hb,Nat.add_assoc,h5 _ ab];exact c2
 ·rw[dB,cV ab]
  exact(a4 _ (nQ ab)).2
 ·rw[dB,cV ab]
  exact λ k hk=>((a4 _ (nQ ab)).1 k hk).1
def GR (p:kR)(fb nb:Nat):Array av:=#[aZ fb,aZ nb,.bool p.down]
structure vJ (N:Nat)(w:ah)(G:bz)(b:Nat)(p:kR)(fb fg nb:Nat)(F:bz):Prop where
 aR:w.heap[b]? = some (.cells (GR p fb nb) 94 (0,0))
 node:jO N w F nb p.n fb fg
 own:G b/\G fb/\G fg/\∀ k,F k->G k
 apart:b≠fb/\b≠fg/\¬ F b
 lt:∀ k,G k->k<w.heap.size
 lo:∀ k,G k->N<=k
def yY (N:Nat)(w:ah)(G:bz)(b:Nat)(p:kR):Prop:=∃ fb fg nb F,vJ N w G b p fb fg nb F
theorem vJ.ao {G T:bz}{p:kR}{nb:Nat}(h:vJ N w G b p fb fg nb F)(f:Fr T w w')(hT:∀ k,G k->¬ T k):vJ N w' G b p fb fg nb F:=
 ⟨f.ao h.aR (hT b h.own.1),h.node.ao f (λ k hk=>hT k (h.own.2.2.2 k hk)) (hT _ h.own.2.1) (hT _ h.own.2.2.1),h.own,h.apart,λ k hk=>nS (h.lt k hk) f.size,h.lo⟩
theorem yY.ao {G T:bz}{p:kR}(h:yY N w G b p)(f:Fr T w w')(hT:∀ k,G k->¬ T k):yY N w' G b p:=by
 obtain⟨fb,fg,nb,F,h⟩:=h;exact⟨fb,fg,nb,F,h.ao f hT⟩
theorem yY.lt {G:bz}{p:kR}(h:yY N w G b p):(∀ k,G k->k<w.heap.size)/\(∀ k,G k->N<=k)/\G b:=by
 obtain⟨fb,fg,nb,F,h⟩:=h;exact⟨h.lt,h.lo,h.own.1⟩
theorem vJ.to {G:bz}{p:kR}{nb:Nat}(h:vJ N w G b p fb fg nb F){n':NodeM}{F':bz}{dG:Nat}(t:fR N w F nb n' fb fg w' F' dG)(hN:N<=w.heap.size):
  vJ N w' (λ k=>G k\/F' k\/k=dG) b ⟨n',p.down⟩ fb dG nb F'/\Fr G w w'/\∀ k,(F' k\/k=dG)->G k\/cD w w' k:=by
 obtain⟨o1,o2,o3,o4⟩:=h.own;obtain⟨a1,a2,a3⟩:=h.apart;have hb:=h.lt b o1;have sub:∀ k,(F' k\/k=dG)->G k\/cD w w' k:=λ k hk=>by
  rcases hk with q | rfl
  ·exact(t.sub k q).imp_left (o4 k)
  ·rcases t.g with q | q | q
   ·rw[q];exact .inl o2
   ·rw[q];exact .inl o3
   ·exact .inr q
 have nf:¬ vH F fb b:=λ q=>by
  rcases q with q | q
  ·exact a3 q
  ·exact a1 q
 refine⟨⟨t.f.ao h.aR nf,t.r,⟨.inl o1,.inl o2,.inr (.inr rfl),λ k hk=>.inr (.inl hk)⟩,⟨a1,λ q=>?_,λ q=>?_⟩,λ k hk=>?_,λ k hk=>?_⟩,t.f.mono λ k _ q=>?_,sub⟩
 ·rcases t.g with r | r | r
  ·exact a1 (q.trans r)
  ·exact a2 (q.trans r)
  ·rw[<- q] at r;have:=r.1;omega
 ·rcases t.sub b q with r | r
  ·exact a3 r
  ·have:=r.1;omega
 ·have z:=t.f.size
  rcases hk with q | q
  ·have:=h.lt k q;omega
  ·rcases sub k q with r | r
   ·have:=h.lt k r;omega
   ·exact r.2
 ·rcases hk with q | q
  ·exact h.lo k q
  ·rcases sub k q with r | r
   ·exact h.lo k r
   ·have:=r.1;omega
 ·rcases q with q | q
  ·exact o4 k q
  ·rw[q];exact o2
structure lr (N:Nat)(w:ah)(A:bz)(b:Nat)(d:DuoM)(v:Sl)(S:bz)(G:Int->Nat->Prop)(pb:Int->Nat):Prop where
 aR:w.heap[b]? = some (.cells (dh d.kb++[.pointer (some ⟨pb 0,0,none⟩),.pointer (some ⟨pb 1,0,none⟩),pc v]).toArray 87 (0,0))
 sr:∀ s,s=0\/s=1->yY N w (G s) (pb s) (d.side s)
 sd:pz w S v d.said
 own:A b/\(∀ s,s=0\/s=1->∀ k,G s k->A k)/\∀ k,S k->A k
 apart:(∀ s,s=0\/s=1->¬ G s b)/\¬ S b/\(∀ s,s=0\/s=1->∀ k,G s k->¬ G (1 - s) k/\¬ S k)
 lt:∀ k,A k->k<w.heap.size
 lo:∀ k,A k->N<=k
 iC:il N w
def l8 (N:Nat)(w:ah)(A:bz)(b:Nat)(d:DuoM):Prop:=∃ v S G pb,lr N w A b d v S G pb
theorem lr.ao {T:bz}{v:Sl}{G:Int->Nat->Prop}{pb:Int->Nat}(h:lr N w A b d v S G pb)(f:Fr T w w')(hT:∀ k,A k->¬ T k)(ht:∀ k,T k->N<=k):lr N w' A b d v S G pb:=
 ⟨f.ao h.aR (hT b h.own.1),λ s hs=>(h.sr s hs).ao f (λ k hk=>hT k (h.own.2.1 s hs k hk)),h.sd.ao f (λ k hk=>hT k (h.own.2.2 k hk)),h.own,h.apart,λ k hk=>nS (h.lt k hk) f.size,h.lo,h.iC.ao f ht⟩
theorem lr.ag {v:Sl}{G:Int->Nat->Prop}{pb:Int->Nat}(h:lr N w A b d v S G pb)(f:Fr none1 w w'):lr N w' A b d v S G pb:=h.ao f (λ _ _ t=>t) λ _ t=>t.elim
theorem l8.ag (h:l8 N w A b d)(f:Fr none1 w w'):l8 N w' A b d:=by
 obtain⟨v,S,G,pb,h⟩:=h;exact⟨v,S,G,pb,h.ag f⟩
theorem l8.lt (h:l8 N w A b d):(∀ k,A k->k<w.heap.size)/\(∀ k,A k->N<=k)/\il N w:=by
 obtain⟨v,S,G,pb,h⟩:=h;exact⟨h.lt,h.lo,h.iC⟩
theorem lr.XI {v:Sl}{G:Int->Nat->Prop}{pb:Int->Nat}(h:lr N w A b d v S G pb){s:Int}(hs:s=0\/s=1){fb fg nb:Nat}{F:bz}(hp:vJ N w (G s) (pb s) (d.side s) fb fg nb F){n':NodeM}{F':bz}{dG:Nat}(t:fR N w F nb n' fb fg w' F' dG):
  ∃ A' G',lr N w' A' b (d.put s ⟨n',(d.side s).down⟩) v S G' pb/\Fr A w w'/\(∀ k,A' k->A k\/F' k\/k=dG)/\∀ k,A' k->A k\/cD w w' k:=by
 obtain⟨p1,f,sub⟩:=hp.to t h.iC.le;have ho:=iP hs;have fA:Fr A w w':=f.mono λ k _ q=>h.own.2.1 s hs k q;have z:=f.size;have Bm:∀ k,(A k\/F' k\/k=dG)->A k\/cD w w' k:=λ k hk=>by
  rcases hk with q | q
  ·exact .inl q
  ·exact(sub k q).imp_left (h.own.2.1 s hs k)
 refine⟨λ k=>A k\/F' k\/k=dG,λ u k=>if u=s then G s k\/F' k\/k=dG else G u k,?_,fA,λ k hk=>hk,Bm⟩;have e4:1 - (1 - s)=s:=ab;have key:∀ u,u=0\/u=1->∀ k,(if u=s then G s k\/F' k\/k=dG else G u k)->(G u k\/cD w w' k):=λ u hu k hk=>by
  rcases qc hs hu with rfl | rfl
  ·rw[if_pos rfl] at hk
   rcases hk with q | q
   ·exact .inl q
   ·exact sub k q
  ·rw[if_neg ab] at hk;exact .inl hk
 refine⟨?_,λ u hu=>?_,?_,⟨.inl h.own.1,λ u hu k hk=>?_,λ k hk=>.inl (h.own.2.2 k hk)⟩,⟨λ u hu q=>?_,h.apart.2.1,λ u hu k hk=>?_⟩,λ k hk=>?_,λ k hk=>?_,?_⟩
 ·rw[(vr d s _).1]
  exact f.ao h.aR (h.apart.1 s hs)
 ·rcases qc hs hu with rfl | rfl
  ·rw[AX d hs]
   simp only[if_true];exact⟨fb,dG,nb,F',p1⟩
  ·rw[AY d hs]
   have e:(λ k=>if(1 - s:Int)=s then G s k\/F' k\/k=dG else G (1 - s) k)=G (1 - s):=by
    funext k;rw[if_neg ab]
   rw[e];exact(h.sr _ hu).ao f (λ k hk q=>(h.apart.2.2 s hs k q).1 hk)
 ·rw[(vr d s _).2]
  exact h.sd.ao f (λ k hk q=>(h.apart.2.2 s hs k q).2 hk)
 ·rcases qc hs hu with rfl | rfl
  ·rw[if_pos rfl] at hk
   exact hk.imp_left (h.own.2.1 _ hu k)
  ·rw[if_neg ab] at hk;exact .inl (h.own.2.1 _ hu k hk)
 ·rcases key u hu b q with r | r
  ·exact h.apart.1 u hu r
  ·have:=h.lt b h.own.1;have:=r.1;omega
 ·rcases key u hu k hk with r | r
  ·refine⟨λ q=>?_,(h.apart.2.2 u hu k r).2⟩
   rcases key _ (iP hu) k q with r2 | r2
   ·exact(h.apart.2.2 u hu k r).1 r2
   ·have:=h.lt k (h.own.2.1 u hu k r);have:=r2.1;omega
  ·refine⟨λ q=>?_,λ q=>?_⟩
   ·rcases qc hs hu with rfl | rfl
    ·rw[if_neg ab] at q
     have:=h.lt k (h.own.2.1 _ (iP hu) k q);have:=r.1;omega
    ·rw[if_neg ab] at hk
     have:=h.lt k (h.own.2.1 _ hu k hk);have:=r.1;omega
   ·have:=h.sd.lt k q;have:=r.1;omega
 ·rcases Bm k hk with r | r
  ·have:=h.lt k r;omega
  ·exact r.2
 ·rcases Bm k hk with r | r
  ·exact h.lo k r
  ·have:=r.1;have:=h.iC.le;omega
 ·exact h.iC.ao f λ k hk=>h.lo k (h.own.2.1 s hs k hk)
theorem lr.more {w3 w4:ah}{v z:Sl}{S':bz}{G:Int->Nat->Prop}{pb:Int->Nat}(h:lr N w A b d v S G pb){x:Int×ai}{u:Sl}(hu:∀ k,aH u k->k<w.heap.size/\N<=k/\k≠b/\∀ s,s=0\/s=1->¬ G s k)(f3:Fr (aH v) w w3)(hS:∀ k,S' k->S k\/aH u k\/cD w w3 k)(hs:pz w3 S' z (d.said++[x]))
  (df:w4.heap[b]? = some (.cells (dh d.kb++[.pointer (some ⟨pb 0,0,none⟩),.pointer (some ⟨pb 1,0,none⟩),pc z]).toArray 87 (0,0))) (f4:Fr (only b) w3 w4) :
  lr N w4 (λ k=>A k\/S' k) b { d with said:=d.said++[x] } z S' G pb/\Fr A w w4/\∀ k,(A k\/S' k)->A k\/aH u k\/cD w w4 k:=by
 have z3:=f3.size;have z4:=f4.size;have bl:=h.lt b h.own.1;have aiN:=h.iC.le;have XJ:¬ S' b:=λ q=>by
  rcases hS b q with r | r | r
  ·exact h.apart.2.1 r
  ·exact(hu b r).2.2.1 rfl
  ·have:=r.1;omega
 have fA:Fr A w w4:=(f3.mono λ k _ q=>h.own.2.2 k (h.sd.own k q)).comp f4 λ k _ q=>by have q:k=b:=q;rw[q];exact h.own.1
 have sub:∀ k,(A k\/S' k)->A k\/aH u k\/cD w w4 k:=λ k hk=>by
  rcases hk with q | q
  ·exact .inl q
  ·rcases hS k q with r | r | r
   ·exact .inl (h.own.2.2 k r)
   ·exact .inr (.inl r)
   ·exact .inr (.inr ⟨r.1,by have:=r.2;omega⟩)
 refine⟨⟨df,λ s nM=>((h.sr s nM).ao f3 λ k hk q=>(h.apart.2.2 s nM k hk).2 (h.sd.own k q)).ao f4 λ k hk q=>?_,hs.ao f4 λ k hk q=>?_,⟨.inl h.own.1,λ s nM k hk=>.inl (h.own.2.1 s nM k hk),λ k hk=>.inr hk⟩,⟨h.apart.1,XJ,λ s nM k hk=>⟨(h.apart.2.2 s nM k hk).1,λ q=>?_⟩⟩,λ k hk=>?_,λ k hk=>?_,?_⟩,fA,sub⟩
 ·have q:k=b:=q
  rw[q] at hk;exact h.apart.1 s nM hk
 ·have q:k=b:=q
  rw[q] at hk;exact XJ hk
 ·have hl:=h.lt k (h.own.2.1 s nM k hk)
  rcases hS k q with r | r | r
  ·exact(h.apart.2.2 s nM k hk).2 r
  ·exact(hu k r).2.2.2 s nM hk
  ·have:=r.1;omega
 ·rcases sub k hk with r | r | r
  ·have:=h.lt k r;omega
  ·have:=(hu k r).1;omega
  ·exact r.2
 ·rcases sub k hk with r | r | r
  ·exact h.lo k r
  ·exact(hu k r).2.1
  ·have:=r.1;omega
 ·exact h.iC.ao fA λ k hk=>h.lo k hk
structure ic (N:Nat)(w:ah)(A:bz)(b:Nat)(d:DuoM)(w':ah):Prop where
 out:∃ A',l8 N w' A' b d/\∀ k,A' k->A k\/cD w w' k
 f:Fr A w w'
theorem ic.refl (h:l8 N w A b d):ic N w A b d w:=⟨⟨A,h,λ k t=>.inl t⟩,Fr.refl _ _⟩
theorem ic.fN {w1 w2:ah}(f:Fr none1 w w1)(h:ic N w1 A b d w2):ic N w A b d w2:=by
 obtain⟨⟨A',h1,h2⟩,g⟩:=h;exact⟨⟨A',h1,λ k hk=>(h2 k hk).imp_right λ t=>⟨ez f.size t.1,t.2⟩⟩,f.fN g⟩
theorem ic.et {w1 w2:ah}(h:ic N w A b d w1)(f:Fr none1 w1 w2):ic N w A b d w2:=by
 obtain⟨⟨A',h1,h2⟩,g⟩:=h;exact⟨⟨A',h1.ag f,λ k hk=>(h2 k hk).imp_right λ t=>⟨t.1,nS t.2 f.size⟩⟩,g.et f⟩
theorem ic.trans {w1 w2:ah}{A1:bz}{d2:DuoM}(hA:∀ k,A1 k->A k\/cD w w1 k)(f:Fr A w w1)(h:ic N w1 A1 b d2 w2):ic N w A b d2 w2:=by
 obtain⟨⟨A',h1,h2⟩,g⟩:=h;have z1:=f.size;have z2:=g.size;refine⟨⟨A',h1,λ k hk=>?_⟩,f.comp g λ k hk t=>?_⟩
 ·rcases h2 k hk with t | t
  ·exact(hA k t).imp_right λ t=>⟨t.1,by have:=t.2;omega⟩
  ·exact .inr ⟨by have:=t.1;omega,t.2⟩
 ·rcases hA k t with t | t
  ·exact t
  ·have:=t.1;omega
def C86 (p0:Addr)(p1:Int)(w:ah)(K:aP):Prop:=
 aK (p0.add 39) (aa p1) w (λ w1=>K (.tuple #[]) w1)
def pl86:aN:=.auto
theorem c86 (p0 p1 w K)(h:C86 p0 p1 w K):au 86 #[aI p0,aa p1] w K:=aQ Tryz.func86 (p:=pl86) aA h
def C57 (p0:Addr)(p1:Int)(w:ah)(K:aP):Prop:=
 af .ptr (p0.add 18) w (λ(x1:aS)=>ak 86 #[.pointer x1,aa p1] w gR (λ(x2:Unit) w3=>K (.tuple #[]) w3))
def pl57:aN:=.auto
theorem c57 (p0 p1 w K)(h:C57 p0 p1 w K):au 57 #[aI p0,aa p1] w K:=aQ Tryz.func57 (p:=pl57) aA h
theorem ahE (h:eh w F b p)(hF:∀ k,F k->k<w.heap.size)(hk:p.kb.length=16)(n:Int):au 86 #[aZ b,aa n] w λ r w'=>r=.tuple #[]/\eh w' F b { p with refused:=n }/\Fr (only b) w w':=by
 obtain⟨c,l,Fc,Fl,h⟩:=h;refine c86 _ n w _ ?_;refine ri hk h.aR 23 (by rw[tv];decide) (v:=aa n) rfl λ w1 aE f1 _=>?_;exact⟨rfl,⟨c,l,Fc,Fl,aE,h.ch.ao f1 λ k hk q=>(h.cf k hk).2 q,h.ld.ao f1 λ k hk q=>(h.lf k hk).2 q,h.cf,h.lf,h.mem⟩,f1⟩
theorem ahF {n:NodeM}(h:jO N w F b n fb fg)(hk:n.kb.length=16)(ho:cX n.p)(k:Int):
  au 57 #[aZ b,aa k] w λ r w'=>r=.tuple #[]/\∃ F',fR N w F b (n.refuse k) fb fg w' F' fg:=by
 obtain⟨j,pb,wb,S,Fp,h⟩:=h;refine c57 _ k w _ ?_;refine h.db hk 2 (ck:=.ptr) (x:=some ⟨pb,0,none⟩) rfl ?_;refine an.of (ahE h.pr (λ i hi=>h.lt i (h.own.2.2.2.2 i hi)) ho.kb k) ?_;rintro _ w1 ⟨rfl,p1,f1⟩;obtain⟨F',_,t⟩:=h.GK (p:={ n.p with refused:=k }) (p1.mono λ i hi=>.inl hi) f1
 exact⟨(),rfl,rfl,F',t⟩
structure ow (d:DuoM):Prop where
 kb:d.kb.length=16
 side:∀ s,s=0\/s=1->(d.side s).n.kb=d.kb/\cX (d.side s).n.p/\((d.side s).down=false->(d.side s).n.j.rs.length<=1000000)/\0<=(d.side s).n.number/\(d.side s).n.number<=1000000000
 num:d.said.length<=999999
 said:∀ x∈d.said,(x.1=0\/x.1=1)/\x.2.length<=100000000
theorem GS {v:Sl}{G:Int->Nat->Prop}{pb:Int->Nat}(h:lr N w A b d v S G pb)(hk:d.kb.length=16)(s:Int):
  au 43 #[aZ b,aa s] w λ r w'=>r=.pointer (if s=0\/s=1 then some ⟨pb s,0,none⟩ else none)/\w=w':=by
 refine c43 _ s w _ ?_;have hl:=l0 (kb:=d.kb);have ld:∀ s,s=0\/s=1->y7 ((⟨b,0,none⟩:Addr).add 16) 2 s 1 λ a=>af .ptr a w λ(x:aS)=>(Value.pointer x=Value.pointer (if s=0\/s=1 then some ⟨pb s,0,none⟩ else none)/\w=w):=λ s hs=>by
  refine⟨by omega,by omega,?_⟩;rw[eN,eN,if_pos hs]
  rcases hs with rfl | rfl
  ·exact af.of (c:=.ptr) (x:=some ⟨pb 0,0,none⟩) h.aR (by rw[show 0+16+(0:Int).toNat * 1=16+0 by decide,yV hk];rfl) ⟨rfl,rfl⟩
  ·exact af.of (c:=.ptr) (x:=some ⟨pb 1,0,none⟩) h.aR (by rw[show 0+16+(1:Int).toNat * 1=16+1 by decide,yV hk];rfl) ⟨rfl,rfl⟩
 refine ae.ne (λ h0=>ae.ne (λ h1=>?_) (λ h1=>?_)) (λ h0=>?_)
 ·exact⟨by rw[if_neg ab],rfl⟩
 ·exact ld s (.inr h1)
 ·exact ld s (.inl h0)
theorem Ko {v:Sl}{G:Int->Nat->Prop}{pb:Int->Nat}(h:lr N w A b d v S G pb)(hk:d.kb.length=16)(s:Int):
  au 39 #[aZ b,aa s] w λ r w'=>∃ q:aS,r=.tuple #[.pointer q,aa (d.live s)]/\w=w'/\(d.live s=0->q=some ⟨pb s,0,none⟩):=by
 refine c39 _ s w _ ?_;refine an.of (GS h hk s) ?_;rintro _ _ ⟨rfl,rfl⟩;refine⟨_,rfl,?_⟩
 by_cases hs:s=0\/s=1
 ·rw[if_pos hs]
  refine ae.f rfl ?_;obtain⟨fb,fg,nb,F,hp⟩:=h.sr s hs;have hl:d.live s=if(d.side s).down=true then 11 else 0:=by unfold DuoM.live;rw[if_neg ab]
  refine af.aw (c:=.bool) (x:=(d.side s).down) hp.aR rfl (ae.by (λ t=>?_) (λ t=>?_))
  ·have hl:d.live s=11:=by rw[hl,if_pos t]
   rw[hl];exact⟨none,rfl,rfl,λ q=>nomatch q⟩
  ·have hl:d.live s=0:=by rw[hl,t];rfl
   rw[hl];exact⟨_,rfl,rfl,λ _=>rfl⟩
 ·rw[if_neg hs]
  refine ae.t rfl ?_;have hl:d.live s=1:=by unfold DuoM.live;rw[if_pos ab]
  rw[hl];exact⟨none,rfl,rfl,λ q=>nomatch q⟩
theorem GU {v:Sl}{G:Int->Nat->Prop}{pb:Int->Nat}(h:lr N w A b d v S G pb)(hk:d.kb.length=16):
  au 11 #[aZ b] w λ r w'=>r=aa d.said.length/\w=w':=by
 refine c11 _ w _ ?_;refine af.of (c:=.bE) (x:=v) h.aR (by rw[show 0+18=16+2 by decide,yV hk];rfl) ?_;rw[h.sd.len];exact⟨rfl,rfl⟩
theorem ahG (h:l8 N w A b d)(hk:d.kb.length=16){s:Int}(hs:s=0\/s=1){u:Sl}{Su:bz}{l:List (ai)}(hu:kv w Su u l)(nK:∀ k,Su k->N<=k/\¬ A k)(hl:d.said.length+l.length<=1000000):
  au 42 #[aZ b,aa s,.slice u.1 u.2.1 u.2.2] w λ r w'=>r=.tuple #[]/\(∃ A',l8 N w' A' b { d with said:=d.said++l.map λ x=>(1 - s,x) }/\∀ k,A' k->A k\/Su k\/cD w w' k)/\Fr A w w':=by
 refine c42 _ s u.1 u.2.1 u.2.2 w _ ?_;have dP:=hu.len;obtain⟨v0,S0,G,pb,h⟩:=h;have hA:=h.lt;refine cp.of (λ q w'=>∃ (i:Nat) (A':bz) (v:Sl) (S:bz),q.1=(i:Int)/\i<=l.length/\lr N w' A' b { d with said:=d.said++(l.take i).map λ x=>(1 - s,x) } v S G pb/\(∀ k,A' k->A k\/Su k\/cD w w' k)/\Fr A w w' /\
   (∀ k,aH v k->A k\/cD w w' k)/\kv w' Su u l) (λ q _=>(l.length - q.1).toNat) ?_ ?_
 ·have e:({ d with said:=d.said++(l.take 0).map λ x=>(1 - s,x) }:DuoM)=d:=by simp
  exact⟨0,A,v0,S0,rfl,fj _,by rw[e];exact h,λ k t=>.inl t,Fr.refl _ _,λ k t=>.inl (h.own.2.2 k (h.sd.own k t)),hu⟩
 rintro _ ⟨q,_⟩ w1 ⟨i,A1,v,S,hq,hi,h1,XK,f1,hv,FE⟩;dsimp only at hq ⊢;subst hq;have z1:=f1.size;refine ae.by (λ c=>?_) (λ c=>?_)
 ·have c:(i:Int)<(u.2.1:Int):=of_decide_eq_true c
  have jV:i<l.length:=ab;refine FE.Uw (Int.natCast_nonneg i) c λ y hy hyc td=>?_;rw[iH] at hy;refine af.of (c:=.bE) (x:=v) h1.aR (by rw[show 0+18=16+2 by decide,yV hk];rfl) ?_;have hn:(d.said++(l.take i).map λ x=>(1 - s,x)).length<=1000000:=by rw[bU,eI,ga];omega
  have gG:∀ k,aH y k->k<w.heap.size/\N<=k/\¬ A k:=λ k t=>⟨hu.lt k (td k t),nK k (td k t)⟩;have XL:∀ k,aH y k->k<w1.heap.size/\¬ aH v k:=λ k t=>⟨nS (gG k t).1 z1,λ q=>by
   rcases hv k q with r | r
   ·exact(gG k t).2.2 r
   ·have:=r.1;have:=(gG k t).1;omega⟩
  obtain⟨a,w2,z,w3,r1,f2,r2,f3,hz,S',pd,nM⟩:=h1.sd.snoc (x:=(1 - s,l.getD i [])) hy hyc XL hn;have ew:IntKind.i64.wrap (1 - s)=1 - s:=wI ab ab;rw[ew];refine⟨a,w2,r1,⟨z,w3,r2,?_⟩⟩;have bJ:w3.heap[b]? = some (.cells (dh d.kb++[.pointer (some ⟨pb 0,0,none⟩),.pointer (some ⟨pb 1,0,none⟩),pc v]).toArray 87 (0,0)):=f3.ao h1.aR λ q=>h1.apart.2.1 (h1.sd.own b q);refine ri hk bJ 2 bm (v:=pc z) rfl λ w4 df f4 _=>?_;have z3:=f3.size;have z4:=f4.size;have ed:(d.said++(l.take i).map λ x=>(1 - s,x))++[(1 - s,l.getD i [])]=d.said++(l.take (i+1)).map λ x=>(1 - s,x):=by
   rw[gI]
   congr 1
   rw[zG jV,jG,dB,cV jV];rfl
  obtain⟨g1,g2,g3⟩:=h1.more (x:=(1 - s,l.getD i [])) (λ k t=>⟨(XL k t).1,(gG k t).2.1,λ q=>(gG k t).2.2 (by rw[q];exact h.own.1),λ s hs q=>(gG k t).2.2 (h.own.2.1 s hs k q)⟩) f3 pd nM df f4;have f14:Fr A w w4:=(f1.comp f3 λ k hk t=>by
   rcases hv k t with r | r
   ·exact r
   ·have:=r.1;omega).comp f4 λ k hk t=>by have t:k=b:=t;rw[t];exact h.own.1
  have ei:IntKind.i64.wrap ((i:Int)+1)=((i+1:Nat):Int):=by rw[wI ab ab];omega
  refine⟨⟨i+1,_,z,S',ei,jV,by rw[<- ed];exact g1,λ k hk=>?_,f14,λ k hk=>?_,?_⟩,?_⟩
  ·rcases g3 k hk with r | r | r
   ·rcases XK k r with q | q | q
    ·exact .inl q
    ·exact .inr (.inl q)
    ·exact .inr (.inr ⟨q.1,by have:=q.2;omega⟩)
   ·exact .inr (.inl (td k r))
   ·exact .inr (.inr ⟨by have:=r.1;omega,r.2⟩)
  ·rcases hz k hk with r | r
   ·exact(hv k r).imp_right λ q=>⟨q.1,by have:=q.2;omega⟩
   ·exact .inr ⟨by have:=r.1;omega,by have:=r.2;omega⟩
  ·refine(FE.ao f3 λ k hk q=>?_).ao f4 λ k hk q=>?_
   ·rcases hv k q with r | r
    ·exact(nK k hk).2 r
    ·have:=r.1;have:=hu.lt k hk;omega
   ·have q:k=b:=q
    rw[q] at hk;exact(nK b hk).2 h.own.1
  ·rw[ei];omega
 ·have c:¬ (i:Int)<(u.2.1:Int):=of_decide_eq_false c
  have e:l.take i=l:=gV ab;rw[e] at h1;exact⟨rfl,⟨A1,⟨v,S,G,pb,h1⟩,XK⟩,f1⟩
theorem Kp {s:Int}(h:d.live s=0):(s=0\/s=1)/\(d.side s).down=false:=xl (λ t=>t h)
theorem lr.PJ {v:Sl}{G:Int->Nat->Prop}{pb:Int->Nat}(h:lr N w A b d v S G pb){s:Int}(hs:s=0\/s=1){fb fg nb:Nat}{F:bz}(hp:vJ N w (G s) (pb s) (d.side s) fb fg nb F){n':NodeM}{F':bz}{dG:Nat}(t:fR N w F nb n' fb fg w' F' dG):
  ic N w A b (d.put s ⟨n',(d.side s).down⟩) w':=by
 obtain⟨A',G',h1,f,-,sub⟩:=h.XI hs hp t;exact⟨⟨A',⟨v,S,G',pb,h1⟩,sub⟩,f⟩
theorem XM (h:l8 N w A b d)(hd:ow d)(s:Int)(m:bu)(hm:bj m.t<=1000000):
  au 9 #[aZ b,aa s,ke m.e] w λ r w'=>r=aa (d.offer s m).2/\ic N w A b (d.offer s m).1 w':=by
 have hR:=h;obtain⟨v,S,G,pb,h⟩:=h;refine c9 _ s m.e w _ ?_;unfold C9;refine aC.of λ g1 w1 eG aE f1 _=>?_;have e1:nC w1 g1 m:=aE;refine an.of (Ko (h.ag f1) hd.kb s) ?_;rintro _ _ ⟨q,rfl,rfl,hq⟩;refine⟨(q,d.live s,()),rfl,ae.ne (λ hl=>?_) (λ hl=>?_)⟩
 ·have e:d.offer s m=(d,d.live s):=by unfold DuoM.offer;rw[if_pos hl]
  rw[e];exact⟨rfl,(ic.refl hR).et f1⟩
 obtain⟨hs,hu⟩:=Kp hl;have e:d.offer s m=(d.put s ⟨((d.side s).n.offer m).1,false⟩,((d.side s).n.offer m).2):=by unfold DuoM.offer;rw[if_neg (λ t=>t hl)]
 rw[e];refine aU.of λ w2 _ f2=>?_;have f12:=f1.trans f2;have h2:=h.ag f12;obtain⟨fb,fg,nb,F,hp⟩:=h2.sr s hs;rw[hq hl];refine af.aw (c:=.ptr) (x:=some ⟨nb,0,none⟩) hp.aR rfl (aF.aR (cks:=ky) (x:=m.e) (e1.ag f2) ?_);obtain⟨k1,k2,k3,k4,k5⟩:=hd.side s hs;refine an.of (ag4 hp.node (by rw[k1];exact hd.kb) k2 h2.iC m hm) ?_;rintro _ w3 ⟨rfl,F',t⟩;have:=h2.PJ hs hp t;rw[hu] at this;exact⟨_,rfl,rfl,this.fN f12⟩
theorem ahH (h:l8 N w A b d)(hd:ow d)(s k:Int):
  au 26 #[aZ b,aa s,aa k] w λ r w'=>r=.tuple #[]/\ic N w A b (d.refuse s k) w':=by
 have hR:=h;obtain⟨v,S,G,pb,h⟩:=h;refine c26 _ s k w _ ?_;refine an.of (Ko h hd.kb s) ?_;rintro _ _ ⟨q,rfl,rfl,hq⟩;refine⟨(q,d.live s,()),rfl,ae.eq (λ hl=>?_) (λ hl=>?_)⟩
 ·obtain⟨hs,hu⟩:=Kp hl
  have e:d.refuse s k=d.put s ⟨(d.side s).n.refuse k,false⟩:=by unfold DuoM.refuse;rw[if_neg (λ t=>t hl)]
  rw[e];obtain⟨fb,fg,nb,F,hp⟩:=h.sr s hs;rw[hq hl];refine af.aw (c:=.ptr) (x:=some ⟨nb,0,none⟩) hp.aR rfl ?_;obtain⟨k1,k2,k3,k4,k5⟩:=hd.side s hs;refine an.of (ahF hp.node (by rw[k1];exact hd.kb) k2 k) ?_;rintro _ w3 ⟨rfl,F',t⟩;have:=h.PJ hs hp t;rw[hu] at this;exact⟨(),rfl,rfl,this⟩
 ·have e:d.refuse s k=d:=by unfold DuoM.refuse;rw[if_pos hl]
  rw[e];exact⟨rfl,ic.refl hR⟩
theorem lr.Dq {v:Sl}{G:Int->Nat->Prop}{pb:Int->Nat}(h:lr N w A b d v S G pb)(hd:ow d){s:Int}(hs:s=0\/s=1)(hu:(d.side s).down=false){fb fg nb:Nat}{F:bz}(hp:vJ N w (G s) (pb s) (d.side s) fb fg nb F){r:NodeM×List (ai)×Int}{u:Sl}
  (t:mX N w F nb r.1 fb fg r.2.1 u w') (hl:r.2.1.length<=1) {K:aP} (k:∀ w2,ic N w A b (d.heard s r).1 w2->K (.tuple #[]) w2) :
  ak 42 #[aZ b,aa s,.slice u.1 u.2.1 u.2.2] w' gR λ(_:Unit) w2=>K (.tuple #[]) w2:=by
 obtain⟨F',dG,S',t1,t2,t3⟩:=t.out;obtain⟨A',G',h1,f,ahI,sub⟩:=h.XI hs hp t1;rw[hu] at h1;have kQ:(d.put s ⟨r.1,false⟩).said=d.said:=(vr d s _).2;refine an.of (ahG ⟨v,S,G',pb,h1⟩ (by rw[(vr d s _).1];exact hd.kb) hs t2 (λ k hk=>⟨by have:=(t3 k hk).1;have:=h.iC.le;omega,λ q=>?_⟩) (by rw[kQ];have:=hd.num;omega)) ?_
 ·rcases ahI k q with r | r | r
  ·have:=h.lt k r;have:=(t3 k hk).1;omega
  ·exact(t3 k hk).2.1 r
  ·exact(t3 k hk).2.2.2 r
 rintro _ w2 ⟨rfl,⟨A2,XN,ahJ⟩,f2⟩;have ed:({ d.put s ⟨r.1,false⟩ with said:=(d.put s ⟨r.1,false⟩).said++r.2.1.map λ x=>(1 - s,x) }:DuoM)=(d.heard s r).1:=by rw[kQ];rfl
 rw[ed] at XN;have z1:=f.size;have z2:=f2.size;refine⟨(),rfl,k w2 ⟨⟨A2,XN,λ i hi=>?_⟩,f.comp f2 λ i hi q=>?_⟩⟩
 ·rcases ahJ i hi with q | q | q
  ·exact(sub i q).imp_right λ q=>⟨q.1,by have:=q.2;omega⟩
  ·exact .inr ⟨(t3 i q).1,by have:=t2.lt i q;omega⟩
  ·exact .inr ⟨by have:=q.1;omega,q.2⟩
 ·rcases sub i q with q | q
  ·exact q
  ·have:=q.1;omega
theorem PK (h:l8 N w A b d)(hd:ow d)(s:Int):
  au 10 #[aZ b,aa s] w λ r w'=>r=aa (d.tick s).2/\ic N w A b (d.tick s).1 w':=by
 have hR:=h;obtain⟨v,S,G,pb,h⟩:=h;refine c10 _ s w _ ?_;refine an.of (Ko h hd.kb s) ?_;rintro _ _ ⟨q,rfl,rfl,hq⟩;refine⟨(q,d.live s,()),rfl,ae.ne (λ hl=>?_) (λ hl=>?_)⟩
 ·have e:d.tick s=(d,d.live s):=by unfold DuoM.tick;rw[if_pos hl]
  rw[e];exact⟨rfl,ic.refl hR⟩
 obtain⟨hs,hu⟩:=Kp hl;have e:d.tick s=d.heard s (d.side s).n.tick:=by unfold DuoM.tick;rw[if_neg (λ t=>t hl)]
 rw[e];obtain⟨fb,fg,nb,F,hp⟩:=h.sr s hs;rw[hq hl];refine af.aw (c:=.ptr) (x:=some ⟨nb,0,none⟩) hp.aR rfl ?_;obtain⟨k1,k2,k3,k4,k5⟩:=hd.side s hs;refine an.of (ahq hp.node (by rw[k1];exact hd.kb) k2 (k3 hu) ⟨k4,k5⟩ h.iC) ?_;rintro _ w1 ⟨u,rfl,t⟩;refine⟨(u,_,()),rfl,?_⟩;have hlen:(d.side s).n.tick.2.1.length<=1:=by
  unfold NodeM.tick;split
  ·exact fj _
  ·exact ez (FZ _ _) k2.tick.num
 exact h.Dq hd hs hu hp t hlen (K:=λ _ w2=>Value.int .i64 (d.side s).n.tick.2.2=aa (d.heard s (d.side s).n.tick).2/\ic N w A b (d.heard s (d.side s).n.tick).1 w2) λ w2 q=>⟨rfl,q⟩
theorem ahK {n:NodeM}(ho:cX n.p)(b:ai):(n.take b).2.1.length<=1:=by
 unfold NodeM.take;split
 ·exact fj _
 split
 ·exact fj _
 split
 ·exact fj _
 split
 ·exact fj _
 ·exact ez (FZ _ _) (ho.take (Dd _ _)).num
theorem PL (h:l8 N w A b d)(hd:ow d)(s:Int){y:Sl}{bs:ai}(hy:bO w y bs)(hc:y.2.1<=y.2.2)(hl:bs.length<=140737488355300):
  au 32 #[aZ b,aa s,.slice y.1 y.2.1 y.2.2] w λ r w'=>r=aa (d.lp s bs).2/\ic N w A b (d.lp s bs).1 w':=by
 have hR:=h;obtain⟨v,S,G,pb,h⟩:=h;refine c32 _ s y.1 y.2.1 y.2.2 w _ ?_;refine an.of (Ko h hd.kb s) ?_;rintro _ _ ⟨q,rfl,rfl,hq⟩;refine⟨(q,d.live s,()),rfl,ae.ne (λ hl=>?_) (λ hl=>?_)⟩
 ·have e:d.lp s bs=(d,d.live s):=by unfold DuoM.lp;rw[if_pos hl]
  rw[e];exact⟨rfl,ic.refl hR⟩
 obtain⟨hs,hu⟩:=Kp hl;have e:d.lp s bs=d.heard s ((d.side s).n.take bs):=by unfold DuoM.lp;rw[if_neg (λ t=>t hl)]
 rw[e];obtain⟨fb,fg,nb,F,hp⟩:=h.sr s hs;rw[hq hl];refine af.aw (c:=.ptr) (x:=some ⟨nb,0,none⟩) hp.aR rfl ?_;obtain⟨k1,k2,k3,k4,k5⟩:=hd.side s hs;refine an.of (ahr hp.node (by rw[k1];exact hd.kb) k2 (k3 hu) ⟨k4,k5⟩ h.iC hy hc (by assumption)) ?_;rintro _ w1 ⟨u,rfl,t⟩;refine⟨(u,_,()),rfl,?_⟩;exact h.Dq hd hs hu hp t (ahK k2 bs) (K:=λ _ w2=>Value.int .i64 ((d.side s).n.take bs).2.2=aa (d.heard s ((d.side s).n.take bs)).2/\ic N w A b (d.heard s ((d.side s).n.take bs)).1 w2) λ w2 q=>⟨rfl,q⟩
def mY (d:DuoM)(i:Int):Int×ai×Bool:=if i<0\/(d.said.length:Int)<=i then(0,[],false) else((d.said.getD i.toNat (0,[])).1,(d.said.getD i.toNat (0,[])).2,true)
theorem XO (h:l8 N w A b d)(hd:ow d)(i:Int):
  au 36 #[aZ b,aa i] w λ r w'=>∃ y:Sl,r=.tuple #[aa (mY d i).1,.slice y.1 y.2.1 y.2.2,.bool (mY d i).2.2]/\cT w' y (mY d i).2.1/\Fr none1 w w'/\∀ k,aH y k->w.heap.size<=k:=by
 obtain⟨v,S,G,pb,h⟩:=h;refine c36 _ i w _ ?_;have dD:=h.sd.len;have none_:(i<0\/(d.said.length:Int)<=i)->(∃ y:Sl,Value.tuple #[aa 0,.slice none 0 0,.bool false]=.tuple #[aa (mY d i).1,.slice y.1 y.2.1 y.2.2,.bool (mY d i).2.2]/\cT w y (mY d i).2.1/\Fr none1 w w/\∀ k,aH y k->w.heap.size<=k):=λ t=>by
  have e:mY d i=(0,[],false):=by unfold mY;rw[if_pos t]
  rw[e];exact⟨(none,0,0),rfl,.inl ⟨rfl,rfl⟩,Fr.refl _ _,λ k ⟨a,ha,_⟩=>(by cases ha)⟩
 refine ae.dec (λ c=>none_ (.inl c)) (λ c=>?_);have ld:∀ {w1:ah} {K:Sl->Prop},Fr none1 w w1->K v->af .bE ((⟨b,0,none⟩:Addr).add 18) w1 K:=λ f k=>af.of (c:=.bE) (x:=v) (f.ag h.aR) (by rw[show 0+18=16+2 by decide,yV hd.kb];rfl) k;refine ld (Fr.refl _ _) (ae.dec (λ c2=>none_ (.inr (by have:i >= (v.2.1:Int):=c2;omega))) (λ c2=>?_));have hi:i<(v.2.1:Int):=by have:¬ i >= (v.2.1:Int):=c2;omega
 have e:mY d i=((d.said.getD i.toNat (0,[])).1,(d.said.getD i.toNat (0,[])).2,true):=by unfold mY;rw[if_neg ab]
 rw[e];have na:i.toNat<d.said.length:=ab;have sC:d.said.getD i.toNat (0,[])∈d.said:=by rw[dB,cV na];exact nQ _
 refine aU.of λ w2 _ f2=>bL.all (aJ.all (ld f2 (h.sd.at_ f2 ab hi λ a u1 q1 q2 q3 q4 q5=>aJ.all (af.cell (c:=.int .i64) q1 (aJ.all (ld f2 (h.sd.at_ f2 ab hi λ a2 u r1 r2 r3 r4 r5=>aJ.all (af.cell (c:=.bE) (x:=u) r2 ?_))))))));refine an.of (CQ r3 (hd.said _ sC).2) ?_;rintro _ w3 ⟨y,rfl,hy,f3,td⟩;exact⟨y,rfl,az.of f3 ⟨y,rfl,hy,f2.trans f3,λ k hk=>ez f2.size (td k hk)⟩⟩
theorem PM (h:l8 N w A b d)(hd:ow d)(i:Int):
  au 12 #[aZ b,aa i] w λ r w'=>r=aa (d.dy i).2/\ic N w A b (d.dy i).1 w':=by
 refine c12 _ i w _ ?_;refine an.of (XO h hd i) ?_;rintro _ w1 ⟨y,rfl,hy,f1,td⟩;refine⟨((mY d i).1,y,(mY d i).2.2,()),rfl,ae.not (ae.by (λ c=>?_) (λ c=>?_))⟩
 ·have c:(mY d i).2.2=true:=c
  have hi:¬ (i<0\/(d.said.length:Int)<=i):=λ t=>by unfold mY at c;rw[if_pos t] at c;cases c
  have e:mY d i=((d.said.getD i.toNat (0,[])).1,(d.said.getD i.toNat (0,[])).2,true):=by unfold mY;rw[if_neg hi]
  rw[e] at hy ⊢;have na:i.toNat<d.said.length:=ab;have sC:d.said.getD i.toNat (0,[])∈d.said:=by rw[dB,cV na];exact nQ _
  have eg:d.dy i=d.lp (d.said.getD i.toNat (0,[])).1 (d.said.getD i.toNat (0,[])).2:=by unfold DuoM.dy;rw[if_neg hi]
  rw[eg];refine an.of (PL (h.ag f1) hd _ hy.rd hy.cap (ez (hd.said _ sC).2 ar)) ?_;rintro _ w2 ⟨rfl,t⟩;exact⟨_,rfl,rfl,t.fN f1⟩
 ·have c:(mY d i).2.2=false:=c
  have hi:i<0\/(d.said.length:Int)<=i:=vU λ t=>by unfold mY at c;rw[if_neg t] at c;cases c
  have eg:d.dy i=(d,3):=by unfold DuoM.dy;rw[if_pos hi]
  rw[eg];exact⟨rfl,(ic.refl h).et f1⟩
theorem ahL (h:l8 N w A b d)(hd:ow d)(s k:Int):
  au 35 #[aZ b,aa s,aa k] w λ r w'=>r=.tuple #[]/\ic N w A b (d.lh s k) w':=by
 have hR:=h;obtain⟨v,S,G,pb,h⟩:=h;refine c35 _ s k w _ ?_;refine an.of (GS h hd.kb s) ?_;rintro _ _ ⟨rfl,rfl⟩
 by_cases hs:s=0\/s=1
 ·rw[if_pos hs]
  refine⟨some ⟨pb s,0,none⟩,rfl,ae.t rfl ?_⟩;obtain⟨fb,fg,nb,F,hp⟩:=h.sr s hs;have e:d.lh s k=d.put s ⟨Vg (d.side s).n k,(d.side s).down⟩:=by unfold DuoM.lh;rw[if_neg ab]
  rw[e];refine af.aw (c:=.ptr) (x:=some ⟨fb,0,none⟩) hp.aR rfl ?_;refine an.of (acO hp.node.file k) ?_;rintro _ w1 ⟨rfl,t⟩;obtain⟨F',dG,t2⟩:=hp.node.uk t;exact⟨(),rfl,rfl,h.PJ hs hp t2⟩
 ·rw[if_neg hs]
  refine⟨none,rfl,ae.f rfl ?_⟩;have e:d.lh s k=d:=by unfold DuoM.lh;rw[if_pos ab]
  rw[e];exact⟨rfl,ic.refl hR⟩
theorem XP (h:l8 N w A b d)(hd:ow d)(s:Int):
  au 14 #[aZ b,aa s] w λ r w'=>∃ q:aS,r=.pointer q/\Fr none1 w w'/\((s=0\/s=1)->∃ c,q=some ⟨c,0,none⟩/\eh w' (cD w w') c (d.side s).n.p)/\(¬ (s=0\/s=1)->q=none):=by
 obtain⟨v,S,G,pb,h⟩:=h;refine c14 _ s w _ ?_;refine an.of (GS h hd.kb s) ?_;rintro _ _ ⟨rfl,rfl⟩
 by_cases hs:s=0\/s=1
 ·rw[if_pos hs]
  refine⟨some ⟨pb s,0,none⟩,rfl,ae.t rfl ?_⟩;obtain⟨fb,fg,nb,F,hp⟩:=h.sr s hs;obtain⟨k1,k2,k3,k4,k5⟩:=hd.side s hs;refine af.aw (c:=.ptr) (x:=some ⟨nb,0,none⟩) hp.aR rfl ?_;refine an.of (ahy hp.node (by rw[k1];exact hd.kb) k2) ?_;rintro _ w1 ⟨c,rfl,p,f⟩;exact⟨some ⟨c,0,none⟩,rfl,_,rfl,f,λ _=>⟨c,rfl,p⟩,λ t=>absurd hs t⟩
 ·rw[if_neg hs]
  refine⟨none,rfl,ae.f rfl ?_⟩;exact⟨none,rfl,Fr.refl _ _,λ t=>absurd t hs,λ _=>rfl⟩
theorem PN (h:l8 N w A b d)(hd:ow d)(s:Int):
  au 34 #[aZ b,aa s] w λ r w'=>r=.bool (d.dead s)/\w=w':=by
 obtain⟨v,S,G,pb,h⟩:=h;refine c34 _ s w _ ?_;refine an.of (GS h hd.kb s) ?_;rintro _ _ ⟨rfl,rfl⟩
 by_cases hs:s=0\/s=1
 ·rw[if_pos hs]
  refine⟨some ⟨pb s,0,none⟩,rfl,ae.t rfl ?_⟩;obtain⟨fb,fg,nb,F,hp⟩:=h.sr s hs;obtain⟨k1,k2,k3,k4,k5⟩:=hd.side s hs;have e:d.dead s=((d.side s).down||(d.side s).n.dead):=by
   unfold DuoM.dead;have:(decide (s=0)||decide (s=1))=true:=by rcases hs with rfl | rfl<;>rfl
   rw[this,iF]
  rw[e];refine af.aw (c:=.bool) (x:=(d.side s).down) hp.aR rfl (ae.by (λ t=>?_) (λ t=>?_))
  ·rw[t];exact⟨rfl,rfl⟩
  ·rw[t,lv]
   refine af.aw (c:=.ptr) (x:=some ⟨nb,0,none⟩) hp.aR rfl ?_;refine an.of (Kf hp.node (by rw[k1];exact hd.kb)) ?_;rintro _ _ ⟨rfl,rfl⟩;exact⟨_,rfl,rfl,rfl⟩
 ·rw[if_neg hs]
  refine⟨none,rfl,ae.f rfl ?_⟩;have e:d.dead s=false:=by
   unfold DuoM.dead;have:(decide (s=0)||decide (s=1))=false:=by rw[decide_eq_false ab,decide_eq_false ab];rfl
   rw[this,Bool.false_and]
  rw[e];exact⟨rfl,rfl⟩
theorem XQ:∀ (k:Nat) (d:DuoM) (i:Int),i+k<((DuoM.fC k d i).said.length:Int)->DuoM.fC (k+1) d i=((DuoM.fC k d i).dy (i+k)).1
 | 0,d,i,h=>by
  have h:i+(0:Nat)<(d.said.length:Int):=h;show(if i<(d.said.length:Int) then DuoM.fC 0 (d.dy i).1 (i+1) else d)=(d.dy (i+(0:Nat))).1;rw[if_pos ab,show i+((0:Nat):Int)=i by omega];rfl
 | k+1,d,i,h=>by
  by_cases c:i<(d.said.length:Int)
  ·have e1:DuoM.fC (k+1) d i=DuoM.fC k (d.dy i).1 (i+1):=if_pos c
   have e2:DuoM.fC (k+2) d i=DuoM.fC (k+1) (d.dy i).1 (i+1):=if_pos c;rw[e1] at h;rw[e1,e2,XQ k _ _ ab]
   congr 2;omega
  ·have e1:DuoM.fC (k+1) d i=d:=if_neg c
   rw[e1] at h;omega
theorem XR:∀ (k n:Nat) (d:DuoM) (i:Int),¬ i+k<((DuoM.fC k d i).said.length:Int)->DuoM.fC (k+n) d i=DuoM.fC k d i
 | k,0,d,i,h=>rfl
 | 0,n+1,d,i,h=>by
  have h:¬ i+(0:Nat)<(d.said.length:Int):=h;rw[eP];show(if i<(d.said.length:Int) then _ else d)=d;rw[if_neg ab]
 | k+1,n+1,d,i,h=>by
  by_cases c:i<(d.said.length:Int)
  ·have e1:DuoM.fC (k+1) d i=DuoM.fC k (d.dy i).1 (i+1):=if_pos c
   rw[show k+1+(n+1)=(k+(n+1))+1 by omega];have e2:DuoM.fC (k+(n+1)+1) d i=DuoM.fC (k+(n+1)) (d.dy i).1 (i+1):=if_pos c;rw[e1] at h;rw[e1,e2,XR k (n+1) _ _ ab]
  ·rw[show k+1+(n+1)=(k+(n+1))+1 by omega]
   show(if i<(d.said.length:Int) then _ else d)=if i<(d.said.length:Int) then _ else d;rw[if_neg c,if_neg c]
structure Kq (d:DuoM):Prop where
 t0:ow d
 t1:ow (d.tick 0).1
 gs:∀ k,k<=8->ow (DuoM.fC k ((d.tick 0).1.tick 1).1 d.said.length)
 ends : ¬ (d.said.length : Int) + 8 < ((DuoM.fC 8 ((d.tick 0).1.tick 1).1 d.said.length).said.length : Int)
theorem XS (h:l8 N w A b d)(hd:Kq d):
  au 13 #[aZ b] w λ r w'=>r=aa d.round.2/\ic N w A b d.round.1 w':=by
 refine c13 _ w _ ?_;have hn:=hd.t0.num;obtain⟨v,S,G,pb,h0⟩:=h;refine an.of (GU h0 hd.t0.kb) ?_;rintro _ _ ⟨rfl,rfl⟩;refine⟨(d.said.length:Int),rfl,?_⟩;refine an.of (PK ⟨v,S,G,pb,h0⟩ hd.t0 0) ?_;rintro _ w1 ⟨rfl,⟨⟨A1,h1,s1⟩,f1⟩⟩;refine⟨_,rfl,?_⟩;refine an.of (PK h1 hd.t1 1) ?_;rintro _ w2 ⟨rfl,t2⟩;refine⟨_,rfl,?_⟩;have T2:=ic.trans s1 f1 t2;refine cp.of (λ q w'=>∃ k:Nat,k<=8/\q.1=(d.said.length:Int)+k/\ic N w A b (DuoM.fC k ((d.tick 0).1.tick 1).1 d.said.length) w') (λ q _=>(d.said.length+8 - q.1).toNat) ⟨0,by decide,by omega,T2⟩ ?_;rintro _ ⟨q,_⟩ w3 ⟨k,hk,hq,⟨⟨A3,h3,s3⟩,f3⟩⟩;dsimp only at hq ⊢;subst hq;have kH:=hd.gs k hk;obtain⟨v3,S3,G3,Kr,AN⟩:=h3;refine an.of (GU AN kH.kb) ?_;rintro _ _ ⟨rfl,rfl⟩;refine⟨_,rfl,ae.dec (λ c=>?_) (λ c=>?_)⟩
 ·have GQ:k<8:=by
   apply vU;intro q;have:k=8:=ab;subst this;exact hd.ends c
  refine an.of (PM ⟨v3,S3,G3,Kr,AN⟩ kH _) ?_;rintro _ w4 ⟨rfl,t4⟩;refine⟨_,rfl,⟨k+1,GQ,?_,?_⟩,?_⟩
  ·show IntKind.i64.wrap _=_
   rw[wI ab ab];omega
  ·rw[XQ k _ _ c]
   exact ic.trans s3 f3 t4
  ·show(_ - IntKind.i64.wrap _).toNat<_
   rw[wI ab ab];omega
 ·have e8:DuoM.fC 8 ((d.tick 0).1.tick 1).1 d.said.length=DuoM.fC k ((d.tick 0).1.tick 1).1 d.said.length:=by
   have:=XR k (8 - k) _ _ c;rwa[show k+(8 - k)=8 by omega] at this
  have er:d.round=(DuoM.fC k ((d.tick 0).1.tick 1).1 d.said.length,if(DuoM.fC k ((d.tick 0).1.tick 1).1 d.said.length).dead 0=true\/(DuoM.fC k ((d.tick 0).1.tick 1).1 d.said.length).dead 1=true then 11 else 0):=by
   unfold DuoM.round;dsimp only;rw[e8]
  rw[er];generalize DuoM.fC k ((d.tick 0).1.tick 1).1 d.said.length=e at *;have T3:ic N w A b e w3:=⟨⟨A3,⟨v3,S3,G3,Kr,AN⟩,s3⟩,f3⟩;refine an.of (PN ⟨v3,S3,G3,Kr,AN⟩ kH 0) ?_;rintro _ _ ⟨rfl,rfl⟩;refine⟨_,rfl,ae.by (λ t=>?_) (λ t=>?_)⟩
  ·have t:e.dead 0=true:=t
   exact⟨by rw[if_pos (.inl t)],T3⟩
  have t:e.dead 0=false:=t;refine an.of (PN ⟨v3,S3,G3,Kr,AN⟩ kH 1) ?_;rintro _ _ ⟨rfl,rfl⟩;refine⟨_,rfl,ae.by (λ t2=>?_) (λ t2=>?_)⟩
  ·have t2:e.dead 1=true:=t2
   exact⟨by rw[if_pos (.inr t2)],T3⟩
  ·have t2:e.dead 1=false:=t2
   exact⟨by rw[if_neg (by rw[t,t2];simp)],T3⟩
theorem ahM {f:bS}(h:cM kb bs=(f,0)):bs.length<=5008:=by
 have ll:=Vq h;unfold cM at h;split at h
 ·cases congrArg Prod.snd h
 split at h
 ·cases congrArg Prod.snd h
 split at h
 ·cases congrArg Prod.snd h
 split at h
 ·cases congrArg Prod.snd h
 rename_i t1 t2 t3 t;have e:jB (jq bs)=f:=congrArg Prod.fst h;rw[e] at t;have t2:(mA f).1=jq bs:=vU λ q=>t (.inr q);have hs:=Va (kb:=kb) ll;have hb:(ku f.f (bT f.m.t).1 (bT f.m.t).2).2=0:=vU λ q=>t (.inl q);unfold jN wV at hs;rw[if_neg (λ q=>q hb)] at hs;have e2:(ku f.f (bT f.m.t).1 (bT f.m.t).2).1=jq bs:=t2;rw[e2] at hs;simp only[bU] at hs;unfold jq at hs;rw[ga] at hs;omega
theorem dK.ok (h:dK E d)(hM:d.said.length<=999999):ow d:=by
 refine⟨h.kb,λ s hs=>?_,hM,λ x hx=>?_⟩
 ·have S:=h.side s hs
  exact⟨S.uq,S.ok,λ hu=>(S.up hu).few,S.nu.1,by have:=S.nu.2;omega⟩
 ·obtain⟨a,f,hf⟩:=h.said x hx
  exact⟨a,by have:=ahM hf.open_;omega⟩
theorem dK.XT (h:dK E d)(hE:E<=1000000)(hM:d.said.length+10<=999999):Kq d:=by
 have a0:=h.yK 0;have h0:=h.tick hE ab 0;have a1:=h0.yK 1;have h1:=h0.tick hE ab 1;refine⟨h.ok ab,h0.ok ab,λ k hk=>?_,?_⟩
 ·obtain⟨a,b⟩:=dK.fC hE k h1 ab d.said.length
  exact a.ok ab
 ·have:=h.aeM hE ab 8 (eR 8)
  omega
def rj (d:DuoM):kx:=(d.l.n.p,d.r.n.p)
theorem yZ (d:DuoM){s:Int}(hs:s=0\/s=1):cx (rj d) s=(d.side s).n.p:=by rcases hs with rfl | rfl<;>rfl
structure Calm (E c Q:Int)(k:Nat)(B:Int)(M:Nat)(d:DuoM):Prop where
 inv:dK E d
 up:∀ s,s=0\/s=1->(d.side s).down=false/\(d.side s).n.j.d=false/\(d.side s).n.j.fs.lit=false/\(d.side s).n.j.fs.cK=Q/\((d.side s).n.j.fs.b.length:Int)<=B
 ev:∀ s,s=0\/s=1->qZ c (d.side s).n.p
 Oy:Dv (rj d) k
 said:d.said.length<=M
theorem dK.XU (h:dK E d)(hu:∀ s,s=0\/s=1->(d.side s).down=false):uw (rj d):=by
 refine⟨λ s hs=>?_,λ s hs=>?_,λ s hs=>?_,λ s hs=>?_,λ s hs=>?_,?_,?_⟩
 ·rw[yZ d hs];exact(h.side s hs).ok.hs
 ·rw[yZ d hs];exact(h.side s hs).calm
 ·rw[yZ d hs];exact((h.side s hs).up (hu s hs)).aW
 ·rw[yZ d hs];exact((h.side s hs).sound _ (gu.self _)).1
 ·rw[yZ d hs];exact(h.side s hs).FW
 ·exact(h.side 0 (.inl rfl)).Jl.trans (h.side 1 (.inr rfl)).Jl.symm
 ·exact h.twins _ _ (gu.self _) (gu.self _)
theorem Calm.pair {c Q:Int}{k:Nat}{B:Int}{M:Nat}(h:Calm E c Q k B M d):uw (rj d):=h.inv.XU λ s hs=>(h.up s hs).1
def Ks (c:Int)(k:Nat):Int:=if k=0 then 11 else 2 * c+9
theorem Calm.round {c Q:Int}{k:Nat}{B:Int}{M:Nat}(h:Calm E c Q k B M d)(hE:E<=1000000)(hc:1<=c)(hM:M+10<=999999)(hB:B+Ks c k<=Q):
  Calm E c Q (k - 1) (B+Ks c k) (M+10) d.round.1/\d.round.2=0/\rj d.round.1=(eV (rj d)).x/\Kq d:=by
 have kQ:=h.said;have hP:=h.pair;have T:=aff hP h.Oy hc (λ s hs=>by rw[yZ d hs];exact h.ev s hs);have XV:∀ s,s=0\/s=1->(eV (rj d)).cost s<=Ks c k:=λ s hs=>by
  unfold Ks
  by_cases t:k=0
  ·rw[if_pos t];exact T.less t s hs
  ·rw[if_neg t];exact T.cost s hs
 obtain⟨hI,hl⟩:=h.inv.round hE ab
 rcases h.inv.run hE ab (λ s hs=>⟨(h.up s hs).1,(h.up s hs).2.1⟩) (λ s hs=>by
  have:=(h.up s hs).2.2.2;have:=XV s hs;show _+(eV (rj d)).cost s<=_;omega) with⟨s,hs,-,a⟩ | R
 ·rw[(h.up s hs).2.2.1] at a;cases a
 have ep:rj d.round.1=(eV (rj d)).x:=by
  have a:=(R 0 (.inl rfl)).1;have b:=(R 1 (.inr rfl)).1;exact Prod.ext a b
 refine⟨⟨hI,λ s hs=>?_,λ s hs=>?_,by rw[ep];exact T.Oy,by omega⟩,?_,ep,h.inv.XT hE ab⟩
 ·obtain⟨r1,r2,r3,r4,r5,r6⟩:=R s hs
  obtain⟨u1,u2,u3,u4,u5⟩:=h.up s hs;refine⟨r2,r3,r6 u3,r5.trans u4,?_⟩;have:=XV s hs;have r4:((d.round.1.side s).n.j.fs.b.length:Int)=(d.side s).n.j.fs.b.length+(eV (rj d)).cost s:=r4;omega
 ·have:=T.ev s hs
  rw[<- ep,yZ _ hs] at this;exact this
 ·have hd:∀ s,s=0\/s=1->d.round.1.dead s=false:=λ s hs=>by
   obtain⟨r1,r2,r3,r4,r5,r6⟩:=R s hs;unfold DuoM.dead NodeM.dead;rw[r2,r3];simp
  have e0:=hd 0 (.inl rfl);have e1:=hd 1 (.inr rfl);have er:d.round.2=if d.round.1.dead 0=true\/d.round.1.dead 1=true then 11 else 0:=rfl;rw[er,e0,e1];rfl
structure ahN (x:kx)(s:Int):Prop where
 es:x.1.es=x.2.es
 own:PeerM.owner (cx x s).len=s
 aW:(cx x s).aW.2=false
 num:(cx x s).es.length<64
theorem ahO {x:kx}(h:uw x){s:Int}(hs:s=0\/s=1)(e:ahN x s)(ho:(cx x s).off.2=true)(ht:gT (cx x s).bX (cx x s).off.1 (cx x s).side=0):
  cx (eV x).x s=({ cx x s with aW:=((cx x s).off.1,true),off:=(bH,false) }:PeerM).add ((cx x s).off.1,(cx x (1 - s)).cu (cx x s).off.1) /\
  cx (eV x).x (1 - s)=(cx x (1 - s)).add ((cx x s).off.1,(cx x (1 - s)).cu (cx x s).off.1):=by
 have I:=h.same hs e.es;have hyp:=h.other hs e.es e.own;have ux:PeerM.owner (cx x s).len=(cx x s).side:=by rw[h.side s hs];exact e.own
 have Bb:(cx x (1 - s)).es.length<64:=by rw[<- I.es];exact e.num
 have rX:=Ox I.oq e.num e.aW ux ho;obtain⟨c1,c2,c3⟩:=Gd ht (.inl ⟨ho,rfl⟩);rw[<- rX] at c1 c2 c3;rw[if_pos ho] at c1;obtain⟨a1,a2,-,-⟩:=Jt hs rfl rfl I Bb ux ht c2 c1 ⟨rfl,rfl,rfl,rfl,rfl,rfl⟩ I.oq hyp;exact⟨a1,a2⟩
theorem ahP {m:bu}(hq:p.bD=false)(ho:p.off.2=false)(hp:p.aW.2=false)(hn:p.es.length<64)(ht:gT p.bX m p.side=0):p.offer m=({ p with off:=(m,true) },0):=by
 unfold PeerM.offer;rw[if_neg (by rw[hq];simp),if_neg (by rw[ho,hp];simp),if_neg (A8 hn),if_neg (λ t=>t ht)]
theorem XW {s:Int}(hs:s=0\/s=1)(hu:(d.side s).down=false)(hd:(d.side s).n.j.d=false)(m:bu):d.offer s m=(d.put s ⟨{ (d.side s).n with p:=((d.side s).n.p.offer m).1 },false⟩,((d.side s).n.p.offer m).2):=by
 have hl:d.live s=0:=by
  unfold DuoM.live;rw[if_neg ab,hu];rfl
 unfold DuoM.offer;rw[if_neg (λ t=>t hl)];unfold NodeM.offer NodeM.dead;rw[if_neg (by rw[hd];simp)]
theorem qZ.offer {c:Int}(h:qZ c p){m:bu}(hm:yL c m):qZ c (p.offer m).1:=by
 unfold PeerM.offer
 repeat' split
 all_goals first | exact h | exact⟨h.aW,λ _=>hm⟩
theorem Calm.offer {c Q:Int}{k k':Nat}{B:Int}{M:Nat}(h:Calm E c Q k B M d){s:Int}(hs:s=0\/s=1){m:bu}(rO:eT m)(hm:yL c m)(hr:Dv (rj (d.offer s m).1) k'):Calm E c Q k' B M (d.offer s m).1:=by
 obtain⟨u1,u2,u3,u4,u5⟩:=h.up s hs;have hI:=h.inv.offer s rO;have e:=XW hs u1 u2 m;refine⟨hI,r8 hs ?_ ?_,r8 hs ?_ ?_,hr,?_⟩
 ·rw[e,AX d hs];exact⟨rfl,u2,u3,u4,u5⟩
 ·rw[e,AY d hs];exact h.up _ (iP hs)
 ·rw[e,AX d hs];exact(h.ev s hs).offer hm
 ·rw[e,AY d hs];exact h.ev _ (iP hs)
 ·rw[e];show(d.put s _).said.length<=M;rw[(vr d s _).2];exact h.said
theorem ahQ (c:Int)(kb:ai)(s:Int):qZ c (j6 kb s):=⟨(λ t=>nomatch t),(λ t=>nomatch t)⟩
theorem ahR:Dv ((j6 kb 0,j6 kb 1):kx) 0:=.inl ⟨0,.inl rfl,rfl,rfl,eR 0⟩
theorem XX (hk:kb.length=16){q:Int}(h4:4<=(iA q).cK)(c:Int):∃ d,rW kb q=(some d,0)/\Calm 1 c (iA q).cK 0 4 0 d/\d.kb=kb/\d.said=[]/\∀ s,s=0\/s=1->(d.side s).n.p=j6 kb s:=by
 obtain⟨d,d1,d2,d3,d4,d5⟩:=aeF hk h4;refine⟨d,d1,⟨d2,λ s hs=>?_,λ s hs=>?_,?_,by rw[d3];exact eR 0⟩,d4,d3,λ s hs=>(d5 s hs).2.1⟩
 ·obtain⟨a1,a2,a3,a4,a5,a6,a7,a8⟩:=d5 s hs
  exact⟨a1,a3,a4,a5,by rw[a6];decide⟩
 ·rw[(d5 s hs).2.1];exact ahQ c kb s
 ·have a:=(d5 0 (.inl rfl)).2.1
  have b:=(d5 1 (.inr rfl)).2.1;have:rj d=(j6 kb 0,j6 kb 1):=Prod.ext a b;rw[this];exact ahR
theorem ahS {d:Int}(h1:1<=d)(h2:d<=10000):yL 9 (jC d):=λ _=>by rw[(Oa h1 h2).len];decide
theorem ahT (hk:kb.length=16):∃ d,rW kb 900=(some d,0)/\d.said=[]/\ow d/\(d.offer 0 (jC 1)).2=0/\Kq (d.offer 0 (jC 1)).1/\(d.offer 0 (jC 1)).1.round.2=0/\ow (d.offer 0 (jC 1)).1.round.1/\((d.offer 0 (jC 1)).1.round.1.side 1).n.p.es.length=1:=by
 obtain⟨d,d1,d2,d3,d4,d5⟩:=XX hk (q:=900) ar 9;have yi:=Oa (d:=1) ar ar;have p0:=d5 0 (.inl rfl);have p1:=d5 1 (.inr rfl);have ho:((d.side 0).n.p.offer (jC 1))=({ (d.side 0).n.p with off:=(jC 1,true) },0):=by
  rw[p0];exact ahP rfl rfl rfl (by show 0<64;decide) (yi.N9 _ (.inl rfl))
 obtain⟨u1,u2,u3,u4,u5⟩:=d2.up 0 (.inl rfl);have e:=XW (.inl rfl:(0:Int)=0\/(0:Int)=1) u1 u2 (jC 1);rw[ho] at e;have ep:rj (d.offer 0 (jC 1)).1=({ j6 kb 0 with off:=(jC 1,true) },j6 kb 1):=by
  rw[e];refine Prod.ext ?_ ?_
  ·show({ (d.side 0).n.p with off:=(jC 1,true) }:PeerM)=_
   rw[p0]
  ·exact p1
 have Oq:=d2.inv.offer 0 yi.small;have C1:Calm 1 9 (iA 900).cK 5 4 0 (d.offer 0 (jC 1)).1:=d2.offer (.inl rfl) yi.small (ahS ar ar) (by
  refine ae8 ?_;refine Oq.XU λ s hs=>?_;rw[e]
  rcases hs with rfl | rfl
  ·rfl
  ·exact(d2.up 1 (.inr rfl)).1)
 obtain⟨C2,r2,r3,r4⟩:=C1.round ar ar ar ar;refine⟨d,d1,d4,d2.inv.ok (by rw[d4];decide),by rw[e],r4,r2,C2.inv.ok (by have:=C2.said;omega),?_⟩;have hP:=C1.pair;rw[ep] at hP;have:=(ahO hP (.inl rfl:(0:Int)=0\/(0:Int)=1) ⟨rfl,rfl,rfl,by show 0<64;decide⟩ rfl (yi.N9 _ (.inl rfl))).2;rw[<- yZ _ (.inr rfl),r3,ep];rw[show(1:Int) - 0=1 by decide] at this;rw[this];rfl
theorem lr.part {v:Sl}{G:Int->Nat->Prop}{pb:Int->Nat}(h:lr N w A b d v S G pb){s:Int}(hs:s=0\/s=1){G':bz}{p:kR}(hp:yY N w' G' (pb s) p)(f:Fr (G s) w w')(sub:∀ k,G' k->G s k\/cD w w' k):
  ic N w A b (d.put s p) w':=by
 have ho:=iP hs;have fA:Fr A w w':=f.mono λ k _ q=>h.own.2.1 s hs k q;have z:=f.size;have Bm:∀ k,(A k\/G' k)->A k\/cD w w' k:=λ k hk=>by
  rcases hk with q | q
  ·exact .inl q
  ·exact(sub k q).imp_left (h.own.2.1 s hs k)
 have key:∀ u,u=0\/u=1->∀ k,(if u=s then G' k else G u k)->(G u k\/cD w w' k):=λ u hu k hk=>by
  rcases qc hs hu with rfl | rfl
  ·rw[if_pos rfl] at hk;exact sub k hk
  ·rw[if_neg ab] at hk;exact .inl hk
 refine⟨⟨λ k=>A k\/G' k,⟨v,S,λ u k=>if u=s then G' k else G u k,pb,?_,λ u hu=>?_,?_,⟨.inl h.own.1,λ u hu k hk=>?_,λ k hk=>.inl (h.own.2.2 k hk)⟩,⟨λ u hu q=>?_,h.apart.2.1,λ u hu k hk=>?_⟩,λ k hk=>?_,λ k hk=>?_,?_⟩,Bm⟩,fA⟩
 ·rw[(vr d s _).1]
  exact f.ao h.aR (h.apart.1 s hs)
 ·rcases qc hs hu with rfl | rfl
  ·rw[AX d hs]
   simp only[if_true];exact hp
  ·rw[AY d hs]
   have e:(λ k=>if(1 - s:Int)=s then G' k else G (1 - s) k)=G (1 - s):=by
    funext k;rw[if_neg ab]
   rw[e];exact(h.sr _ hu).ao f (λ k hk q=>(h.apart.2.2 s hs k q).1 hk)
 ·rw[(vr d s _).2]
  exact h.sd.ao f (λ k hk q=>(h.apart.2.2 s hs k q).2 hk)
 ·rcases qc hs hu with rfl | rfl
  ·rw[if_pos rfl] at hk
   exact .inr hk
  ·rw[if_neg ab] at hk;exact .inl (h.own.2.1 _ hu k hk)
 ·rcases key u hu b q with r | r
  ·exact h.apart.1 u hu r
  ·have:=h.lt b h.own.1;have:=r.1;omega
 ·rcases key u hu k hk with r | r
  ·refine⟨λ q=>?_,(h.apart.2.2 u hu k r).2⟩
   rcases key _ (iP hu) k q with r2 | r2
   ·exact(h.apart.2.2 u hu k r).1 r2
   ·have:=h.lt k (h.own.2.1 u hu k r);have:=r2.1;omega
  ·refine⟨λ q=>?_,λ q=>?_⟩
   ·rcases qc hs hu with rfl | rfl
    ·rw[if_neg ab] at q
     have:=h.lt k (h.own.2.1 _ (iP hu) k q);have:=r.1;omega
    ·rw[if_neg ab] at hk
     have:=h.lt k (h.own.2.1 _ hu k hk);have:=r.1;omega
   ·have:=h.sd.lt k q;have:=r.1;omega
 ·rcases Bm k hk with r | r
  ·have:=h.lt k r;omega
  ·exact r.2
 ·rcases Bm k hk with r | r
  ·exact h.lo k r
  ·have:=r.1;have:=h.iC.le;omega
 ·exact h.iC.ao f λ k hk=>h.lo k (h.own.2.1 s hs k hk)
theorem ahU (h:l8 N w A b d)(hd:ow d)(s ao sp:Int):
  au 33 #[aZ b,aa s,aa ao,.int .u8 sp] w λ r w'=>r=aa (d.yI s ao sp).2/\ic N w A b (d.yI s ao sp).1 w':=by
 have hR:=h;obtain⟨v,S,G,pb,h⟩:=h;refine c33 _ s ao sp w _ ?_;refine an.of (GS h hd.kb s) ?_;rintro _ _ ⟨rfl,rfl⟩
 by_cases hs:¬ (s=0\/s=1)
 ·rw[if_neg hs]
  refine⟨none,rfl,ae.t rfl ?_⟩;have e:d.yI s ao sp=(d,1):=by unfold DuoM.yI;rw[if_pos ab]
  rw[e];exact⟨rfl,ic.refl hR⟩
 have hs:=iG.1 hs;rw[if_pos hs];refine⟨some ⟨pb s,0,none⟩,rfl,ae.f rfl ?_⟩;obtain⟨fb,fg,nb,F,hp⟩:=h.sr s hs;obtain⟨k1,k2,k3,k4,k5⟩:=hd.side s hs;have hk:=hd.kb;have ht:=h.iC;obtain⟨o1,o2,o3,o4⟩:=hp.own;obtain⟨a1,a2,a3⟩:=hp.apart;have zb:=hp.lt _ o1;have zf:=hp.lt _ o2;refine af.aw (c:=.ptr) (x:=some ⟨fb,0,none⟩) hp.aR rfl ?_;refine an.of (acP hp.node.file ao sp) ?_;rintro _ w1 ⟨rfl,t⟩;obtain⟨F1,GV,t1⟩:=hp.node.uk t;obtain⟨p1,f1,s1⟩:=hp.to t1 ht.le;refine⟨(),rfl,?_⟩;have XY:N<=fb:=hp.node.lo.2;refine aU.of λ w2 _ f2=>bL.of (λ k=>k=pb s\/k=b) ?_;have z1:=f1.size;have z2:=f2.size;have bA:=h.apart.1 s hs;have ba:w2.heap[b]? = some (.cells (dh d.kb++[.pointer (some ⟨pb 0,0,none⟩),.pointer (some ⟨pb 1,0,none⟩),pc v]).toArray 87 (0,0)):=f2.ag (f1.ao h.aR bA);have IY:w2.heap[pb s]? = some (.cells (GR (d.side s) fb nb) 94 (0,0)):=f2.ag p1.aR;have qq:il N w2:=(ht.ao f1 λ k hk=>h.lo k (h.own.2.1 s hs k hk)).ag f2;refine⟨.inl rfl,af.aw (c:=.ptr) (x:=some ⟨fb,0,none⟩) IY rfl ⟨.inr rfl,?_⟩⟩;have Kt:=l0 (kb:=d.kb);refine⟨dh d.kb,by rw[Kt,hk],?_,?_⟩
 ·rw[eN]
  refine qt ba _ 0 λ j hj=>?_;rw[pJ,eP,oV hj]
 have nP:js w2 fb GV (CS (d.side s).n.j.fs ao sp):=(p1.node.ag f2).file;refine an.of (Xv nP rfl hk s qq XY) ?_;rintro _ w3 ⟨pw,g2,f3,hO⟩;have z3:=f3.size;have PO:∀ k,(k=pb s\/k=b)->¬ (only fb) k:=λ k hk q=>by
  have q:k=fb:=q
  rcases hk with r | r
  ·exact a1 (r.symm.trans q)
  ·rw[<- r,q] at bA;exact bA o2
 have CW:w3.heap[pb s]? = some (.cells (GR (d.side s) fb nb) 94 (0,0)):=f3.ao IY (PO _ (.inl rfl));have PQ:d.yI s ao sp=match NodeM.open_ d.kb s (CS (d.side s).n.j.fs ao sp) with
   | (_,some m,c)=>(d.put s ⟨m,false⟩,c)
   | (fs,none,c)=>(d.put s ⟨DuoM.uk (d.side s) fs,true⟩,c):=by unfold DuoM.yI;rw[if_neg ab];rfl
 generalize hoo:NodeM.open_ d.kb s (CS (d.side s).n.j.fs ao sp)=oo at hO PQ;obtain⟨NP,mo,c⟩:=oo;have yw:Fr (G s) w w3:=(f1.et f2).comp f3 λ k _ q=>by have q:k=fb:=q;rw[q];exact o2
 have XZ:G s GV\/cD w w1 GV:=s1 GV (.inr rfl);have PR:G s pw\/cD w w3 pw:=by
  rcases g2 with q | q | q
  ·rw[q];exact .inl o2
  ·rw[q];exact XZ.imp_right λ r=>⟨r.1,by have:=r.2;omega⟩
  ·exact .inr ⟨by have:=q.1;omega,q.2⟩
 rcases hO with⟨PS,m,F2,e1,e2,e3,rfl,hn,hF⟩ | ⟨e1,e2,rfl,X0⟩
 ·have e1:mo=some m:=e1
  have e3:c=0:=e3;subst e1 e3;refine⟨(some ⟨PS,0,none⟩,0,()),rfl,az.on f3 PO ?_⟩;refine aK.aw CW (by simp[GR]) rfl λ w4 df f4 _=>?_;have df:w4.heap[pb s]? = some (.cells #[aZ fb,aZ nb,.bool false] 94 (0,0)):=df;refine af.aw (c:=.bool) (x:=false) df rfl (ae.t rfl ?_);refine aK.aw df bm rfl λ w5 dN f5 _=>?_;have dN:w5.heap[pb s]? = some (.cells #[aZ fb,aZ PS,.bool false] 94 (0,0)):=dN;have f45:Fr (only (pb s)) w3 w5:=f4.trans f5;have z45:=f45.size;rw[PQ];have nF:∀ k,F2 k->k≠pb s:=λ k hk q=>by have:=(hF k hk).1;rw[q] at this;omega
  refine⟨rfl,h.part hs (G':=λ k=>k=pb s\/k=fb\/k=pw\/F2 k) ⟨fb,pw,PS,F2,dN,?_,⟨.inl rfl,.inr (.inl rfl),.inr (.inr (.inl rfl)),λ k hk=>.inr (.inr (.inr hk))⟩,⟨a1,?_,λ q=>nF _ q rfl⟩,?_,?_⟩ (yw.comp f45 λ k _ q=>by have q:k=pb s:=q;rw[q];exact o1) ?_⟩
  ·have npf:¬ only (pb s) pw:=λ q=>by
    have q:pw=pb s:=q
    rcases g2 with r | r | r
    ·exact a1 (q.symm.trans r)
    ·have:pb s=GV:=q.symm.trans r
     rcases XZ with _ | r2
     ·exact p1.apart.2.1 this
     ·rw[<- this] at r2;have:=r2.1;omega
    ·rw[q] at r;have:=r.1;omega
   exact hn.ao f45 (λ k hk q=>nF k hk q) (λ q=>a1 (Eq.symm q)) npf
  ·intro q
   rcases g2 with r | r | r
   ·exact a1 (q.trans r)
   ·exact p1.apart.2.1 (q.trans r)
   ·rw[<- q] at r;have:=r.1;omega
  ·intro k hk
   rcases hk with q | q | q | q
   ·rw[q];omega
   ·rw[q];omega
   ·rw[q]
    rcases PR with r | r
    ·have:=hp.lt _ r;omega
    ·have:=r.2;omega
   ·have:=(hF k q).2;omega
  ·intro k hk
   have hle:=ht.le
   rcases hk with q | q | q | q
   ·rw[q];exact hp.lo _ o1
   ·rw[q];exact XY
   ·rw[q]
    rcases PR with r | r
    ·exact hp.lo _ r
    ·have:=r.1;omega
   ·have:=(hF k q).1;omega
  ·intro k hk
   rcases hk with q | q | q | q
   ·rw[q];exact .inl o1
   ·rw[q];exact .inl o2
   ·rw[q];exact PR.imp_right λ r=>⟨r.1,by have:=r.2;omega⟩
   ·exact .inr ⟨by have:=(hF k q).1;omega,by have:=(hF k q).2;omega⟩
 ·have e1:mo=none:=e1
  have e2:c≠0:=e2;subst e1;refine⟨(none,c,()),rfl,az.on f3 PO ?_⟩;have ec:(c != 0)=true:=bne_iff_ne.2 e2;show aK _ (.bool (c != 0)) _ _;rw[ec];refine aK.aw CW (by simp[GR]) rfl λ w4 df f4 _=>?_;have df:w4.heap[pb s]? = some (.cells #[aZ fb,aZ nb,.bool true] 94 (0,0)):=df;refine af.aw (c:=.bool) (x:=true) df rfl (ae.f rfl ?_);rw[PQ];have z4:=f4.size;obtain⟨F3,PT,t3⟩:=(p1.node.ag f2).uk (w':=w3) (s':=NP) ⟨f3,pw,g2.imp_right λ q=>q.imp_right λ q=>q.1,X0⟩;obtain⟨q1,q2,q3⟩:=(p1.ao f2 (λ _ _ t=>t)).to t3 qq.le;have n4:∀ k,F3 k->¬ only (pb s) k:=λ k hk q=>by have q:k=pb s:=q;rw[q] at hk;exact q1.apart.2.2 hk
  refine⟨rfl,h.part hs (G':=λ k=>k=pb s\/k=fb\/k=PT\/F3 k) ⟨fb,PT,nb,F3,df,?_,⟨.inl rfl,.inr (.inl rfl),.inr (.inr (.inl rfl)),λ k hk=>.inr (.inr (.inr hk))⟩,⟨a1,q1.apart.2.1,q1.apart.2.2⟩,?_,?_⟩ (yw.comp f4 λ k _ q=>by have q:k=pb s:=q;rw[q];exact o1) ?_⟩
  ·exact q1.node.ao f4 n4 (λ q=>a1 (Eq.symm q)) (λ q=>q1.apart.2.1 (Eq.symm q))
  all_goals
   intro k hk;have base:(k=pb s\/k=fb)\/(k=PT\/F3 k):=by
    rcases hk with q | q | q | q
    ·exact .inl (.inl q)
    ·exact .inl (.inr q)
    ·exact .inr (.inl q)
    ·exact .inr (.inr q)
   have cls:G s k\/cD w w3 k:=by
    rcases base with(q | q) | q
    ·rw[q];exact .inl o1
    ·rw[q];exact .inl o2
    ·rcases q3 k (q.symm.imp id id) with r | r
     ·rcases r with r | r
      ·exact .inl r
      ·exact(s1 k r).imp_right λ r=>⟨r.1,by have:=r.2;omega⟩
     ·exact .inr ⟨by have:=r.1;omega,r.2⟩
  ·rcases cls with r | r
   ·have:=hp.lt k r;omega
   ·have:=r.2;omega
  ·rcases cls with r | r
   ·exact hp.lo k r
   ·have:=r.1;have:=ht.le;omega
  ·exact cls.imp_right λ r=>⟨r.1,by have:=r.2;omega⟩
structure DN (N:Nat)(w0 w:ah)(kb:ai)(q s:Int)(g:Nat)(m:NodeM)(G:bz):Prop where
 nm:(NodeM.open_ kb s (iA q)).2.1=some m
 p:yY N w G g ⟨m,false⟩
 new:∀ k,G k->w0.heap.size<=k
theorem ahV {q:Int}{m n:NodeM}(h0:(NodeM.open_ kb 0 (iA q)).2.1=some m)(h1:(NodeM.open_ kb 1 (iA q)).2.1=some n):rW kb q=(some ⟨kb,⟨m,false⟩,⟨n,false⟩,[]⟩,0):=by
 unfold rW;generalize NodeM.open_ kb 0 (iA q)=a at *;generalize NodeM.open_ kb 1 (iA q)=b at *;obtain⟨a1,a2,a3⟩:=a;obtain⟨b1,b2,b3⟩:=b;have h0:a2=some m:=h0;have h1:b2=some n:=h1;subst h0 h1;rfl
theorem X1 {q:Int}(h0:(NodeM.open_ kb 0 (iA q)).2.1=none):rW kb q=(none,(NodeM.open_ kb 0 (iA q)).2.2):=by
 unfold rW;generalize NodeM.open_ kb 0 (iA q)=a at *;obtain⟨a1,a2,a3⟩:=a;have h0:a2=none:=h0;subst h0;rfl
theorem ahW {q:Int}{m:NodeM}(h0:(NodeM.open_ kb 0 (iA q)).2.1=some m)(h1:(NodeM.open_ kb 1 (iA q)).2.1=none):rW kb q=(none,(NodeM.open_ kb 1 (iA q)).2.2):=by
 unfold rW;generalize NodeM.open_ kb 0 (iA q)=a at *;generalize NodeM.open_ kb 1 (iA q)=b at *;obtain⟨a1,a2,a3⟩:=a;obtain⟨b1,b2,b3⟩:=b;have h0:a2=some m:=h0;have h1:b2=none:=h1;subst h0 h1;rfl
def DO (kb:ai)(a0 a1:aS):List av:=dh kb++[.pointer a0,.pointer a1,pc (none,0,0)]
theorem PU (ht:TabW w){kb:ai}(hk:kb.length=16)(q:Int):
    au 7 #[.agg (dh kb).toArray,aa q] w λ r w'=>Fr none1 w w' /\
      ((∃ b A d,r=.tuple #[aZ b,aa 0]/\rW kb q=(some d,0)/\l8 w.heap.size w' A b d/\∀ k,A k->cD w w' k) \/
       (∃ c,r=.tuple #[.pointer none,aa c]/\rW kb q=(none,c)/\c≠0)):=by
  generalize hN:w.heap.size=N;have Kt:=l0 (kb:=kb);refine c7 (dh kb) q w _ ?_;unfold C7;refine aC.of λ g1 w1 eG aE f1 s1=>?_;refine fL.of aE (by rw[Kt,hk]) ?_;refine Gu hk λ y hy=>aC.of λ b w2 hb ba f2 s2=>?_;have ba:w2.heap[b]? = some (.cells (Cs.vals ql y++[Value.pointer none,.pointer none,pc (none,0,0)]).toArray 87 (0,0)):=ba;rw[hy] at ba;have ba:w2.heap[b]? = some (.cells (DO kb none none).toArray 87 (0,0)):=ba;have z1:=f1.size;have z2:=f2.size;have qU:=f1.trans f2;have X2:il N w:=by rw[<- hN];exact il.of ht
  -- where the loop stands
  refine cp.of (λ st w'=>Fr none1 w w'/\w2.heap.size<=w'.heap.size/\w'.heap[g1]? = some (.cells (dh kb).toArray 25 (0,0)) /\
      ((st.1=0/\w'.heap[b]? = some (.cells (DO kb none none).toArray 87 (0,0))) \/
       (st.1=1/\∃ p0 m0 G0,DN N w2 w' kb q 0 p0 m0 G0/\w'.heap[b]? = some (.cells (DO kb (some ⟨p0,0,none⟩) none).toArray 87 (0,0))) \/
       (st.1=2/\∃ p0 m0 G0 p1 m1 G1,DN N w2 w' kb q 0 p0 m0 G0/\DN N w2 w' kb q 1 p1 m1 G1/\(∀ k,G0 k->¬ G1 k)/\w'.heap[b]? = some (.cells (DO kb (some ⟨p0,0,none⟩) (some ⟨p1,0,none⟩)).toArray 87 (0,0))))) (λ st _=>(2 - st.1).toNat)
    ⟨qU,eR _,f2.ag aE,.inl ⟨rfl,ba⟩⟩ ?_
  rintro _ ⟨i,_⟩ w3 ⟨yw,z3,pV,hI⟩;dsimp only at hI ⊢;have hir:i=0\/i=1\/i=2:=by rcases hI with⟨t,-⟩ | ⟨t,-⟩ | ⟨t,-⟩<;>omega
  refine ae.dec (λ c=>?_) (λ c=>?_)
  · have c:i<2:=c
    have hi:i=0\/i=1:=ab;refine an.of (acH q w3) ?_;rintro _ w4 ⟨fb,rfl,Kg,f4,hf⟩;refine⟨some ⟨fb,0,none⟩,rfl,?_⟩;have z4:=f4.size;refine fL.of (f4.ag pV) (by rw[Kt,hk]) ?_;have ht4:il N w4:=X2.ag (yw.trans f4);refine an.of (Xv hf rfl hk i ht4 ab) ?_;rintro _ w5 ⟨fg,g5,f5,hO⟩;have z5:=f5.size;have f45:Fr none1 w3 w5:=f4.fresh f5 Kg;have PV:=yw.trans f45;have zfb:=hf.lt;have Pz:w3.heap.size<=fg/\(fg=fb\/fg<w5.heap.size):=by
      rcases g5 with t | t | t
      · exact⟨by omega,.inl t⟩
      · exact⟨by omega,.inl t⟩
      · exact⟨by have:=t.1;omega,.inr t.2⟩
    rcases hO with⟨nb,m,F,e1,e2,e3,rfl,hn,hF⟩ | ⟨e1,e2,rfl,X0⟩
    · refine⟨(some ⟨nb,0,none⟩,0,()),rfl,ae.f rfl ?_⟩
      refine aC.of λ g w6 hg gM f6 s6=>?_;have z6:=f6.size;refine⟨by omega,by omega,?_⟩;obtain⟨GN,hP,hPn⟩:∃ GN:bz,DN N w2 w6 kb q i g m GN/\∀ k,GN k->w3.heap.size<=k:=by
        refine⟨λ k=>k=g\/k=fb\/k=fg\/F k,?_,λ k hk=>?_⟩
        · refine⟨e1,⟨fb,fg,nb,F,gM,hn.ag f6,⟨.inl rfl,.inr (.inl rfl),.inr (.inr (.inl rfl)),λ k hk=>.inr (.inr (.inr hk))⟩,⟨by omega,by omega,λ t=>by have:=(hF g t).2;omega⟩,λ k hk=>?_,λ k hk=>?_⟩,λ k hk=>?_⟩
          · rcases hk with t | t | t | t
            · omega
            · omega
            · omega
            · have:=(hF k t).2;omega
          · rcases hk with t | t | t | t
            · omega
            · omega
            · omega
            · have:=(hF k t).1;omega
          · rcases hk with t | t | t | t
            · omega
            · omega
            · omega
            · have:=(hF k t).1;omega
        · rcases hk with t | t | t | t
          · omega
          · omega
          · omega
          · have:=(hF k t).1;omega
      have f36:Fr none1 w3 w6:=f45.trans f6;have bl:b<w2.heap.size:=ab;have gl:g1<w1.heap.size:=ab;have st:∀ {a0 a1 c0 c1:aS} {K:ah->Prop},w3.heap[b]? = some (.cells (DO kb a0 a1).toArray 87 (0,0))->(i=0/\c0=some ⟨g,0,none⟩/\c1=a1\/i=1/\c0=a0/\c1=some ⟨g,0,none⟩) ->
          (∀ w7,w7.heap[b]? = some (.cells (DO kb c0 c1).toArray 87 (0,0))->Fr (only b) w6 w7->K w7)->aK ((((⟨b,0,none⟩:Addr).add 16)).add (i.toNat * 1)) (aZ g) w6 K:=λ{a0 a1 c0 c1 K} rH hc k=>by
        rw[eN,eN]
        rcases hc with⟨rfl,rfl,rfl⟩ | ⟨rfl,rfl,rfl⟩
        · exact ri hk (f36.ag rH) 0 bm (v:=aZ g) rfl λ w7 gL f7 _=>k w7 gL f7
        · exact ri hk (f36.ag rH) 1 bm (v:=aZ g) rfl λ w7 gL f7 _=>k w7 gL f7
      have kp:∀ {u:ah} {s:Int} {p:Nat} {mm:NodeM} {GG:bz} {w7:ah},DN N w2 u kb q s p mm GG->Fr (only b) u w7->DN N w2 w7 kb q s p mm GG:=λ hp f=>⟨hp.nm,hp.p.ao f (λ k hk t=>by have t:k=b:=t;have:=hp.new k hk;omega),hp.new⟩;have hw:IntKind.i64.wrap (i+1)=i+1:=wI ab ab
      rcases hI with⟨rfl,rH⟩ | ⟨rfl,p0,m0,G0,DP,rH⟩ | ⟨rfl,-⟩
      · refine st rH (.inl ⟨rfl,rfl,rfl⟩) λ w7 gL f7=>⟨⟨?_,?_,?_,.inr (.inl ⟨by rw[hw];rfl,g,m,GN,kp hP f7,gL⟩)⟩,?_⟩
        · exact(PV.trans f6).fresh f7 ab
        · have:=f7.size;omega
        · exact f7.ao (f36.ag pV) (λ t=>by have t:g1=b:=t;omega)
        · rw[hw];decide
      · refine st rH (.inr ⟨rfl,rfl,rfl⟩) λ w7 gL f7=>⟨⟨?_,?_,?_,.inr (.inr ⟨by rw[hw];rfl,p0,m0,G0,g,m,GN,kp ⟨DP.nm,DP.p.ao f36 (λ _ _ t=>t),DP.new⟩ f7,kp hP f7,λ k h0 h1=>?_,gL⟩)⟩,?_⟩
        · exact(PV.trans f6).fresh f7 ab
        · have:=f7.size;omega
        · exact f7.ao (f36.ag pV) (λ t=>by have t:g1=b:=t;omega)
        · have:=DP.p.lt.1 k h0;have:=hPn k h1;omega
        · rw[hw];decide
      · omega
    · refine⟨(none,(NodeM.open_ kb i (iA q)).2.2,()),rfl,ae.ne (λ _=>?_) (λ t=>absurd t e2)⟩
      refine⟨PV,.inr ⟨_,rfl,?_,e2⟩⟩
      rcases hI with⟨rfl,rH⟩ | ⟨rfl,p0,m0,G0,DP,rH⟩ | ⟨rfl,-⟩
      · exact X1 e1
      · exact ahW DP.nm e1
      · omega
  · have c:¬ i<2:=c
    rcases hI with⟨rfl,-⟩ | ⟨rfl,-⟩ | ⟨rfl,p0,m0,G0,p1,m1,G1,h0,h1,X3,rH⟩
    · omega
    · omega
    refine⟨yw,.inl ⟨b,λ k=>k=b\/G0 k\/G1 k,_,rfl,ahV h0.nm h1.nm,⟨(none,0,0),none1,λ s=>if s=0 then G0 else G1,λ s=>if s=0 then p0 else p1,rH,λ s hs=>?_,ahD w3,⟨.inl rfl,λ s hs k hk=>?_,λ k hk=>hk.elim⟩,⟨λ s hs t=>?_,λ t=>t,λ s hs k hk=>⟨λ t=>?_,λ t=>t⟩⟩,λ k hk=>?_,λ k hk=>?_,X2.ag yw⟩,λ k hk=>?_⟩⟩
    · rcases hs with rfl | rfl
      · exact h0.p
      · exact h1.p
    · rcases hs with rfl | rfl
      · exact .inr (.inl hk)
      · exact .inr (.inr hk)
    · rcases hs with rfl | rfl
      · have:=h0.new b t;omega
      · have:=h1.new b t;omega
    · rcases hs with rfl | rfl
      · exact X3 k hk t
      · exact X3 k t hk
    · rcases hk with t | t | t
      · omega
      · exact h0.p.lt.1 k t
      · exact h1.p.lt.1 k t
    · rcases hk with t | t | t
      · omega
      · have:=h0.new k t;omega
      · have:=h1.new k t;omega
    · rcases hk with t | t | t
      · exact⟨by omega,by omega⟩
      · exact⟨by have:=h0.new k t;omega,h0.p.lt.1 k t⟩
      · exact⟨by have:=h1.new k t;omega,h1.p.lt.1 k t⟩
def DQ:ai:=List.replicate 16 0
def Bn (ys:ai):ai:=ys.take 16++List.replicate (16 - ys.length) 0
theorem ahX (ys:ai):(Bn ys).length=16:=by unfold Bn;rw[bU,ga,List.length_replicate];omega
theorem ahY {y:Sl}{ys:ai}(hb:w.heap[g]? = some (.cells (dh DQ).toArray T (0,0)))(hy:bO w y ys)(o:TypeId){K:Int->ah->Prop}
  (k:∀ r w',w'.heap[g]? = some (.cells (dh (Bn ys)).toArray T (0,0))->Fr (only g) w w'->K r w') :
  aT (Builtin.copy_ #[22,22] o #[.slice (some ⟨g,0,none⟩) 16 16,.slice y.1 y.2.1 y.2.2]) w bN (λ(x:Int) w'=>K x w'):=by
 obtain⟨hu,⟨i,hi,hs,hz,uN⟩,hc,sE⟩:=qu;have pH:∀ w,(sizeOf 5).run Tryz.prog w=.ok 1 w:=λ w=>by rw[mZ hi,hs]
 have hlen:∀ w,(Builtin.lenOf (.slice y.1 y.2.1 y.2.2)).run Tryz.prog w=.ok y.2.1 w:=λ w=>rfl;have gG:=hy.len;obtain⟨n,hn⟩:∃ n,n=min ys.length 16:=⟨_,rfl⟩;have hm:Nat.min y.2.1 16=n:=by rw[gG,hn]
 have BN:bO w (y.1,n,y.2.2) (ys.take n):=by
  obtain⟨h1,h2,h3⟩:=hy;refine⟨by simp;omega,λ e=>?_,λ a ha=>?_⟩
  ·obtain⟨e1,e2,e3⟩:=h2 e
   have:ys=[]:=by simpa using e3
   subst this;exact⟨by simp[hn],e2,by simp⟩
  ·rw[uR];exact BQ _ 0 n (h3 a ha)
 have Hs:(Builtin.firstCells 1 n (.slice y.1 y.2.1 y.2.2)).run Tryz.prog w=.ok ((ys.take n).map bc).toArray w:=by
  have:=eW.first (P:=Tryz.prog) BN
  obtain⟨y1,y2,y3⟩:=y;cases y1<;>exact this
 obtain⟨hw,mH,a1,a2,a3,a4,a5,a6⟩:=K4 ((ys.take n).map bc) w (dh DQ).toArray 0 0 hb (by simp[dh,DQ];omega) (QC _);have X4:=Ti ((ys.take n).map bc) w (dh DQ).toArray mH 0 0 hb a1;have hcs:mH=(dh (Bn ys)).toArray:=by
  apply Array.ext';apply xO;intro j;rw[Array.getElem?_toList];show mH[j]? = (dh (Bn ys))[j]?;simp only[eI,ga,eP] at X4 a3;unfold dh Bn;rw[jG]
  by_cases hj:j<n
  ·have:=a3 j ab
   rw[this,oV (by simp;omega)];rw[show ys.take n=ys.take 16 by rw[hn,List.take_eq_take_iff];omega]
  ·have q:=X4 j ab
   rw[q,qw (by simp;omega),pJ];unfold dh DQ;rw[List.map_replicate,List.map_replicate,List.getElem?_replicate,List.getElem?_replicate];simp only[eI,ga]
   by_cases Ki:j<16
   ·rw[if_pos Ki,if_pos ab]
   ·rw[if_neg Ki,if_neg ab]
 refine⟨(n:Int),setCells w ⟨g,0,none⟩ 0 ((ys.take n).map bc),?_,k _ _ (by rw[<- hcs];exact a1) a5⟩;unfold Builtin.copy_;simp only[Sem.run_bind,under hu,Result.andThen_ok,pH,pJ,List.getElem?_cons_zero,List.getElem?_cons_succ,Sem.run_pure,hlen,hm,Hs];rw[show(storeCells ⟨g,0,none⟩ (((ys.take n).map bc).toArray).toList 0).run Tryz.prog w=.ok () _ from BB ((ys.take n).map bc) 0 w hw];rfl
theorem ahZ {K:aS->Nat->Nat->Prop}(k:K (some ⟨g,0,none⟩) 16 16):gQ (some ⟨g,0,none⟩) 16 0 16 16 1 K:=by
 refine⟨by decide,by decide,by decide,by decide,?_⟩;have e:(if(16:Int)=0 then some (⟨g,0,none⟩:Addr) else(some (⟨g,0,none⟩:Addr)).map (·.add ((0:Int).toNat * 1)))=some ⟨g,0,none⟩:=by
  rw[if_neg ar,uS,eN];rfl
 rw[e];exact k
theorem ah0 (v of:Int)(hof:of<=9223372036854775807){wc:ah}{K:Int->ah->Prop}(k:K (within v of) wc):ak 8 #[aa v,aa of] wc bN (λ(x:Int) w'=>K x w'):=by
 refine an.of (abl v of wc hof) ?_;rintro _ _ ⟨rfl,rfl⟩;exact⟨_,rfl,k⟩
def ah1:ai:=1::List.replicate 15 0
def xw (w0 w:ah)(A:bz)(b:Nat)(d:DuoM):Prop:=l8 w0.heap.size w A b d/\Fr none1 w0 w
theorem xw.next {w0:ah}{d':DuoM}(h:xw w0 w A b d)(t:ic w0.heap.size w A b d' w'):∃ A',xw w0 w' A' b d'/\(∀ k,A' k->A k\/cD w w' k)/\Fr A w w':=by
 obtain⟨⟨A',h1,h2⟩,f⟩:=t;exact⟨A',⟨h1,h.2.comp f λ k hk q=>by have:=h.1.lt.2.1 k q;omega⟩,h2,f⟩
theorem xw.ag {w0:ah}(h:xw w0 w A b d)(f:Fr none1 w w'):xw w0 w' A b d:=⟨h.1.ag f,h.2.trans f⟩
theorem ah2 (w:ah)(ht:TabW w):au 19 #[] w λ r w'=>r=.bool true/\Fr none1 w w':=by
 refine c19 w _ ?_;unfold C19;have hk:ah1.length=16:=rfl;obtain⟨d,d1,d2,d3,d4,d5,d6,d7,d8⟩:=ahT hk;refine an.of (PU ht hk 900) ?_;rw[d1];rintro _ w1 ⟨f1,(⟨b,A,d',rfl,hn,hR,hA⟩ | ⟨c,-,hn,-⟩)⟩
 rotate_left
 ·cases congrArg Prod.fst hn
 obtain rfl:d=d':=by injection congrArg Prod.fst hn
 have h1:xw w w1 A b d:=⟨hR,f1⟩;refine⟨(some ⟨b,0,none⟩,0,()),rfl,ae.f rfl (ae.f rfl ?_)⟩;obtain⟨v,S,G,pb,oL⟩:=h1.1;refine an.of (GU oL d3.kb) ?_;rintro _ _ ⟨rfl,rfl⟩;refine⟨_,rfl,ae.ne (λ t=>absurd (by rw[d2];rfl) t) (λ _=>?_)⟩;have yi:=Oa (d:=1) ar ar;refine an.of (XM h1.1 d3 0 (jC 1) yi.small.2.2.2.2) ?_;rw[d4];rintro _ w2 ⟨rfl,t2⟩;refine⟨_,rfl,ae.f rfl ?_⟩;obtain⟨A2,h2,-,-⟩:=h1.next t2;refine an.of (XS h2.1 d5) ?_;rw[d6];rintro _ w3 ⟨rfl,t3⟩;refine⟨_,rfl,ae.f rfl ?_⟩;obtain⟨A3,h3,-,-⟩:=h2.next t3;refine an.of (XP h3.1 d7 1) ?_;rintro _ w4 ⟨q,rfl,f4,hq,-⟩;obtain⟨c,rfl,hp⟩:=hq (.inr rfl);refine⟨some ⟨c,0,none⟩,rfl,ae.t rfl ?_⟩;have ho:=(d7.side 1 (.inr rfl)).2.1;refine an.of (Xg hp ho) ?_;rintro _ w5 ⟨cc,rfl,hc,f5⟩;refine⟨_,rfl,?_⟩;refine an.of (tu ho.kb hc) ?_;rintro _ _ ⟨rfl,rfl⟩;refine⟨_,rfl,?_⟩;rw[d8];exact⟨rfl,(h3.2.trans f4).trans f5⟩
def C6 (p0:aS)(bh bC:Nat)(p1:Int)(p2:Int)(w:ah)(K:aP):Prop:=
 aC (.cells #[.int .u8 0,.int .u8 0,.int .u8 0,.int .u8 0,.int .u8 0,.int .u8 0,.int .u8 0,.int .u8 0,.int .u8 0,.int .u8 0,.int .u8 0,.int .u8 0,.int .u8 0,.int .u8 0,.int .u8 0,.int .u8 0] 25) w (λ g1 w2=>gQ (some (ad g1)) 16 0 16 16 1 (λ a3 l4 c5=>aT (Builtin.copy_ #[22,22] 3 #[.slice a3 l4 c5,.slice p0 bh bC]) w2 bN (λ(x6:Int) w7=>fL 16 (ad g1) w7 (λ x8=>ak 7 #[.agg x8.toArray,aa 1000] w7 uQ (λ(x9:aS×Int×Unit) aX=>ae (x9.2.1 != 0)
 (K (.bool false) aX)
 (ae (Option.isNone x9.1)
 (K (.bool false) aX)
 (dc (Int×Unit) (λ En=>dc (Bool×Unit) (λ wk=>ae (p1==0)
 (wk (true,()) aX)
 (wk ((p1==1),()) aX))
 (λ _ pM bV=>ae pM.1
 (En (2,()) bV)
 (En (p1,()) bV)))
 (λ _ gd bM=>ak 9 #[.pointer x9.1,aa gd.1,.agg #[aa 1,aj,aj,aj,aj,aa 0,aa 0,.nilIface]] bM bN (λ(bZ:Int) b9=>ae (bZ != 1)
 (K (.bool false) b9)
 (ak 10 #[.pointer x9.1,aa gd.1] b9 bN (λ(cJ:Int) bW=>ae (cJ != 1)
 (K (.bool false) bW)
 (ak 32 #[.pointer x9.1,aa gd.1,.slice none 0 0] bW bN (λ(du:Int) cH=>ae (du != 1)
 (K (.bool false) cH)
 (ak 33 #[.pointer x9.1,aa gd.1,aa 0,.int .u8 0] cH bN (λ(eB:Int) cZ=>ae (eB != 1)
 (K (.bool false) cZ)
 (ak 14 #[.pointer x9.1,aa gd.1] cZ gH (λ(cR:aS) de=>ae (!(Option.isNone cR))
 (K (.bool false) de)
 (ak 34 #[.pointer x9.1,aa gd.1] de bK (λ(eD:Bool) cS=>ae eD
 (K (.bool false) cS)
 (ak 26 #[.pointer x9.1,aa gd.1,aa 1] cS gR (λ(eQ:Unit) cN=>ak 35 #[.pointer x9.1,aa gd.1,aa 0] cN gR (λ(dt:Unit) dQ=>ak 8 #[aa p2,aa 9] dQ bN (λ(fk:Int) jc=>ak 12 #[.pointer x9.1,aa fk] jc bN (λ(eY:Int) dW=>ae (eY != 3)
 (K (.bool false) dW)
 (ak 12 #[.pointer x9.1,aa (IntKind.i64.wrap ((-1) - fk))] dW bN (λ(ka:Int) jj=>ae (ka != 3)
 (K (.bool false) jj)
 (ak 32 #[.pointer x9.1,aa 0,.slice none 0 0] jj bN (λ(iT:Int) fw=>ae (iT != 2)
 (K (.bool false) fw)
 (ak 11 #[.pointer x9.1] fw bN (λ(gC:Int) iI=>ae (gC != 0)
 (K (.bool false) iI)
 (ak 36 #[.pointer x9.1,aa fk] iI (.bR [.one (.int .i64),.one .bE,.one .bool]) (λ(mL:Int×aB×Bool×Unit) ij=>fL 16 (ad g1) ij (λ kZ=>ak 7 #[.agg kZ.toArray,aa 3] ij uQ (λ(nq:aS×Int×Unit) jb=>ae (!mL.2.2.1)
 (ae (nq.2.1==10)
 (ak 13 #[.pointer x9.1] jb bN (λ(mr:Int) wi=>ae (mr==0)
 (ak 11 #[.pointer x9.1] wi bN (λ(jU:Int) mO=>ae (jU==0)
 (ak 19 #[] mO bK (λ(sO:Bool) rD=>K (.bool sO) rD))
 (K (.bool false) mO)))
 (K (.bool false) wi)))
 (K (.bool false) jb))
 (K (.bool false) jb)))))))))))))))))))))))))))))))))))
def pl6:aN:=(.seq .auto (.seq .auto (.seq .auto (.seq .auto (.seq .auto (.join [(1,.one (.int .i64))] (.join [(34,.one .bool)] .auto .auto) .auto))))))
theorem c6 (p0 bh bC p1 p2 w K)(h:C6 p0 bh bC p1 p2 w K):au 6 #[.slice p0 bh bC,aa p1,aa p2] w K:=aQ Tryz.func6 (p:=pl6) aA h
end Go.Proofs.YtfolkckcakndkaaGreatDoor
