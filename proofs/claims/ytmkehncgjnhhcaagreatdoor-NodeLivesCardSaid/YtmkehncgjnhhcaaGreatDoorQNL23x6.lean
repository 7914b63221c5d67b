/-
  Texts of this claim, put together: AgreeSpec8, AgreeSpec9, AgreeSpecA, NodeMem, CNodeG, NodeSpec, NodeSpec2, NodeSpec3, NodeLaw3, KeyCopy, NodeWake, CNLives, NLives.
  Conditions: those of each theorem.
-/
import Derived.Test.YtmkehncgjnhhcaaGreatDoorQNL23x0
import Derived.Test.YtmkehncgjnhhcaaGreatDoorQNL23x2
import Derived.Test.YtmkehncgjnhhcaaGreatDoorQNL23x3
import Derived.Test.YtmkehncgjnhhcaaGreatDoorQNL23x4
import Derived.Test.YtmkehncgjnhhcaaGreatDoorQNL23x5
import Derived.KernelRfl
import Derived.Test.YtmkehncgjnhhcaaGreatDoorProg
set_option linter.unusedVariables false
set_option maxRecDepth 100000
namespace Go.Proofs.YtmkehncgjnhhcaaGreatDoor
open Vc
theorem Pb (p:PeerM)(c l:Nat)(m:aQ)(d:Bool):qA (j3 p c l) 3 [.int .i64 m.e.1,.string m.e.2.1,.string m.e.2.2.1,.string m.e.2.2.2.1,.string m.e.2.2.2.2.1,.int .i64 m.e.2.2.2.2.2.1,.int .i64 m.e.2.2.2.2.2.2.1,m.e.2.2.2.2.2.2.2.1,.bool d]=j3 { p with off:=(m,d) } c l:=by
 rw[qB,qB];rfl
theorem Z9 (p:PeerM)(c l:Nat)(m:aQ)(d:Bool):qA (j3 p c l) 12 [.int .i64 m.e.1,.string m.e.2.1,.string m.e.2.2.1,.string m.e.2.2.2.1,.string m.e.2.2.2.2.1,.int .i64 m.e.2.2.2.2.2.1,.int .i64 m.e.2.2.2.2.2.2.1,m.e.2.2.2.2.2.2.2.1,.bool d]=j3 { p with bB:=(m,d) } c l:=by
 rw[qB,qB];rfl
theorem aaa (p:PeerM)(c l:Nat)(d:Bool):(j3 p c l).set 21 (.bool d)=j3 { p with wanted:=d } c l:=by rw[qB,qB];rfl
theorem aab (p:PeerM)(c l:Nat)(d:Bool):(j3 p c l).set 22 (.bool d)=j3 { p with dJ:=d } c l:=by rw[qB,qB];rfl
theorem Pc (m:aQ)(d:Bool):[Value.int .i64 m.e.1,.string m.e.2.1,.string m.e.2.2.1,.string m.e.2.2.2.1,.string m.e.2.2.2.2.1,.int .i64 m.e.2.2.2.2.2.1,.int .i64 m.e.2.2.2.2.2.2.1,m.e.2.2.2.2.2.2.2.1,.bool d].all bJ=true:=by
 show(_&&(_&&(_&&(_&&(_&&(_&&(_&&(bJ m.t.v&&(_&&true)))))))))=true;rw[Tm.bP];rfl
theorem kH.put {w w':World}{F:Nat->Prop}{b:Nat}{p q:PeerM}{c l:Nat}{Fc Fl:Nat->Prop}(h:kH w F b p c l Fc Fl)(f:Fr (only b) w w')(hb:w'.heap[b]? = some (.cells (cK q.kb++j3 q c l).toArray 138 (0,0)))(e1:q.kb=p.kb)(e2:q.es=p.es)(e3:q.hs=p.hs)(e4:q.cy=p.cy):kH w' F b q c l Fc Fl:=
 ⟨hb,by rw[e1,e2,e3];exact h.ch.ag f fun k U q=>(h.cf k U).2 q,by rw[e4];exact h.ld.ag f fun k U q=>(h.lf k U).2 q,h.cf,h.lf,h.mem⟩
theorem aac {w:World}{F:Nat->Prop}{b:Nat}{p:PeerM}(h:dE w F b p)(ho:dK p)(ht:TabW w)(m:aQ)(hm:aJ m.t<=1000000):
  Ret Tryz.prog 45 #[.pointer (some ⟨b,0,none⟩),gV m.e] w fun r w'=>r=.int .i64 (p.offer m).2/\dE w' F b (p.offer m).1/\Fr (only b) w w':=by
 have hR:=h;obtain⟨c,l,Fc,Fl,h⟩:=h;have U:=ho.kb;refine c45 _ m.e w _ ?_;unfold C45;refine aq.of fun g1 w1 di ar f1 _=>?_;have e1:kG w1 g1 m:=ar;have h1:=h.af f1;have same:∀ {w':World},Fr none1 w w'->dE w' F b p/\Fr (only b) w w':=fun f=>⟨hR.af f,f.mono fun _ _ t=>t.elim⟩;refine h1.dP U 22 (ck:=.bool) (x:=p.dJ) rfl (aa.by (fun hq=>?_) (fun hq=>?_))
 ·have hq:p.dJ=true:=hq
  have e:p.offer m=(p,13):=by unfold PeerM.offer;rw[if_pos hq]
  rw[e];exact⟨rfl,same f1⟩
 have q1:¬ p.dJ=true:=by have hq:p.dJ=false:=hq;rw[hq];simp
 refine bQ.of (fun st w'=>st.1=decide (p.off.2=true\/(p.bB.2=true/\p.bB.1.kind≠1))/\w1=w') ?_ ?_
 ·refine h1.dP U 11 (ck:=.bool) (x:=p.off.2) rfl (aa.by (fun hq=>⟨?_,rfl⟩) (fun hq=>?_))
  ·have hq:p.off.2=true:=hq
   rw[decide_eq_true (.inl hq)]
  have hq:p.off.2=false:=hq;refine h1.dP U 20 (ck:=.bool) (x:=p.bB.2) rfl (aa.by (fun hp=>h1.dP U 12 (ck:=.int .i64) (x:=p.bB.1.kind) rfl ⟨?_,rfl⟩) (fun hp=>⟨?_,rfl⟩))
  ·have hp:p.bB.2=true:=hp
   dsimp only
   by_cases h1:p.bB.1.kind=1
   ·rw[decide_eq_false (by rw[hq];simp[h1])];simpa using h1
   ·rw[decide_eq_true (.inr ⟨hp,h1⟩)];simpa using h1
  ·have hp:p.bB.2=false:=hp
   rw[decide_eq_false (by rw[hq,hp];simp)]
 rintro _ ⟨st,_⟩ _ ⟨cV,rfl⟩;dsimp only at cV ⊢;subst cV;refine aa.dec (fun hb=>?_) (fun hb=>?_)
 ·have e:p.offer m=(p,9):=by unfold PeerM.offer;rw[if_neg q1,if_pos hb]
  rw[e];exact⟨rfl,same f1⟩
 refine ab.of (OW (hR.af f1) U) ?_;rintro _ _ ⟨rfl,rfl⟩;refine⟨_,rfl,aa.by (fun hf=>?_) (fun hf=>?_)⟩
 ·have e:p.offer m=(p,5):=by unfold PeerM.offer;rw[if_neg q1,if_neg hb,if_pos hf]
  rw[e];exact⟨rfl,same f1⟩
 have q3:¬ p.full=true:=by have hf:p.full=false:=hf;rw[hf];simp
 refine aH.of fun w2 _ f2=>?_;have f12:=f1.trans f2;have h2:=h1.af f2;have e2:=e1.af f2;refine h2.dP U 2 (ck:=.ptr) (x:=some ⟨l,0,none⟩) rfl (az.aG (cks:=ir) (x:=m.e) e2 (h2.dP U 0 (ck:=.int .i64) (x:=p.side) rfl ?_));refine ab.of (OS h2.ld ho.cy m hm (ht.af f12) p.side) ?_;rintro _ w3 ⟨rfl,f3⟩;have f13:=f12.trans f3;have h3:=h2.af f3;refine⟨_,rfl,aa.ne (fun aA=>?_) (fun he=>?_)⟩
 ·have e:p.offer m=(p,mN p.cy m p.side):=by unfold PeerM.offer;rw[if_neg q1,if_neg hb,if_neg q3,if_pos aA]
  rw[e];exact⟨rfl,same f13⟩
 have e:p.offer m=({ p with off:=(m,true) },0):=by unfold PeerM.offer;rw[if_neg q1,if_neg hb,if_neg q3,if_neg (fun t=>t he)]
 rw[e];refine az.aG (cks:=ir) (x:=m.e) (e2.af f3) ?_;refine CB U h3.aG 3 (by rw[rO];show 3+9<=24;decide) (Pc m true) fun w4 dm f4 s4=>?_;rw[Pb p c l m true] at dm;exact⟨rfl,⟨c,l,Fc,Fl,h3.put (q:={ p with off:=(m,true) }) f4 dm rfl rfl rfl rfl⟩,f13.eG f4⟩
def ic (w:World)(g:Nat)(a:cG)(s:Sl):Prop:=w.heap[g]? = some (.cells (jJ a s).toArray 113 (0,0))
theorem ic.bg {w:World}{g:Nat}{a:cG}{s:Sl}(h:ic w g a s){K:Cs qn->Prop}(k:K (mP a.bg.1.e a.bg.2)):az qn ((⟨g,0,none⟩:Addr).add 2) w K:=by
 rw[dw];refine⟨mP a.bg.1.e a.bg.2,tK h _ _ 0 fun j hj=>?_,k⟩;rw[xe]
 match j,hj with
 | 0,_=>rfl
 | 1,_=>rfl
 | 2,_=>rfl
 | 3,_=>rfl
 | 4,_=>rfl
 | 5,_=>rfl
 | 6,_=>rfl
 | 7,_=>rfl
 | 8,_=>rfl
theorem ic.bI {w:World}{g:Nat}{a:cG}{s:Sl}(h:ic w g a s){K:Cs ir->Prop}(k:K a.bI.e):az ir ((⟨g,0,none⟩:Addr).add 11) w K:=by
 rw[dw];refine⟨a.bI.e,tK h _ _ 0 fun j hj=>?_,k⟩;rw[xe]
 match j,hj with
 | 0,_=>rfl
 | 1,_=>rfl
 | 2,_=>rfl
 | 3,_=>rfl
 | 4,_=>rfl
 | 5,_=>rfl
 | 6,_=>rfl
 | 7,_=>rfl
theorem ic.ld {w:World}{g:Nat}{a:cG}{s:Sl}(h:ic w g a s)(i:Nat){ck:Ck}{x:ck.C}(hx:(jJ a s)[i]? = some (ck.val x)){K:ck.C->Prop}(k:K x):ae ck ((⟨g,0,none⟩:Addr).add i) w K:=
 ae.ai h (by rw[Nat.zero_add,List.getElem?_toArray];exact hx) k
theorem aad (a:cG)(s:Sl)(v:Bool):(jJ a s).set 19 (.bool v)=jJ { a with drop:=v } s:=by rw[xe,xe];rfl
theorem u7 (a:cG)(s:Sl):(jJ a s)[0]? = some (.bool a.dj)/\(jJ a s)[1]? = some (.bool a.cM)/\(jJ a s)[19]? = some (.bool a.drop)/\(jJ a s)[20]? = some (.bool a.wanted)/\(jJ a s)[21]? = some (.bool a.dJ)/\(jJ a s)[22]? = some (.bool a.calm):=by
 rw[xe];exact⟨rfl,rfl,rfl,rfl,rfl,rfl⟩
theorem ic.drop {w:World}{g:Nat}{a:cG}{s:Sl}(h:ic w g a s)(v:Bool){K:World->Prop}(k:∀ w1,ic w1 g { a with drop:=v } s->Fr (only g) w w1->w1.heap.size=w.heap.size->K w1):ay ((⟨g,0,none⟩:Addr).add 19) (.bool v) w K:=by
 refine ay.ai h (by rw[Z0];decide) rfl fun w1 ar f1 s1=>k w1 ?_ f1 s1;rw[Nat.zero_add,ZZ,aad] at ar;exact ar
theorem Ic {w:World}{F:Nat->Prop}{b:Nat}{p:PeerM}(h:dE w F b p)(hF:∀ k,F k->k<w.heap.size)(ho:dK p)(ht:TabW w)(a:cG)(s:Sl)(he:dD a.bg.1):
  Ret Tryz.prog 92 #[.pointer (some ⟨b,0,none⟩),.agg (jJ a s).toArray] w fun r w'=>r=.int .i64 (p.bD a).2/\dE w' (fun k=>F k\/cq w w' k) b (p.bD a).1/\Fr (only b) w w':=by
 have U:=ho.kb;refine c92 _ (pL a s) w _ ?_;unfold C92;refine aq.of fun g1 w1 di ar f1 _=>?_;have a1:ic w1 g1 a s:=ar;have l1:=cj ar;have bF:F b:=by obtain⟨c,l,Fc,Fl,h⟩:=h;exact h.mem
 have bl:=hF b bF;have z1:=f1.size;have aA:g1≠b:=by omega
 have lift:∀ {wx wy:World} {q:PeerM},dE wx (fun k=>F k\/cq w wx k) b q->wx.heap.size<=wy.heap.size->dE wx (fun k=>F k\/cq w wy k) b q:=fun hq hz=>hq.mono fun k U=>U.imp_right fun t=>⟨t.1,by have:=t.2;omega⟩;refine bQ.of (fun _ w'=>∃ q:PeerM,(∀ a':cG,a'.dj=a.dj->True)/\p.bD a=(q.ended a,0)/\q.kb=p.kb/\dE w' (fun k=>F k\/cq w1 w' k) b q/\ic w' g1 a s/\Fr (only b) w w') ?_ ?_
 ·refine a1.ld 0 (ck:=.bool) (x:=a.dj) (u7 a s).1 (aa.by (fun hE=>?_) (fun hE=>?_))
  ·have hE:a.dj=true:=hE
   refine a1.bg ?_;refine ab.of (Z2 (h.af f1) (fun k U=>by have:=hF k U;omega) ho (ht.af f1) a.bg he) ?_;rintro _ w2 ⟨rfl,h2,f2⟩;have z2:=f2.size;have A5:dE w2 (fun k=>F k\/cq w w2 k) b (p.entry a.bg).1:=h2.mono fun k U=>U.imp_right fun t=>⟨by have:=t.1;omega,t.2⟩;refine⟨_,rfl,aa.ne (fun hn=>?_) (fun hz=>?_)⟩
   ·have hn:(p.entry a.bg).2≠0:=hn
    have e:p.bD a=(p,(p.entry a.bg).2):=by unfold PeerM.bD;rw[if_pos hE,if_pos hn]
    have e2:(p.entry a.bg).1=p:=by
     unfold PeerM.entry at hn ⊢;split
     ·rfl
     ·rename_i q1
      rw[if_neg q1] at hn;split
      ·rfl
      ·rename_i q2
       rw[if_neg q2] at hn;split
       ·rfl
       ·rename_i q3
        rw[if_neg q3] at hn;exact absurd rfl hn
    rw[e];rw[e2] at A5;exact⟨rfl,A5,f1.eG f2⟩
   ·have hz:(p.entry a.bg).2=0:=hz
    have e:p.bD a=((p.entry a.bg).1.ended a,0):=by unfold PeerM.bD;rw[if_pos hE,if_neg (fun t=>t hz)]
    refine⟨(p.entry a.bg).1,fun _ _=>trivial,e,?_,h2,f2.ag a1 aA,f1.eG f2⟩;unfold PeerM.entry
    repeat' split
    all_goals rfl
  ·have hE:a.dj=false:=hE
   refine⟨p,fun _ _=>trivial,?_,rfl,(h.af f1).mono fun k U=>.inl U,a1,f1.mono fun _ _ t=>t.elim⟩;unfold PeerM.bD;rw[if_neg (by rw[hE];simp)]
 rintro _ _ w2 ⟨q,_,eC,ekb,h2,a2,f12⟩;rw[eC];have U:q.kb.length=16:=by rw[ekb];exact U
 have z12:=f12.size;refine bQ.of (fun _ w'=>dE w' (fun k=>F k\/cq w1 w' k) b (q.jZ a)/\ic w' g1 { a with drop:=q.oB a } s/\Fr (only b) w w') ?_ ?_
 ·refine a2.ld 1 (ck:=.bool) (x:=a.cM) (u7 a s).2.1 (aa.by (fun hP=>?_) (fun hP=>?_))
  ·have hP:a.cM=true:=hP
   have ep:q.jZ a={ q with bB:=(a.bI,true) }:=by unfold PeerM.jZ;rw[if_pos hP]
   have ed:q.oB a=(a.drop||(q.off.2&&sP q.off.1 a.bI)):=by unfold PeerM.oB;rw[hP];rfl
   refine a2.bI ?_;obtain⟨c,l,Fc,Fl,h2⟩:=h2;refine CB U h2.aG 12 (by rw[rO];show 12+9<=24;decide) (Pc a.bI true) fun w3 ba f3 s3=>?_;rw[Z9 q c l a.bI true] at ba;have h3:=h2.put (q:={ q with bB:=(a.bI,true) }) f3 ba rfl rfl rfl rfl
   have a3:ic w3 g1 a s:=f3.ag a2 aA;refine aH.of fun w4 _ f4=>?_;have h4:=h3.af f4;have a4:ic w4 g1 a s:=f4.af a3;have f14:Fr (only b) w w4:=(f12.trans f3).dp f4;have z4:=f4.size;have fin:∀ {w5 w6:World} (v:Bool),Fr none1 w4 w5->ic w6 g1 { a with drop:=v } s->Fr (only g1) w5 w6->w6.heap.size=w5.heap.size->q.oB a=v->(dE w6 (fun k=>F k\/cq w1 w6 k) b (q.jZ a)/\ic w6 g1 { a with drop:=q.oB a } s/\Fr (only b) w w6):=by
    intro w5 w6 v f5 a6 f6 s6 e;have z5:=f5.size;have ht:∀ k,(F k\/cq w1 w2 k)->¬ (only g1) k:=fun k U t=>by
     have:k=g1:=t
     rcases U with U | U
     ·have:=hF k U;omega
     ·have:=U.1;omega
    rw[ep,e];refine⟨?_,a6,?_⟩
    ·have h6:=(h4.af f5).ag f6 ht
     exact(show dE w6 _ b _ from⟨c,l,Fc,Fl,h6⟩).mono fun k U=>U.imp_right fun t=>⟨t.1,by have:=t.2;have:=f3.size;omega⟩
    ·exact(f14.dp f5).comp f6 fun k U t=>by have:k=g1:=t;omega
   refine a4.ld 19 (ck:=.bool) (x:=a.drop) (u7 a s).2.2.1 (aa.by (fun hd=>?_) (fun hd=>?_))
   ·have hd:a.drop=true:=hd
    exact a4.drop true fun w5 a5 f5 s5=>fin true (Fr.refl _ _) a5 f5 s5 (by rw[ed,hd];rfl)
   have hd:a.drop=false:=hd;refine h4.dP U 11 (ck:=.bool) (x:=q.off.2) rfl (aa.by (fun mi=>?_) (fun mi=>?_))
   ·have mi:q.off.2=true:=mi
    refine h4.uC U 3 (cks:=ir) q.off.1.e (fun j hj=>?_) (a4.bI ?_)
    ·match j,hj with
     | 0,_=>rfl
     | 1,_=>rfl
     | 2,_=>rfl
     | 3,_=>rfl
     | 4,_=>rfl
     | 5,_=>rfl
     | 6,_=>rfl
     | 7,_=>rfl
    refine ab.of (VD q.off.1 a.bI w4) ?_;rintro _ w5 ⟨rfl,f5⟩;refine⟨_,rfl,?_⟩;exact(show ic w5 g1 a s from f5.af a4).drop _ fun w6 a6 f6 s6=>fin _ f5 a6 f6 s6 (by rw[ed,hd,mi];rfl)
   ·have mi:q.off.2=false:=mi
    exact a4.drop false fun w5 a5 f5 s5=>fin false (Fr.refl _ _) a5 f5 s5 (by rw[ed,hd,mi];rfl)
  ·have hP:a.cM=false:=hP
   have ep:q.jZ a=q:=by unfold PeerM.jZ;rw[if_neg (by rw[hP];simp)]
   have ed:q.oB a=a.drop:=by unfold PeerM.oB;rw[hP];simp
   rw[ep,ed];exact⟨h2,a2,f12⟩
 rintro _ _ w3 ⟨h3,a3,f13⟩;have zX:(q.jZ a).kb.length=16:=by
  have:(q.jZ a).kb=q.kb:=by unfold PeerM.jZ;split<;>rfl
  rw[this];exact U
 have xh:(q.jZ a).off=q.off/\(q.jZ a).wanted=q.wanted/\(q.jZ a).dJ=q.dJ:=by unfold PeerM.jZ;split<;>exact⟨rfl,rfl,rfl⟩
 have eE:q.ended a={ q.jZ a with off:=if q.oB a=true then(bp,false) else q.off,wanted:=q.wanted||a.wanted,dJ:=(q.dJ||a.dJ)&&!a.calm }:=rfl
 generalize q.jZ a=P at *;generalize q.oB a=D at *
 -- the end, alike in both
 have tail:∀ {wx:World} (O:aQ×Bool),O=(if D=true then(bp,false) else q.off)->dE wx (fun k=>F k\/cq w1 wx k) b { P with off:=O }->ic wx g1 { a with drop:=D } s->Fr (only b) w wx ->
   bQ (Unit) (fun th=>ae .bool ((⟨b,0,none⟩:Addr).add 37) wx (fun(bX:Bool)=>aa bX
    (ay ((⟨b,0,none⟩:Addr).add 37) (.bool true) wx (fun cZ=>th (()) cZ))
    (ae .bool ((⟨g1,0,none⟩:Addr).add 20) wx (fun(dH:Bool)=>ay ((⟨b,0,none⟩:Addr).add 37) (.bool dH) wx (fun fT=>th (()) fT)))))
   (fun _ H4 cn=>ae .bool ((⟨b,0,none⟩:Addr).add 38) cn (fun(de:Bool)=>aa de
    (ae .bool ((⟨g1,0,none⟩:Addr).add 22) cn (fun(dO:Bool)=>ay ((⟨b,0,none⟩:Addr).add 38) (.bool (!dO)) cn (fun dq=>(Value.int .i64 0=.int .i64 (q.ended a,(0:Int)).2/\dE dq (fun k=>F k\/cq w dq k) b (q.ended a,(0:Int)).1/\Fr (only b) w dq))))
    (ae .bool ((⟨g1,0,none⟩:Addr).add 21) cn (fun(dN:Bool)=>aa dN
     (ae .bool ((⟨g1,0,none⟩:Addr).add 22) cn (fun(eY:Bool)=>ay ((⟨b,0,none⟩:Addr).add 38) (.bool (!eY)) cn (fun ef=>(Value.int .i64 0=.int .i64 (q.ended a,(0:Int)).2/\dE ef (fun k=>F k\/cq w ef k) b (q.ended a,(0:Int)).1/\Fr (only b) w ef))))
     (ay ((⟨b,0,none⟩:Addr).add 38) (.bool false) cn (fun kL=>(Value.int .i64 0=.int .i64 (q.ended a,(0:Int)).2/\dE kL (fun k=>F k\/cq w kL k) b (q.ended a,(0:Int)).1/\Fr (only b) w kL))))))):=by
  intro wx O eO hx ax fx;rw[<- eO] at eE;obtain⟨c,l,Fc,Fl,hx⟩:=hx;refine bQ.of (fun _ w'=>kH w' (fun k=>F k\/cq w1 wx k) b { P with off:=O,wanted:=q.wanted||a.wanted } c l Fc Fl/\ic w' g1 { a with drop:=D } s/\Fr (only b) w w'/\wx.heap.size<=w'.heap.size) ?_ ?_
  ·have put:∀ (v:Bool),v=(q.wanted||a.wanted)->ay ((⟨b,0,none⟩:Addr).add 37) (.bool v) wx (fun w'=>kH w' (fun k=>F k\/cq w1 wx k) b { P with off:=O,wanted:=q.wanted||a.wanted } c l Fc Fl/\ic w' g1 { a with drop:=D } s/\Fr (only b) w w'/\wx.heap.size<=w'.heap.size):=by
    intro v ev;refine tk (kb:=P.kb) zX hx.aG 21 (by rw[rO];decide) rfl fun w4 dm f4 s4=>?_;rw[aaa { P with off:=O } c l v,ev] at dm
    exact⟨hx.put (q:={ P with off:=O,wanted:=q.wanted||a.wanted }) f4 dm rfl rfl rfl rfl,f4.ag ax aA,fx.trans f4,by omega⟩
   refine hx.dP zX 21 (ck:=.bool) (x:=P.wanted) rfl (aa.by (fun hw=>?_) (fun hw=>?_))
   ·exact put true (by rw[<- xh.2.1];have hw:P.wanted=true:=hw;rw[hw];rfl)
   ·exact ax.ld 20 (ck:=.bool) (x:=a.wanted) (u7 _ s).2.2.2.1 (put a.wanted (by rw[<- xh.2.1];have hw:P.wanted=false:=hw;rw[hw];rfl))
  rintro _ _ w4 ⟨h4,a4,f14,z4⟩;have put:∀ (v:Bool),v=((q.dJ||a.dJ)&&!a.calm)->ay ((⟨b,0,none⟩:Addr).add 38) (.bool v) w4 (fun w'=>(Value.int .i64 0=.int .i64 (q.ended a,(0:Int)).2/\dE w' (fun k=>F k\/cq w w' k) b (q.ended a,(0:Int)).1/\Fr (only b) w w')):=by
   intro v ev;refine tk (kb:=P.kb) zX h4.aG 22 (by rw[rO];decide) rfl fun w5 dr f5 s5=>?_;rw[aab { P with off:=O,wanted:=q.wanted||a.wanted } c l v,ev] at dr
   have h5:=h4.put (q:={ P with off:=O,wanted:=q.wanted||a.wanted,dJ:=(q.dJ||a.dJ)&&!a.calm }) f5 dr rfl rfl rfl rfl
   refine⟨rfl,?_,f14.trans f5⟩;show dE w5 _ b (q.ended a);rw[eE];exact(show dE w5 _ b _ from⟨c,l,Fc,Fl,h5⟩).mono fun k U=>U.imp_right fun t=>⟨by have:=t.1;omega,by have:=t.2;omega⟩
  have xi:=u7 { a with drop:=D } s
  refine h4.dP zX 22 (ck:=.bool) (x:=P.dJ) rfl (aa.by (fun hq=>?_) (fun hq=>?_))
  ·have hq:P.dJ=true:=hq
   exact a4.ld 22 (ck:=.bool) (x:=a.calm) xi.2.2.2.2.2 (put (!a.calm) (by rw[<- xh.2.2,hq];rfl))
  have hq:P.dJ=false:=hq;refine a4.ld 21 (ck:=.bool) (x:=a.dJ) xi.2.2.2.2.1 (aa.by (fun hu=>?_) (fun hu=>?_))
  ·have hu:a.dJ=true:=hu
   exact a4.ld 22 (ck:=.bool) (x:=a.calm) xi.2.2.2.2.2 (put (!a.calm) (by rw[<- xh.2.2,hq,hu];rfl))
  ·have hu:a.dJ=false:=hu
   exact put false (by rw[<- xh.2.2,hq,hu];rfl)
 refine a3.ld 19 (ck:=.bool) (x:=D) (u7 _ s).2.2.1 (aa.by (fun hD=>?_) (fun hD=>?_))
 ·have hD:D=true:=hD
  obtain⟨c,l,Fc,Fl,h3⟩:=h3;refine CB (kb:=P.kb) zX h3.aG 3 (by rw[rO];show 3+9<=24;decide) rfl fun w4 dm f4 s4=>?_;have e9:=Pb P c l bp false;rw[show[Value.int .i64 bp.e.1,.string bp.e.2.1,.string bp.e.2.2.1,.string bp.e.2.2.2.1,.string bp.e.2.2.2.2.1,.int .i64 bp.e.2.2.2.2.2.1,.int .i64 bp.e.2.2.2.2.2.2.1,bp.e.2.2.2.2.2.2.2.1,.bool false]=[.int .i64 0,.string (⟨#[]⟩:ByteArray),.string (⟨#[]⟩:ByteArray),.string (⟨#[]⟩:ByteArray),.string (⟨#[]⟩:ByteArray),.int .i64 0,.int .i64 0,.nilIface,.bool false] from rfl] at e9;rw[e9] at dm;have h4:=h3.put (q:={ P with off:=(bp,false) }) f4 dm rfl rfl rfl rfl
  refine tail (bp,false) (by rw[if_pos hD]) ((show dE w4 _ b _ from⟨c,l,Fc,Fl,h4⟩).mono fun k U=>U.imp_right fun t=>⟨t.1,by have:=t.2;omega⟩) (f4.ag a3 aA) (f13.trans f4)
 ·have hD:D=false:=hD
  refine tail q.off (by rw[hD];rfl) ?_ a3 f13;have:({ P with off:=q.off }:PeerM)=P:=by rw[<- xh.1]
  rw[this];exact h3
theorem aae {w:World}{F:Nat->Prop}{b:Nat}{p:PeerM}(h:dE w F b p)(ho:dK p):Ret Tryz.prog 26 #[.pointer (some ⟨b,0,none⟩)] w fun r w'=>∃ c,r=.pointer (some ⟨c,0,none⟩)/\j2 w' (cq w w') c p.kb p.es p.hs/\Fr none1 w w':=by
 obtain⟨c,l,Fc,Fl,h⟩:=h;have U:=ho.kb;have:=ho.num;have:=ho.hs;refine c26 _ w _ ?_;refine h.dP U 1 (ck:=.ptr) (x:=some ⟨c,0,none⟩) rfl ?_;refine ab.of (OG U h.ch (by omega) (by omega)) ?_;rintro _ w1 ⟨c',rfl,hc,f1⟩;exact⟨some ⟨c',0,none⟩,rfl,c',rfl,hc,f1⟩
theorem aaf {kb:List UInt8}(U:kb.length=16)(side:Int)(w:World):Ret Tryz.prog 40 #[.agg (cK kb).toArray,.int .i64 side] w fun r w'=>∃ b,r=.pointer (some ⟨b,0,none⟩)/\dE w' (cq w w') b (lT kb side)/\Fr none1 w w':=by
 refine c40 (cK kb) side w _ ?_;unfold C40;refine aq.of fun g1 w1 di ar f1 _=>?_;have body:∀ (n:Int),n=(lT kb side).side->∀ (w2:World),Fr none1 w1 w2->∀ {w3 w4 w5:World} {c l:Nat},j2 w3 (fun k=>w2.heap.size<=k/\k<w3.heap.size) c kb [] [0]->Fr none1 w2 w3->dL w4 (cq w3 w4) l wo->Fr none1 w3 w4->Fr none1 w4 w5->w4.heap.size<w5.heap.size ->
   w5.heap[w4.heap.size]? = some (.cells (cK kb++j3 (lT kb side) c l).toArray 138 (0,0))->dE w5 (cq w w5) w4.heap.size (lT kb side)/\Fr none1 w w5:=by
  intro n hn w2 f2 w3 w4 w5 c l hc f3 hl f4 f5 z5 hb;have z1:=f1.size;have z2:=f2.size;have z3:=f3.size;have z4:=f4.size;exact⟨⟨c,l,_,_,hb,(hc.af f4).af f5,hl.af f5,fun k U=>⟨⟨by have:=U.1;omega,by have:=U.2;omega⟩,by have:=U.2;omega⟩,fun k U=>⟨⟨by have:=U.1;omega,by have:=U.2;omega⟩,by have:=U.2;omega⟩,⟨by omega,z5⟩⟩,(((f1.trans f2).trans f3).trans f4).trans f5⟩
 refine aa.ne (fun hs=>?_) (fun hs=>?_)
 all_goals
  refine aH.of fun w2 _ f2=>bb.all (aE.all (eF.of (f2.af ar) (by rw[kF,U]) (aE.all (eF.of (f2.af ar) (by rw[kF,U]) ?_))));refine ab.of (Zn U w2) ?_;rintro _ w3 ⟨c,rfl,hc,f3⟩;refine⟨some ⟨c,0,none⟩,rfl,ak.of f3 ?_⟩;refine ab.of (Zq w3) ?_;rintro _ w4 ⟨l,rfl,hl,f4⟩;refine⟨some ⟨l,0,none⟩,rfl,?_⟩
  try refine ak.of f4 ?_
  refine Cp U fun y hy=>aq.of fun g w5 hg hb f5 yR=>?_
  try refine ak.of f5 ?_
  refine⟨g,rfl,?_⟩;subst hg
 ·have e:(lT kb side).side=1:=by unfold lT;rw[if_neg hs]
  refine body 1 e.symm w2 f2 hc f3 hl f4 f5 (by omega) ?_;have hb:w5.heap[w4.heap.size]? = some (.cells (Cs.vals rK y++([Value.int .i64 1,.pointer (some ⟨c,0,none⟩),.pointer (some ⟨l,0,none⟩)]++(gP bp.e++([Value.bool false]++(gP bp.e++[Value.bool false,.bool false,.bool false,.int .i64 0]))))).toArray 138 (0,0)):=hb;rw[hy] at hb;rw[hb];unfold j3;rw[e];rfl
 ·have hs:side=0:=hs
  have e:(lT kb side).side=side:=by unfold lT;rw[if_pos hs,hs]
  refine body side e.symm w2 f2 hc f3 hl f4 f5 (by omega) ?_;have hb:w5.heap[w4.heap.size]? = some (.cells (Cs.vals rK y++([Value.int .i64 side,.pointer (some ⟨c,0,none⟩),.pointer (some ⟨l,0,none⟩)]++(gP bp.e++([Value.bool false]++(gP bp.e++[Value.bool false,.bool false,.bool false,.int .i64 0]))))).toArray 138 (0,0)):=hb;rw[hy] at hb;rw[hb];unfold j3;rw[e];rfl
def fH (N:Nat)(w:World):Prop:=∃ w0,TabW w0/\w0.heap.size=N/\Fr none1 w0 w
theorem fH.nh {N:Nat}{w:World}(h:fH N w):TabW w:=by obtain⟨w0,t,_,f⟩:=h;exact t.af f
theorem fH.of {w:World}(h:TabW w):fH w.heap.size w:=⟨w,h,rfl,Fr.refl _ _⟩
theorem fH.ag {N:Nat}{w w':World}(h:fH N w){T:Nat->Prop}(f:Fr T w w')(hT:∀ k,T k->N<=k):fH N w':=by
 obtain⟨w0,t,e,f0⟩:=h;exact⟨w0,t,e,f0.comp f fun k U q=>by have:=hT k q;omega⟩
theorem fH.af {N:Nat}{w w':World}(h:fH N w)(f:Fr none1 w w'):fH N w':=h.ag f fun _ t=>t.elim
theorem fH.le {N:Nat}{w:World}(h:fH N w):N<=w.heap.size:=by obtain⟨w0,_,e,f⟩:=h;have:=f.size;omega
theorem fH.fr {N:Nat}{w w':World}(h:fH N w):∃ w0,w0.heap.size=N/\Fr none1 w0 w:=by obtain⟨w0,_,e,f⟩:=h;exact⟨w0,e,f⟩
def u9 (n:NodeM)(j pb wb:Nat):List Value:=[.int .i64 n.side,.pointer (some ⟨j,0,none⟩),.pointer (some ⟨pb,0,none⟩),.pointer (some ⟨wb,0,none⟩),.int .i64 n.aV,.int .i64 n.number]
structure fI (N:Nat)(w:World)(F:Nat->Prop)(b:Nat)(n:NodeM)(fb fg j pb wb:Nat)(S Fp:Nat->Prop):Prop where
 aG:w.heap[b]? = some (.cells (cK n.kb++u9 n j pb wb).toArray 104 (0,0))
 jr:ib w S j fb fg n.j.fs n.j.d n.j.rs
 pr:dE w Fp pb n.p
 wr:rv w wb n.w.e n.w.h n.w.s
 own:F b/\F wb/\F j/\(∀ k,S k->F k)/\(∀ k,Fp k->F k)
 apart:b≠wb/\b≠j/\wb≠j/\¬ S b/\¬ S wb/\¬ Fp b/\¬ Fp wb/\¬ Fp j/\(∀ k,S k->¬ Fp k)
 file:¬ F fb/\¬ F fg
 lt:∀ k,F k->k<w.heap.size
 lo:∀ k,F k->N<=k
 va:N<=fb
def gR (N:Nat)(w:World)(F:Nat->Prop)(b:Nat)(n:NodeM)(fb fg:Nat):Prop:=∃ j pb wb S Fp,fI N w F b n fb fg j pb wb S Fp
def rP (F:Nat->Prop)(fb:Nat):Nat->Prop:=fun k=>F k\/k=fb
theorem fI.ag {N:Nat}{w w':World}{F T:Nat->Prop}{b:Nat}{n:NodeM}{fb fg j pb wb:Nat}{S Fp:Nat->Prop}(h:fI N w F b n fb fg j pb wb S Fp)(f:Fr T w w')(hT:∀ k,F k->¬ T k)(hb:¬ T fb)(hg:¬ T fg):fI N w' F b n fb fg j pb wb S Fp:=
 ⟨f.ag h.aG (hT b h.own.1),h.jr.ag f (hT j h.own.2.2.1) hb hg (fun k U=>hT k (h.own.2.2.2.1 k U)),h.pr.ag f (fun k U=>hT k (h.own.2.2.2.2 k U)),h.wr.ag f (hT wb h.own.2.1),h.own,h.apart,h.file,fun k U=>Nat.lt_of_lt_of_le (h.lt k U) f.size,h.lo,h.va⟩
theorem fI.af {N:Nat}{w w':World}{F:Nat->Prop}{b:Nat}{n:NodeM}{fb fg j pb wb:Nat}{S Fp:Nat->Prop}(h:fI N w F b n fb fg j pb wb S Fp)(f:Fr none1 w w'):fI N w' F b n fb fg j pb wb S Fp:=h.ag f (fun _ _ t=>t) (fun t=>t) (fun t=>t)
theorem gR.ag {N:Nat}{w w':World}{F T:Nat->Prop}{b:Nat}{n:NodeM}{fb fg:Nat}(h:gR N w F b n fb fg)(f:Fr T w w')(hT:∀ k,F k->¬ T k)(hb:¬ T fb)(hg:¬ T fg):gR N w' F b n fb fg:=by
 obtain⟨j,pb,wb,S,Fp,h⟩:=h;exact⟨j,pb,wb,S,Fp,h.ag f hT hb hg⟩
theorem gR.af {N:Nat}{w w':World}{F:Nat->Prop}{b:Nat}{n:NodeM}{fb fg:Nat}(h:gR N w F b n fb fg)(f:Fr none1 w w'):gR N w' F b n fb fg:=h.ag f (fun _ _ t=>t) (fun t=>t) (fun t=>t)
theorem gR.lt {N:Nat}{w:World}{F:Nat->Prop}{b:Nat}{n:NodeM}{fb fg:Nat}(h:gR N w F b n fb fg):(∀ k,F k->k<w.heap.size)/\fb<w.heap.size/\fg<w.heap.size/\F b/\¬ F fb/\¬ F fg:=by
 obtain⟨j,pb,wb,S,Fp,h⟩:=h;exact⟨h.lt,h.jr.file.lt,h.jr.file.pB,h.own.1,h.file.1,h.file.2⟩
theorem gR.lo {N:Nat}{w:World}{F:Nat->Prop}{b:Nat}{n:NodeM}{fb fg:Nat}(h:gR N w F b n fb fg):(∀ k,F k->N<=k)/\N<=fb:=by
 obtain⟨j,pb,wb,S,Fp,h⟩:=h;exact⟨h.lo,h.va⟩
theorem gR.file {N:Nat}{w:World}{F:Nat->Prop}{b:Nat}{n:NodeM}{fb fg:Nat}(h:gR N w F b n fb fg):gn w fb fg n.j.fs:=by
 obtain⟨j,pb,wb,S,Fp,h⟩:=h;exact h.jr.file
theorem fI.dP {N:Nat}{w:World}{F:Nat->Prop}{b:Nat}{n:NodeM}{fb fg j pb wb:Nat}{S Fp:Nat->Prop}(h:fI N w F b n fb fg j pb wb S Fp)(U:n.kb.length=16)(i:Nat){ck:Ck}{x:ck.C}(hx:(u9 n j pb wb)[i]? = some (ck.val x)){K:ck.C->Prop}(k:K x):ae ck ⟨b,16+i,none⟩ w K:=
 ae.of h.aG (by rw[H6 U];exact hx) k
theorem fI.key {N:Nat}{w:World}{F:Nat->Prop}{b:Nat}{n:NodeM}{fb fg j pb wb:Nat}{S Fp:Nat->Prop}(h:fI N w F b n fb fg j pb wb S Fp)(U:n.kb.length=16){K:List Value->Prop}(k:K (cK n.kb)):eF 16 ((⟨b,0,none⟩:Addr).add 0) w K:=by
 refine⟨cK n.kb,by rw[kF,U],?_,k⟩;rw[dw];refine nV h.aG _ 0 fun j hj=>?_;rw[List.getElem?_toArray,Nat.zero_add,List.getElem?_append_left hj]
structure eS (N:Nat)(w:World)(F:Nat->Prop)(b:Nat)(n':NodeM)(fb fg:Nat)(w':World)(F':Nat->Prop)(dF:Nat):Prop where
 r:gR N w' F' b n' fb dF
 sub:∀ k,F' k->F k\/cq w w' k
 g:dF=fb\/dF=fg\/cq w w' dF
 f:Fr (rP F fb) w w'
theorem eS.refl {N:Nat}{w:World}{F:Nat->Prop}{b:Nat}{n:NodeM}{fb fg:Nat}(h:gR N w F b n fb fg):eS N w F b n fb fg w F fg:=⟨h,fun _ t=>.inl t,.inr (.inl rfl),Fr.refl _ _⟩
theorem eS.dp {N:Nat}{w w1 w2:World}{F F':Nat->Prop}{b:Nat}{n':NodeM}{fb fg dF:Nat}(h:eS N w F b n' fb fg w1 F' dF)(f:Fr none1 w1 w2):eS N w F b n' fb fg w2 F' dF:=
 ⟨h.r.af f,fun k U=>(h.sub k U).imp_right fun t=>⟨t.1,Nat.lt_of_lt_of_le t.2 f.size⟩,h.g.imp_right fun t=>t.imp_right fun t=>⟨t.1,Nat.lt_of_lt_of_le t.2 f.size⟩,h.f.dp f⟩
theorem eS.eG {N:Nat}{w w1 w2:World}{F F':Nat->Prop}{b:Nat}{n':NodeM}{fb fg dF:Nat}(f:Fr none1 w w1)(h:eS N w1 F b n' fb fg w2 F' dF):eS N w F b n' fb fg w2 F' dF:=
 ⟨h.r,fun k U=>(h.sub k U).imp_right fun t=>⟨Nat.le_trans f.size t.1,t.2⟩,h.g.imp_right fun t=>t.imp_right fun t=>⟨Nat.le_trans f.size t.1,t.2⟩,f.eG h.f⟩
theorem eS.trans {N:Nat}{w w1 w2:World}{F F1 F2:Nat->Prop}{b:Nat}{n1 n2:NodeM}{fb fg g1 g2:Nat}(h:eS N w F b n1 fb fg w1 F1 g1)(k:eS N w1 F1 b n2 fb g1 w2 F2 g2):eS N w F b n2 fb fg w2 F2 g2:=by
 have z1:=h.f.size;have z2:=k.f.size;refine⟨k.r,fun i hi=>?_,?_,h.f.comp k.f fun i hi t=>?_⟩
 ·rcases k.sub i hi with t | t
  ·exact(h.sub i t).imp_right fun t=>⟨t.1,by have:=t.2;omega⟩
  ·exact .inr ⟨by have:=t.1;omega,t.2⟩
 ·rcases k.g with t | t | t
  ·exact .inl t
  ·rw[t];exact h.g.imp_right fun t=>t.imp_right fun t=>⟨t.1,by have:=t.2;omega⟩
  ·exact .inr (.inr ⟨by have:=t.1;omega,t.2⟩)
 ·rcases t with t | t
  ·rcases h.sub i t with t | t
   ·exact .inl t
   ·have:=t.1;omega
  ·exact .inr t
theorem eS.nh {N:Nat}{w w':World}{F F':Nat->Prop}{b:Nat}{n n':NodeM}{fb fg dF:Nat}(h0:gR N w F b n fb fg)(h:eS N w F b n' fb fg w' F' dF)(t:fH N w):fH N w':=
 t.ag h.f fun k U=>by
  obtain⟨a,b⟩:=h0.lo
  rcases U with t | t
  ·exact a k t
  ·omega
theorem fI.Pd {N:Nat}{w w':World}{F:Nat->Prop}{b:Nat}{n:NodeM}{fb fg j pb wb:Nat}{S Fp:Nat->Prop}(h:fI N w F b n fb fg j pb wb S Fp){J:j1}(t:ML w S j fb fg J.fs J.d J.rs w'):
  ∃ F' dF S',fI N w' F' b { n with j:=J } fb dF j pb wb S' Fp/\eS N w F b { n with j:=J } fb fg w' F' dF:=by
 obtain⟨f,S',g',mU,ry,hj⟩:=t;obtain⟨o1,o2,o3,o4,o5⟩:=h.own;obtain⟨a1,a2,a3,a4,a5,a6,a7,a8,a9⟩:=h.apart;have zb:=h.lt b o1;have zw:=h.lt wb o2;have zj:=h.lt j o3;have zf:=h.jr.file.lt;have zg:=h.jr.file.pB;have z:=f.size;have hl:=h.jr.slt;have tin:∀ k,sT S j fb k->rP F fb k:=fun k U=>by
  rcases U with t | t | t
  ·rw[t];exact .inl o3
  ·exact .inr t
  ·exact .inl (o4 k t)
 have uy:∀ k,S' k->k<w'.heap.size:=hj.slt;have sub:∀ k,(F k\/S' k)->F k\/cq w w' k:=fun k U=>by
  rcases U with t | t
  ·exact .inl t
  ·rcases mU k t with q | q
   ·exact .inl (o4 k q)
   ·exact .inr ⟨q,uy k t⟩
 have zu:g'=fb\/g'=fg\/cq w w' g':=ry.imp_right fun t=>t.imp_right fun t=>⟨t,hj.file.pB⟩;have main:fI N w' (fun k=>F k\/S' k) b { n with j:=J } fb g' j pb wb S' Fp:=by
  refine⟨f.ag h.aG ?_,hj,h.pr.ag f ?_,h.wr.ag f ?_,⟨.inl o1,.inl o2,.inl o3,fun k U=>.inr U,fun k U=>.inl (o5 k U)⟩,?_,?_,?_,?_,h.va⟩
  ·rintro(t | t | t)
   ·exact a2 t
   ·rw[t] at o1;exact h.file.1 o1
   ·exact a4 t
  ·intro k U
   rintro(t | t | t)
   ·rw[t] at U;exact a8 U
   ·rw[t] at U;exact h.file.1 (o5 _ U)
   ·exact a9 k t U
  ·rintro(t | t | t)
   ·exact a3 t
   ·rw[t] at o2;exact h.file.1 o2
   ·exact a5 t
  ·refine⟨a1,a2,a3,fun t=>?_,fun t=>?_,a6,a7,a8,fun k U q=>?_⟩
   ·rcases mU b t with q | q
    ·exact a4 q
    ·omega
   ·rcases mU wb t with q | q
    ·exact a5 q
    ·omega
   ·rcases mU k U with r | r
    ·exact a9 k r q
    ·have:=h.lt k (o5 k q);omega
  ·refine⟨fun t=>?_,fun t=>?_⟩
   ·rcases t with t | t
    ·exact h.file.1 t
    ·exact(hj.off fb t).2.1 rfl
   ·rcases t with t | t
    ·rcases ry with q | q | q
     ·rw[q] at t;exact h.file.1 t
     ·rw[q] at t;exact h.file.2 t
     ·have:=h.lt g' t;omega
    ·exact(hj.off g' t).2.2 rfl
  ·intro k U
   rcases U with t | t
   ·have:=h.lt k t;omega
   ·exact uy k t
  ·intro k U
   rcases sub k U with t | t
   ·exact h.lo k t
   ·have:=t.1;have:=h.va;omega
 exact⟨_,g',S',main,⟨_,_,_,_,_,main⟩,sub,zu,f.mono fun k _ t=>tin k t⟩
theorem fI.CC {N:Nat}{w w':World}{F:Nat->Prop}{b:Nat}{n:NodeM}{fb fg j pb wb:Nat}{S Fp:Nat->Prop}(h:fI N w F b n fb fg j pb wb S Fp){p:PeerM}(hp:dE w' (fun k=>Fp k\/cq w w' k) pb p)(f:Fr (only pb) w w'):
  ∃ F',fI N w' F' b { n with p:=p } fb fg j pb wb S (fun k=>Fp k\/cq w w' k)/\eS N w F b { n with p:=p } fb fg w' F' fg:=by
 obtain⟨o1,o2,o3,o4,o5⟩:=h.own;obtain⟨a1,a2,a3,a4,a5,a6,a7,a8,a9⟩:=h.apart;have lS:Fp pb:=by obtain⟨c,l,Fc,Fl,q⟩:=h.pr;exact q.mem
 have zb:=h.lt b o1;have zw:=h.lt wb o2;have zj:=h.lt j o3;have zf:=h.jr.file.lt;have zg:=h.jr.file.pB;have z:=f.size;have main:fI N w' (fun k=>F k\/cq w w' k) b { n with p:=p } fb fg j pb wb S (fun k=>Fp k\/cq w w' k):=by
  refine⟨f.ag h.aG ?_,h.jr.ag f ?_ ?_ ?_ ?_,hp,h.wr.ag f ?_,⟨.inl o1,.inl o2,.inl o3,fun k U=>.inl (o4 k U),fun k U=>U.imp_left (o5 k)⟩,?_,?_,?_,?_,h.va⟩
  ·intro t;have t:b=pb:=t;rw[<- t] at lS;exact a6 lS
  ·intro t;have t:j=pb:=t;rw[<- t] at lS;exact a8 lS
  ·intro t;have t:fb=pb:=t;rw[<- t] at lS;exact h.file.1 (o5 _ lS)
  ·intro t;have t:fg=pb:=t;rw[<- t] at lS;exact h.file.2 (o5 _ lS)
  ·intro k U t;have t:k=pb:=t;rw[t] at U;exact a9 _ U lS
  ·intro t;have t:wb=pb:=t;rw[<- t] at lS;exact a7 lS
  ·refine⟨a1,a2,a3,a4,a5,fun t=>?_,fun t=>?_,fun t=>?_,fun k U t=>?_⟩
   ·rcases t with t | t
    ·exact a6 t
    ·have:=t.1;omega
   ·rcases t with t | t
    ·exact a7 t
    ·have:=t.1;omega
   ·rcases t with t | t
    ·exact a8 t
    ·have:=t.1;omega
   ·rcases t with t | t
    ·exact a9 k U t
    ·have:=t.1;have:=h.lt k (o4 k U);omega
  ·refine⟨fun t=>?_,fun t=>?_⟩
   ·rcases t with t | t
    ·exact h.file.1 t
    ·have:=t.1;omega
   ·rcases t with t | t
    ·exact h.file.2 t
    ·have:=t.1;omega
  ·intro k U
   rcases U with t | t
   ·have:=h.lt k t;omega
   ·exact t.2
  ·intro k U
   rcases U with t | t
   ·exact h.lo k t
   ·have:=t.1;have:=h.va;omega
 exact⟨_,main,⟨_,_,_,_,_,main⟩,fun k U=>U,.inr (.inl rfl),f.mono fun k _ t=>.inl (by have t:k=pb:=t;rw[t];exact o5 _ lS)⟩
theorem fI.cell {N:Nat}{w w':World}{F:Nat->Prop}{b:Nat}{n n':NodeM}{fb fg j pb wb:Nat}{S Fp:Nat->Prop}(h:fI N w F b n fb fg j pb wb S Fp)(f:Fr (only b) w w')(hb:w'.heap[b]? = some (.cells (cK n'.kb++u9 n' j pb wb).toArray 104 (0,0)))(e1:n'.j=n.j)(e2:n'.p=n.p)(e3:n'.w=n.w):
  fI N w' F b n' fb fg j pb wb S Fp/\eS N w F b n' fb fg w' F fg:=by
 obtain⟨o1,o2,o3,o4,o5⟩:=h.own;obtain⟨a1,a2,a3,a4,a5,a6,a7,a8,a9⟩:=h.apart;have main:fI N w' F b n' fb fg j pb wb S Fp:=by
  refine⟨hb,?_,?_,?_,h.own,h.apart,h.file,fun k U=>Nat.lt_of_lt_of_le (h.lt k U) f.size,h.lo,h.va⟩
  ·rw[e1]
   refine h.jr.ag f (fun t=>a2 (Eq.symm t)) ?_ ?_ ?_
   ·intro t;have t:fb=b:=t;rw[<- t] at o1;exact h.file.1 o1
   ·intro t;have t:fg=b:=t;rw[<- t] at o1;exact h.file.2 o1
   ·intro k U t;have t:k=b:=t;rw[t] at U;exact a4 U
  ·rw[e2]
   refine h.pr.ag f fun k U t=>?_;have t:k=b:=t;rw[t] at U;exact a6 U
  ·rw[e3]
   exact h.wr.ag f (fun t=>a1 (Eq.symm t))
 exact⟨main,⟨_,_,_,_,_,main⟩,fun k U=>.inl U,.inr (.inl rfl),f.mono fun k _ t=>.inl (by have t:k=b:=t;rw[t];exact o1)⟩
def C10 (p0:Addr)(p1:List Value)(p2:Int)(w:World)(K:Value->World->Prop):Prop:=
 aq (.cells p1.toArray 24) w (fun g1 w2=>bQ (Bool×Unit) (fun J3=>aa (p2 != 0)
 (J3 ((p2 != 1),()) w2)
 (J3 (false,()) w2))
 (fun _ s4 w5=>aa s4.1
 (K (.tuple #[.pointer none,.int .i64 1]) w5)
 (ab Tryz.prog 39 #[.pointer (some p0)] w5 (.aP [.one .ptr,.one (.int .i64)]) (fun(x6:Option Addr×Int×Unit) w7=>aa (x6.2.1 != 0)
 (K (.tuple #[.pointer none,.int .i64 x6.2.1]) w7)
 (aH w7 (fun w8=>bb (fun S9=>aE S9 (ad g1) (eF 16 (ad g1) w8 (fun aS=>aE S9 (ad g1) (eF 16 (ad g1) w8 (fun aZ=>ab Tryz.prog 40 #[.agg aZ.toArray,.int .i64 p2] w8 (.v (.one .ptr)) (fun(bw:Option Addr) aW=>ak S9 w8 aW (ab Tryz.prog 41 #[] aW (.v (.one .ptr)) (fun(bn:Option Addr) bL=>ak S9 aW bL (tw [.int .u8,.int .u8,.int .u8,.int .u8,.int .u8,.int .u8,.int .u8,.int .u8,.int .u8,.int .u8,.int .u8,.int .u8,.int .u8,.int .u8,.int .u8,.int .u8] aS (fun(aT:Int×Int×Int×Int×Int×Int×Int×Int×Int×Int×Int×Int×Int×Int×Int×Int×Unit)=>aq (.cells #[.int .u8 aT.1,.int .u8 aT.2.1,.int .u8 aT.2.2.1,.int .u8 aT.2.2.2.1,.int .u8 aT.2.2.2.2.1,.int .u8 aT.2.2.2.2.2.1,.int .u8 aT.2.2.2.2.2.2.1,.int .u8 aT.2.2.2.2.2.2.2.1,.int .u8 aT.2.2.2.2.2.2.2.2.1,.int .u8 aT.2.2.2.2.2.2.2.2.2.1,.int .u8 aT.2.2.2.2.2.2.2.2.2.2.1,.int .u8 aT.2.2.2.2.2.2.2.2.2.2.2.1,.int .u8 aT.2.2.2.2.2.2.2.2.2.2.2.2.1,.int .u8 aT.2.2.2.2.2.2.2.2.2.2.2.2.2.1,.int .u8 aT.2.2.2.2.2.2.2.2.2.2.2.2.2.2.1,.int .u8 aT.2.2.2.2.2.2.2.2.2.2.2.2.2.2.2.1,.int .i64 p2,.pointer x6.1,.pointer bw,.pointer bn,.int .i64 0,.int .i64 0] 104) bL (fun g17 bx=>ak S9 bL bx (ab Tryz.prog 42 #[.pointer x6.1] bx (.v (.one .ah)) (fun(bt:ao) bz=>bj (Int×Unit) (fun _ Ie bA aag=>aa (decide (Ie.1<(bt.2.1:Int)))
 (bK bt.1 bt.2.1 Ie.1 1 (fun a24=>ae .ah a24 bA (fun(bG:ao)=>ab Tryz.prog 43 #[.pointer (some (ad g17)),.slice bG.1 bG.2.1 bG.2.2] bA (.v (.one .bool)) (fun(dk:Bool) eM=>aa (!dk)
 (K (.tuple #[.pointer none,.int .i64 12]) eM)
 (aag (IntKind.i64.wrap (Ie.1+1),()) eM)))))
 (aw Tryz.prog (Instr.buildSlice 22 1 #[(0,.int .u8 1)]) bA (.v (.one .ah)) (fun(eX:ao) eg=>ab Tryz.prog 44 #[.pointer x6.1,.slice eX.1 eX.2.1 eX.2.2] eg (.v (.one (.int .i64))) (fun(dX:Int) eK=>aa (dX != 0)
 (K (.tuple #[.pointer none,.int .i64 dX]) eK)
 (ae (.int .i64) ((ad g17).add 20) eK (fun(dS:Int)=>ay ((ad g17).add 20) (.int .i64 (IntKind.i64.wrap (dS+1))) eK (fun dy=>K (.tuple #[.pointer (some (ad g17)),.int .i64 0]) dy)))))))
 (0,()) bz)))))))))))))))))))
def pl10:aB:=(.seq .auto (.seq (.join [(19,.one .bool)] .auto .auto) (.seq .auto (.seq .auto (.seq (.held (.soft 0 (.soft 1 (.soft 2 (.soft 3 (.soft 4 (.pick 5 (.pick 6 (.soft 7 (.pick 8 (.soft 9 .done) .stop)) .stop) .stop))))))) (.seq (.seq .auto (.block (.loop [(40,.one (.int .i64))] .auto))) .auto))))))
theorem c10 (p0:Addr)(p1:List Value)(p2:Int)(w:World)(K:Value->World->Prop)(h:C10 p0 p1 p2 w K):Ret Tryz.prog 10 #[.pointer (some p0),.agg p1.toArray,.int .i64 p2] w K:=aC (by kernel_rfl) Tryz.func10 (p:=pl10) (Eq.mpr (by kernel_rfl) h)
def C43 (p0:Addr)(p1:Option Addr)(ct cO:Nat)(w:World)(K:Value->World->Prop):Prop:=
 aa ((ct:Int)==0)
 (K (.bool false) w)
 (bK p1 ct 0 1 (fun a1=>ae (.int .u8) a1 w (fun(x2:Int)=>aa (x2==1)
 (ae (.int .i64) (p0.add 20) w (fun(x3:Int)=>ay (p0.add 20) (.int .i64 (IntKind.i64.wrap (x3+1))) w (fun w4=>K (.bool ((ct:Int)==1)) w4)))
 (aa (x2==2)
 (eu p1 cO 1 ct cO 1 (fun a5 l6 c7=>ab Tryz.prog 91 #[.slice a5 l6 c7] w (.aP [.agg nX,.one (.int .i64)]) (fun(x8:iY×Int×Unit) w9=>aq (.cells #[.int .i64 0,.string (⟨#[]⟩:ByteArray),.string (⟨#[]⟩:ByteArray),.string (⟨#[]⟩:ByteArray),.string (⟨#[]⟩:ByteArray),.int .i64 0,.int .i64 0,.nilIface,.bool false] 110) w9 (fun g10 aR=>av (ad g10) [.int .i64 x8.1.1,.string x8.1.2.1,.string x8.1.2.2.1,.string x8.1.2.2.2.1,.string x8.1.2.2.2.2.1,.int .i64 x8.1.2.2.2.2.2.1,.int .i64 x8.1.2.2.2.2.2.2.1,x8.1.2.2.2.2.2.2.2.1,.bool x8.1.2.2.2.2.2.2.2.2.1] aR (fun aO=>aH aO (fun aW=>aa (x8.2.1==0)
 (ae .ptr (p0.add 18) aW (fun(bn:Option Addr)=>az nX (ad g10) aW (fun(bm:iY)=>ab Tryz.prog 92 #[.pointer bn,.agg #[.bool true,.bool false,.int .i64 bm.1,.string bm.2.1,.string bm.2.2.1,.string bm.2.2.2.1,.string bm.2.2.2.2.1,.int .i64 bm.2.2.2.2.2.1,.int .i64 bm.2.2.2.2.2.2.1,bm.2.2.2.2.2.2.2.1,.bool bm.2.2.2.2.2.2.2.2.1,.int .i64 0,.string (⟨#[]⟩:ByteArray),.string (⟨#[]⟩:ByteArray),.string (⟨#[]⟩:ByteArray),.string (⟨#[]⟩:ByteArray),.int .i64 0,.int .i64 0,.nilIface,.bool false,.bool false,.bool false,.bool false,.slice none 0 0]] aW (.v (.one (.int .i64))) (fun(aT:Int) cD=>K (.bool (aT==0)) cD))))
 (K (.bool false) aW)))))))
 (aa (x2==3)
 (eu p1 cO 1 ct cO 1 (fun uv Fa c20=>ab Tryz.prog 93 #[.slice uv Fa c20] w (.aP [.agg dR,.one (.int .i64)]) (fun(b9:bH×Int×Unit) bA=>aq (.cells #[.int .i64 0,.string (⟨#[]⟩:ByteArray),.string (⟨#[]⟩:ByteArray),.string (⟨#[]⟩:ByteArray),.string (⟨#[]⟩:ByteArray),.int .i64 0,.int .i64 0,.nilIface] 36) bA (fun g23 bU=>av (ad g23) [.int .i64 b9.1.1,.string b9.1.2.1,.string b9.1.2.2.1,.string b9.1.2.2.2.1,.string b9.1.2.2.2.2.1,.int .i64 b9.1.2.2.2.2.2.1,.int .i64 b9.1.2.2.2.2.2.2.1,b9.1.2.2.2.2.2.2.2.1] bU (fun dn=>aH dn (fun bZ=>bb (fun CD=>aE CD (p0.add 18) (ae .ptr (p0.add 18) bZ (fun(eX:Option Addr)=>aE CD (p0.add 16) (ae (.int .i64) (p0.add 16) bZ (fun(cH:Int)=>ab Tryz.prog 26 #[.pointer eX] bZ (.v (.one .ptr)) (fun(dX:Option Addr) eK=>ak CD bZ eK (ab Tryz.prog 27 #[.pointer dX] eK (.v (.one (.int .i64))) (fun(dS:Int) dy=>ak CD eK dy (tu 2 (aH dy (fun fT=>aa (b9.2.1==0)
 (aa ((Int.tmod dS 2)==cH)
 (ae .ptr (p0.add 18) fT (fun(de:Option Addr)=>az dR (ad g23) fT (fun(dO:bH)=>ab Tryz.prog 92 #[.pointer de,.agg #[.bool false,.bool true,.int .i64 0,.string (⟨#[]⟩:ByteArray),.string (⟨#[]⟩:ByteArray),.string (⟨#[]⟩:ByteArray),.string (⟨#[]⟩:ByteArray),.int .i64 0,.int .i64 0,.nilIface,.bool false,.int .i64 dO.1,.string dO.2.1,.string dO.2.2.1,.string dO.2.2.2.1,.string dO.2.2.2.2.1,.int .i64 dO.2.2.2.2.2.1,.int .i64 dO.2.2.2.2.2.2.1,dO.2.2.2.2.2.2.2.1,.bool false,.bool false,.bool false,.bool false,.slice none 0 0]] fT (.v (.one (.int .i64))) (fun(ij:Int) jg=>K (.bool (ij==0)) jg))))
 (K (.bool false) fT))
 (K (.bool false) fT))))))))))))))))))
 (K (.bool false) w))))))
def pl43:aB:=(.seq .auto (.seq .auto (.seq (.seq .auto (.block (.seq .auto (.cond .auto (.seq .auto (.cond (.seq .auto (.seq (.tail 9) .auto)) (.seq .auto (.cond (.seq .auto (.seq (.held (.soft 0 (.soft 1 (.soft 2 (.soft 3 (.soft 7 (.soft 8 (.soft 9 (.soft 10 (.pick 4 (.pick 5 (.soft 6 (.soft 11 (.soft 12 .done))) .stop) .stop)))))))))) (.seq (.tail 12) .auto))) .auto)))))))) .auto)))
theorem c43 (p0:Addr)(p1:Option Addr)(ct cO:Nat)(w:World)(K:Value->World->Prop)(h:C43 p0 p1 ct cO w K):Ret Tryz.prog 43 #[.pointer (some p0),.slice p1 ct cO] w K:=aC (by kernel_rfl) Tryz.func43 (p:=pl43) (Eq.mpr (by kernel_rfl) h)
def C11 (p0:Addr)(w:World)(K:Value->World->Prop):Prop:=
 ae (.int .i64) (p0.add 20) w (fun(x1:Int)=>K (.int .i64 x1) w)
def pl11:aB:=.auto
theorem c11 (p0:Addr)(w:World)(K:Value->World->Prop)(h:C11 p0 w K):Ret Tryz.prog 11 #[.pointer (some p0)] w K:=aC (by kernel_rfl) Tryz.func11 (p:=pl11) (Eq.mpr (by kernel_rfl) h)
def C23 (p0:Addr)(w:World)(K:Value->World->Prop):Prop:=
 ae .ptr (p0.add 17) w (fun(x1:Option Addr)=>ab Tryz.prog 67 #[.pointer x1] w (.v (.one .bool)) (fun(x2:Bool) w3=>K (.bool x2) w3))
def pl23:aB:=.auto
theorem c23 (p0:Addr)(w:World)(K:Value->World->Prop)(h:C23 p0 w K):Ret Tryz.prog 23 #[.pointer (some p0)] w K:=aC (by kernel_rfl) Tryz.func23 (p:=pl23) (Eq.mpr (by kernel_rfl) h)
def C12 (p0:Addr)(p1:bH)(w:World)(K:Value->World->Prop):Prop:=
 aq (.cells ((bS p1).toArray) 36) w (fun g1 w2=>ab Tryz.prog 23 #[.pointer (some p0)] w2 (.v (.one .bool)) (fun(x3:Bool) w4=>aa x3
 (K (.int .i64 11) w4)
 (aH w4 (fun w5=>ae .ptr (p0.add 18) w5 (fun(x6:Option Addr)=>az dR (ad g1) w5 (fun(x7:bH)=>ab Tryz.prog 45 #[.pointer x6,.agg (bS x7).toArray] w5 (.v (.one (.int .i64))) (fun(x8:Int) w9=>K (.int .i64 x8) w9)))))))
def pl12:aB:=(.seq .auto (.seq .auto (.seq (.tail 5) .auto)))
theorem c12 (p0:Addr)(p1:bH)(w:World)(K:Value->World->Prop)(h:C12 p0 p1 w K):Ret Tryz.prog 12 #[.pointer (some p0),.agg (bS p1).toArray] w K:=aC (by kernel_rfl) Tryz.func12 (p:=pl12) (Eq.mpr (by kernel_rfl) h)
def C99 (p0:Addr)(p1:iP)(w:World)(K:Value->World->Prop):Prop:=
 aq (.cells ((iZ p1).toArray) 113) w (fun g1 w2=>ae .bool ((ad g1).add 0) w2 (fun(x3:Bool)=>aa x3
 (az nX ((ad g1).add 2) w2 (fun(x4:iY)=>ab Tryz.prog 153 #[.agg (iO x4).toArray] w2 (.aP [.one .ah,.one (.int .i64)]) (fun(x5:ao×Int×Unit) w6=>aa (x5.2.1 != 0)
 (K (.int .i64 x5.2.1) w6)
 (aH w6 (fun w7=>bb (fun S8=>aE S8 (p0.add 17) (ae .ptr (p0.add 17) w7 (fun(x9:Option Addr)=>aw Tryz.prog (Instr.buildSlice 22 1 #[(0,.int .u8 2)]) w7 (.v (.one .ah)) (fun(aS:ao) aR=>ak S8 w7 aR (aw Tryz.prog (Builtin.append_ #[22,22] 22 #[.slice aS.1 aS.2.1 aS.2.2,.slice x5.1.1 x5.1.2.1 x5.1.2.2]) aR (.v (.one .ah)) (fun(bw:ao) aW=>ak S8 aR aW (ab Tryz.prog 44 #[.pointer x9,.slice bw.1 bw.2.1 bw.2.2] aW (.v (.one (.int .i64))) (fun(bn:Int) bL=>ak S8 aW bL (K (.int .i64 bn) bL))))))))))))))
 (ae .bool ((ad g1).add 1) w2 (fun(aT:Bool)=>aa aT
 (az dR ((ad g1).add 11) w2 (fun(aX:bH)=>ab Tryz.prog 33 #[.agg (bS aX).toArray] w2 (.aP [.one .ah,.one (.int .i64)]) (fun(bE:ao×Int×Unit) bO=>aa (bE.2.1 != 0)
 (K (.int .i64 bE.2.1) bO)
 (aH bO (fun bz=>bb (fun lR=>aE lR (p0.add 17) (ae .ptr (p0.add 17) bz (fun(cr:Option Addr)=>aw Tryz.prog (Instr.buildSlice 22 1 #[(0,.int .u8 3)]) bz (.v (.one .ah)) (fun(cc:ao) bU=>ak lR bz bU (aw Tryz.prog (Builtin.append_ #[22,22] 22 #[.slice cc.1 cc.2.1 cc.2.2,.slice bE.1.1 bE.1.2.1 bE.1.2.2]) bU (.v (.one .ah)) (fun(bG:ao) bZ=>ak lR bU bZ (ab Tryz.prog 44 #[.pointer cr,.slice bG.1 bG.2.1 bG.2.2] bZ (.v (.one (.int .i64))) (fun(cE:Int) bV=>ak lR bZ bV (K (.int .i64 cE) bV))))))))))))))
 (K (.int .i64 0) w2)))))
def pl99:aB:=(.seq .auto (.seq .auto (.seq .auto (.seq .auto (.seq .auto (.seq .auto (.seq (.held (.soft 0 (.soft 1 (.soft 2 (.soft 3 (.soft 4 (.soft 6 (.pick 5 (.pick 7 (.pick 8 (.soft 9 .done) .stop) .stop) .stop)))))))) .auto)))))))
theorem c99 (p0:Addr)(p1:iP)(w:World)(K:Value->World->Prop)(h:C99 p0 p1 w K):Ret Tryz.prog 99 #[.pointer (some p0),.agg (iZ p1).toArray] w K:=aC (by kernel_rfl) Tryz.func99 (p:=pl99) (Eq.mpr (by kernel_rfl) h)
def C46 (p0:Addr)(p1:iP)(w:World)(K:Value->World->Prop):Prop:=
 aq (.cells ((iZ p1).toArray) 113) w (fun g1 w2=>az lJ (ad g1) w2 (fun(x3:iP)=>ab Tryz.prog 99 #[.pointer (some p0),.agg (iZ x3).toArray] w2 (.v (.one (.int .i64))) (fun(x4:Int) w5=>aa (x4 != 0)
 (K (.tuple #[.slice none 0 0,.int .i64 x4]) w5)
 (aH w5 (fun w6=>ae .ptr (p0.add 18) w6 (fun(x7:Option Addr)=>az lJ (ad g1) w6 (fun(x8:iP)=>ab Tryz.prog 92 #[.pointer x7,.agg (iZ x8).toArray] w6 (.v (.one (.int .i64))) (fun(x9:Int) aK=>aa (x9 != 0)
 (K (.tuple #[.slice none 0 0,.int .i64 x9]) aK)
 (ae .ah ((ad g1).add 23) aK (fun(aZ:ao)=>bj (ao×Int×Unit) (fun _ eW aW xT=>aa (decide (eW.2.1<(aZ.2.1:Int)))
 (bK aZ.1 aZ.2.1 eW.2.1 15 (fun tX=>az ig tX aW (fun(aT:fM)=>aq (.cells #[.int .i64 0,.int .i64 0,.int .i64 0,.int .i64 0,.int .i64 0,.int .u64 0,.bool false,.int .i64 0,.string (⟨#[]⟩:ByteArray),.string (⟨#[]⟩:ByteArray),.string (⟨#[]⟩:ByteArray),.string (⟨#[]⟩:ByteArray),.int .i64 0,.int .i64 0,.nilIface] 42) aW (fun g17 bx=>av (ad g17) (gd aT) bx (fun bO=>aH bO (fun bz=>bb (fun lR=>aE lR (p0.add 16) (ae (.int .i64) (p0.add 16) bz (fun(cr:Int)=>aE lR (p0.add 20) (ae (.int .i64) (p0.add 20) bz (fun(cc:Int)=>aE lR (p0.add 21) (ae (.int .i64) (p0.add 21) bz (fun(cN:Int)=>ay ((ad g17).add 0) (.int .i64 cr) bz (fun dn=>ak lR bz dn (ay ((ad g17).add 1) (.int .i64 cc) dn (fun bZ=>ak lR dn bZ (ay ((ad g17).add 2) (.int .i64 cN) bZ (fun eM=>ak lR bZ eM (aH eM (fun bV=>bb (fun Ig=>aE Ig (p0.add 0) (eF 16 (p0.add 0) bV (fun dX=>aE Ig (ad g17) (az ig (ad g17) bV (fun(bX:fM)=>ab Tryz.prog 24 #[.agg dX.toArray,.agg (gd bX).toArray] bV (.aP [.one .ah,.one (.int .i64)]) (fun(dS:ao×Int×Unit) dy=>ak Ig bV dy (aa (dS.2.1 != 0)
 (K (.tuple #[.slice none 0 0,.int .i64 dS.2.1]) dy)
 (aw Tryz.prog (Instr.buildSlice 37 1 #[(0,.slice dS.1.1 dS.1.2.1 dS.1.2.2)]) dy (.v (.one .ah)) (fun(ez:ao) fz=>aw Tryz.prog (Builtin.append_ #[37,37] 37 #[.slice eW.1.1 eW.1.2.1 eW.1.2.2,.slice ez.1 ez.2.1 ez.2.2]) fz (.v (.one .ah)) (fun(dO:ao) dq=>ae (.int .i64) (p0.add 21) dq (fun(dN:Int)=>ay (p0.add 21) (.int .i64 (IntKind.i64.wrap (dN+1))) dq (fun gg=>xT ((dO.1,dO.2.1,dO.2.2),IntKind.i64.wrap (eW.2.1+1),()) gg))))))))))))))))))))))))))))))))
 (K (.tuple #[.slice eW.1.1 eW.1.2.1 eW.1.2.2,.int .i64 0]) aW))
 ((none,0,0),0,()) aK))))))))))
def pl46:aB:=(.seq .auto (.seq .auto (.seq (.seq (.tail 5) .auto) (.seq .auto (.seq (.seq .auto (.block (.loop [(8,.one .ah),(31,.one (.int .i64))] (.seq .auto (.seq .auto (.seq (.block (.seq .auto (.seq (.held (.soft 0 (.soft 1 (.soft 2 (.soft 3 (.soft 4 (.soft 5 (.soft 6 (.soft 7 (.soft 8 (.soft 9 (.soft 10 (.soft 11 (.soft 12 (.pick 13 (.soft 14 (.pick 15 (.soft 16 (.pick 17 .done .stop)) .stop)) .stop))))))))))))))) (.seq (.held (.soft 0 (.soft 1 (.soft 2 (.soft 3 (.soft 4 (.pick 5 (.soft 6 (.soft 7 (.soft 8 (.soft 9 (.soft 10 .done))))) .stop))))))) .auto)))) .auto)))))) .auto)))))
theorem c46 (p0:Addr)(p1:iP)(w:World)(K:Value->World->Prop)(h:C46 p0 p1 w K):Ret Tryz.prog 46 #[.pointer (some p0),.agg (iZ p1).toArray] w K:=aC (by kernel_rfl) Tryz.func46 (p:=pl46) (Eq.mpr (by kernel_rfl) h)
def C13 (p0:Addr)(w:World)(K:Value->World->Prop):Prop:=
 ab Tryz.prog 23 #[.pointer (some p0)] w (.v (.one .bool)) (fun(x1:Bool) w2=>aa x1
 (K (.tuple #[.slice none 0 0,.int .i64 11]) w2)
 (ae .ptr (p0.add 18) w2 (fun(x3:Option Addr)=>ab Tryz.prog 47 #[.pointer x3] w2 (.v (.agg lJ)) (fun(x4:iP) w5=>ab Tryz.prog 46 #[.pointer (some p0),.agg (iZ x4).toArray] w5 (.aP [.one .ah,.one (.int .i64)]) (fun(x6:ao×Int×Unit) w7=>K (.tuple #[.slice x6.1.1 x6.1.2.1 x6.1.2.2,.int .i64 x6.2.1]) w7)))))
def pl13:aB:=.auto
theorem c13 (p0:Addr)(w:World)(K:Value->World->Prop)(h:C13 p0 w K):Ret Tryz.prog 13 #[.pointer (some p0)] w K:=aC (by kernel_rfl) Tryz.func13 (p:=pl13) (Eq.mpr (by kernel_rfl) h)
def C16  (w:World) (K:Value->World->Prop):Prop:=
 ab Tryz.prog 8 #[.int .i64 500] w (.v (.one .ptr)) (fun(x1:Option Addr) w2=>aa (Option.isNone x1)
 (K (.bool false) w2)
 (ab Tryz.prog 10 #[.pointer x1,.agg #[.int .u8 1,.int .u8 0,.int .u8 0,.int .u8 0,.int .u8 0,.int .u8 0,.int .u8 0,.int .u8 0,.int .u8 0,.int .u8 0,.int .u8 0,.int .u8 0,.int .u8 0,.int .u8 0,.int .u8 0,.int .u8 0],.int .i64 0] w2 (.aP [.one .ptr,.one (.int .i64)]) (fun(x3:Option Addr×Int×Unit) w4=>aa (x3.2.1 != 0)
 (K (.bool false) w4)
 (aa (Option.isNone x3.1)
 (K (.bool false) w4)
 (ab Tryz.prog 11 #[.pointer x3.1] w4 (.v (.one (.int .i64))) (fun(x5:Int) w6=>aa (x5 != 1)
 (K (.bool false) w6)
 (ab Tryz.prog 12 #[.pointer x3.1,.agg #[.int .i64 5,.string (⟨#[]⟩:ByteArray),.string (⟨#[]⟩:ByteArray),.string (⟨#[]⟩:ByteArray),.string (⟨#[]⟩:ByteArray),.int .i64 1,.int .i64 0,.nilIface]] w6 (.v (.one (.int .i64))) (fun(x7:Int) w8=>aa (x7 != 0)
 (K (.bool false) w8)
 (ab Tryz.prog 13 #[.pointer x3.1] w8 (.aP [.one .ah,.one (.int .i64)]) (fun(x9:ao×Int×Unit) aK=>aa (x9.2.1==0)
 (K (.bool ((x9.1.2.1:Int)==1)) aK)
 (K (.bool false) aK)))))))))))
def pl16:aB:=.auto
theorem c16  (w:World) (K:Value->World->Prop) (h:C16  w K):Ret Tryz.prog 16 #[] w K:=aC (by kernel_rfl) Tryz.func16 (p:=pl16) (Eq.mpr (by kernel_rfl) h)
theorem Pe {N:Nat}{w:World}{F:Nat->Prop}{b:Nat}{n:NodeM}{fb fg:Nat}(h:gR N w F b n fb fg)(U:n.kb.length=16):Ret Tryz.prog 23 #[.pointer (some ⟨b,0,none⟩)] w fun r w'=>r=.bool n.dead/\w=w':=by
 obtain⟨j,pb,wb,S,Fp,h⟩:=h;refine c23 _ w _ ?_;refine h.dP U 1 (ck:=.ptr) (x:=some ⟨j,0,none⟩) rfl ?_;refine ab.of (Wo h.jr) ?_;rintro _ _ ⟨rfl,rfl⟩;exact⟨_,rfl,rfl,rfl⟩
theorem Pf {N:Nat}{w:World}{F:Nat->Prop}{b:Nat}{n:NodeM}{fb fg:Nat}(h:gR N w F b n fb fg)(U:n.kb.length=16):Ret Tryz.prog 11 #[.pointer (some ⟨b,0,none⟩)] w fun r w'=>r=.int .i64 n.aV/\w=w':=by
 obtain⟨j,pb,wb,S,Fp,h⟩:=h;refine c11 _ w _ ?_;exact h.dP U 4 (ck:=.int .i64) (x:=n.aV) rfl ⟨rfl,rfl⟩
theorem Pg {N:Nat}{w:World}{F:Nat->Prop}{b:Nat}{n:NodeM}{fb fg:Nat}(h:gR N w F b n fb fg)(U:n.kb.length=16)(ho:dK n.p)(ht:fH N w)(m:aQ)(hm:aJ m.t<=1000000):
  Ret Tryz.prog 12 #[.pointer (some ⟨b,0,none⟩),gV m.e] w fun r w'=>r=.int .i64 (n.offer m).2/\∃ F',eS N w F b (n.offer m).1 fb fg w' F' fg:=by
 have hR:=h;obtain⟨j,pb,wb,S,Fp,h⟩:=h;refine c12 _ m.e w _ ?_;unfold C12;refine aq.of fun g1 w1 di ar f1 _=>?_;have e1:kG w1 g1 m:=ar;refine ab.of (Pe (hR.af f1) U) ?_;rintro _ _ ⟨rfl,rfl⟩;refine⟨_,rfl,aa.by (fun hd=>?_) (fun hd=>?_)⟩
 ·have hd:n.dead=true:=hd
  have e:n.offer m=(n,11):=by unfold NodeM.offer;rw[if_pos hd]
  rw[e];exact⟨rfl,F,(eS.refl hR).dp f1⟩
 have hd:n.dead=false:=hd;have e:n.offer m=({ n with p:=(n.p.offer m).1 },(n.p.offer m).2):=by unfold NodeM.offer;rw[if_neg (by rw[hd];simp)]
 rw[e];refine aH.of fun w2 _ f2=>?_;have f12:=f1.trans f2;have h2:=h.af f12;refine h2.dP U 2 (ck:=.ptr) (x:=some ⟨pb,0,none⟩) rfl (az.aG (cks:=ir) (x:=m.e) (e1.af f2) ?_);refine ab.of (aac h2.pr ho (ht.nh.af f12) m hm) ?_;rintro _ w3 ⟨rfl,p3,f3⟩;obtain⟨F',_,t⟩:=h2.CC (p:=(n.p.offer m).1) (p3.mono fun k U=>.inl U) f3;exact⟨_,rfl,rfl,F',t.eG f12⟩
theorem Ph (n:NodeM)(j pb wb:Nat)(v:Int):(u9 n j pb wb).set 4 (.int .i64 v)=u9 { n with aV:=v } j pb wb:=rfl
theorem aah (n:NodeM)(j pb wb:Nat)(v:Int):(u9 n j pb wb).set 5 (.int .i64 v)=u9 { n with number:=v } j pb wb:=rfl
theorem aai (n:NodeM)(r:List UInt8):n.record (1::r)=({ n with aV:=n.aV+1 },r.isEmpty):=rfl
theorem aaj (n:NodeM)(r:List UInt8):n.record (2::r)=if(hZ false r).2≠0 then(n,false) else({ n with p:=(n.p.bD { eD with dj:=true,bg:=(hZ false r).1 }).1 },(n.p.bD { eD with dj:=true,bg:=(hZ false r).1 }).2==0):=rfl
theorem aak (n:NodeM)(r:List UInt8):n.record (3::r)=if(fw false r).2≠0 then(n,false) else if n.p.len % 2≠n.side then(n,false) else({ n with p:=(n.p.bD { eD with cM:=true,bI:=(fw false r).1 }).1 },true):=rfl
theorem aal (n:NodeM){c:UInt8}(r:List UInt8)(h1:c≠1)(h2:c≠2)(h3:c≠3):n.record (c::r)=(n,false):=by
 unfold NodeM.record;dsimp only;rw[if_neg h1,if_neg h2,if_neg h3]
theorem aam (p:PeerM)(a:cG)(h:a.dj=false):(p.bD a).2=0:=by unfold PeerM.bD;rw[if_neg (by rw[h];simp)]
theorem aan {N:Nat}{w:World}{F:Nat->Prop}{b:Nat}{n:NodeM}{fb fg j pb wb:Nat}{S Fp:Nat->Prop}(h:fI N w F b n fb fg j pb wb S Fp)(U:n.kb.length=16)(ho:dK n.p)(hs:n.side=0\/n.side=1)(he:0<=n.aV/\n.aV<=1000000000)(ht:fH N w){v:Sl}{bs:List UInt8}(hv:aY w v bs)(hc:v.2.1<=v.2.2)(VP:bs.length<=100000000):
  Ret Tryz.prog 43 #[.pointer (some ⟨b,0,none⟩),.slice v.1 v.2.1 v.2.2] w fun r w'=>r=.bool (n.record bs).2/\∃ F' xj,fI N w' F' b (n.record bs).1 fb fg j pb wb S xj/\eS N w F b (n.record bs).1 fb fg w' F' fg:=by
 have hR:gR N w F b n fb fg:=⟨_,_,_,_,_,h⟩;have Aw:n.p.kb.length=16:=ho.kb;have hl:=hv.len;refine c43 _ v.1 v.2.1 v.2.2 w _ ?_;unfold C43;cases bs with
 | nil=>
  refine aa.t (by rw[hl];rfl) ?_;exact⟨rfl,F,Fp,h,eS.refl hR⟩
 | cons c r=>
  have hl:v.2.1=r.length+1:=by rw[hl];rfl
  refine aa.f (by rw[hl];rw[beq_eq_false_iff_ne];omega) ?_;refine aY.at hv (Int.le_refl _) (by omega) ?_;rw[show(c::r).getD (Int.toNat 0) 0=c by rfl];have Ih:∀ k:UInt8,((c.toNat:Int)=(k.toNat:Int))->c=k:=fun k t=>UInt8.toNat_inj.1 (by omega)
  -- Ii stands behind the first byte
  have rest:∀ {K:Option Addr->Nat->Nat->Prop},(∀ u:Sl,aY w u r->u.2.1<=u.2.2->K u.1 u.2.1 u.2.2)->eu v.1 v.2.2 1 v.2.1 v.2.2 1 K:=by
   intro K k;refine aY.jj hv (by omega) (by omega) (Int.le_refl _) hc fun u hu oy cS lQ=>?_;refine k u ?_ oy;have e2:((c::r).drop (1:Int).toNat).take ((v.2.1:Int) - 1).toNat=r:=by
    rw[show(1:Int).toNat=1 by rfl];exact List.take_of_length_le (by rw[List.drop_succ_cons,List.drop_zero];omega)
   rw[e2] at hu;exact hu
  refine aa.eq (fun h1=>?_) (fun h1=>?_)
  ·obtain rfl:=Ih 1 h1
   rw[aai];refine h.dP U 4 (ck:=.int .i64) (x:=n.aV) rfl ?_;have ew:IntKind.i64.wrap (n.aV+1)=n.aV+1:=wI (by omega) (by omega);rw[ew];refine tk U h.aG 4 (by show 4<6;decide) rfl fun w1 ar f1 s1=>?_;rw[Ph] at ar;obtain⟨h1,t1⟩:=h.cell (n':={ n with aV:=n.aV+1 }) f1 ar rfl rfl rfl
   refine⟨?_,F,Fp,h1,t1⟩;rw[hl]
   congr 1
   cases r with
   | nil=>rfl
   | cons x y=>simp only[List.length_cons,List.isEmpty_cons];rw[beq_eq_false_iff_ne];omega
  have n1:c≠1:=fun t=>h1 (by rw[t];rfl);refine aa.eq (fun h2=>?_) (fun h2=>?_)
  ·obtain rfl:=Ih 2 h2
   rw[aaj];refine rest fun u hu oy=>?_;refine ab.of (UO hu oy ht.nh) ?_;rintro _ w1 ⟨rfl,f1⟩;refine⟨(mP (hZ false r).1.1.e (hZ false r).1.2,(hZ false r).2,()),rfl,?_⟩;have sM:=Ns r;generalize hZ false r=P at *;refine aq.of fun g2 w2 mI aM f2 _=>?_;have aM:w2.heap[g2]? = some (.cells (pz bp.e false).toArray 110 (0,0)):=aM;refine av.aG (vs:=pz P.1.1.e P.1.2) aM rfl (FG _ (Tm.bP _)) fun w3 ba f3 _=>aH.of fun w4 _ f4=>?_;have Ij:w1.heap.size<=g2:=by omega
   have f14:Fr none1 w w4:=(f1.trans (f2.fresh f3 Ij)).trans f4;have h4:=h.af f14;refine aa.eq (fun hz=>?_) (fun hz=>?_)
   ·have hz:P.2=0:=hz
    rw[if_neg (fun t=>t hz)];refine h4.dP U 2 (ck:=.ptr) (x:=some ⟨pb,0,none⟩) rfl (az.aG (cks:=qn) (x:=mP P.1.1.e P.1.2) (f4.af ba) ?_);refine ab.of (Ic h4.pr (fun k U=>h4.lt k (h4.own.2.2.2.2 k U)) ho (ht.nh.af f14) { eD with dj:=true,bg:=P.1 } (none,0,0) sM) ?_
    rintro _ w5 ⟨rfl,p5,f5⟩;obtain⟨F',h5,t5⟩:=h4.CC p5 f5;refine⟨_,rfl,rfl,F',_,h5,t5.eG f14⟩
   ·have hz:P.2≠0:=hz
    rw[if_pos hz];exact⟨rfl,F,Fp,h4,(eS.refl hR).dp f14⟩
  have n2:c≠2:=fun t=>h2 (by rw[t];rfl);refine aa.eq (fun h3=>?_) (fun h3=>?_)
  ·obtain rfl:=Ih 3 h3
   rw[aak];refine rest fun u hu oy=>?_;refine ab.of (FA hu oy ht.nh) ?_;rintro _ w1 ⟨rfl,f1⟩;refine⟨((fw false r).1.e,(fw false r).2,()),rfl,?_⟩;have sM:=GN r;generalize fw false r=P at *;refine aq.of fun g2 w2 mI aM f2 _=>?_;have aM:w2.heap[g2]? = some (.cells (gP bp.e).toArray 36 (0,0)):=aM;refine av.aG (vs:=gP P.1.e) aM rfl (OY _) fun w3 ba f3 _=>aH.of fun w4 _ f4=>bb.all ?_;have Ij:w1.heap.size<=g2:=by omega
   have f14:Fr none1 w w4:=(f1.trans (f2.fresh f3 Ij)).trans f4;have h4:=h.af f14;refine aE.all (h4.dP U 2 (ck:=.ptr) (x:=some ⟨pb,0,none⟩) rfl (aE.all (h4.dP U 0 (ck:=.int .i64) (x:=n.side) rfl ?_)));refine ab.of (aae h4.pr ho) ?_;rintro _ w5 ⟨c5,rfl,xg,f5⟩;refine⟨_,rfl,ak.of f5 ?_⟩;refine ab.of (zO Aw xg) ?_;rintro _ _ ⟨rfl,rfl⟩;refine⟨_,rfl,ak.of (Fr.refl _ _) ⟨by decide,aH.of fun w6 _ f6=>?_⟩⟩;have f16:=(f14.trans f5).trans f6;have h6:=h.af f16;have stay:(Value.bool false=.bool (n,false).2/\∃ F' xj,fI N w6 F' b (n,false).1 fb fg j pb wb S xj/\eS N w F b (n,false).1 fb fg w6 F' fg):=⟨rfl,F,Fp,h6,(eS.refl hR).dp f16⟩;have em:Int.tmod ((n.p.es.length:Nat):Int) 2=n.p.len % 2:=Int.tmod_eq_emod_of_nonneg (by omega);refine aa.eq (fun hz=>?_) (fun hz=>?_)
   ·have hz:P.2=0:=hz
    rw[if_neg (fun t=>t hz)];refine aa.eq (fun mi=>?_) (fun mi=>?_)
    ·have mi:n.p.len % 2=n.side:=by rw[<- em];exact mi
     rw[if_neg (fun t=>t mi)];refine h6.dP U 2 (ck:=.ptr) (x:=some ⟨pb,0,none⟩) rfl (az.aG (cks:=ir) (x:=P.1.e) ((f5.trans f6).af (f4.af ba)) ?_);refine ab.of (Ic h6.pr (fun k U=>h6.lt k (h6.own.2.2.2.2 k U)) ho (ht.nh.af f16) { eD with cM:=true,bI:=P.1 } (none,0,0) iK) ?_
     rintro _ w7 ⟨rfl,p7,f7⟩;obtain⟨F',h7,t7⟩:=h6.CC p7 f7;refine⟨_,rfl,?_,F',_,h7,t7.eG f16⟩;rw[aam _ _ rfl];rfl
    ·have mi:n.p.len % 2≠n.side:=by rw[<- em];exact mi
     rw[if_pos mi];exact stay
   ·have hz:P.2≠0:=hz
    rw[if_pos hz];exact stay
  have n3:c≠3:=fun t=>h3 (by rw[t];rfl);rw[aal n r n1 n2 n3];exact⟨rfl,F,Fp,h,eS.refl hR⟩
theorem aao (x:fE)(h:dD x.1):(fZ x).1.length<=10000001:=by
 have:=L3 x.1 h;unfold da at this;unfold fZ sJ;split
 ·simp
 ·simp only[List.length_cons];omega
theorem aap {N:Nat}{w:World}{F:Nat->Prop}{b:Nat}{n:NodeM}{fb fg:Nat}(h:gR N w F b n fb fg)(U:n.kb.length=16)(hj:n.j.rs.length<=1000000)(ht:fH N w)(a:cG)(s:Sl)(he:dD a.bg.1)(hp:dD a.bI):
  Ret Tryz.prog 99 #[.pointer (some ⟨b,0,none⟩),.agg (jJ a s).toArray] w fun r w'=>r=.int .i64 (n.ag a).2/\∃ F' dF,eS N w F b (n.ag a).1 fb fg w' F' dF:=by
 have hR:=h;obtain⟨j,pb,wb,S,Fp,h⟩:=h;refine c99 _ (pL a s) w _ ?_;unfold C99;refine aq.of fun g1 w1 di ar f1 _=>?_;have a1:ic w1 g1 a s:=ar;have xi:=u7 a s;have h1:=h.af f1
 -- a record put
 have put:∀ (c:UInt8) (bs:List UInt8) (v:Sl) (w2:World) {fn:Sl->World->(Int->World->Prop)->Prop},Fr none1 w w2->bR w2 v bs->bs.length<=10000001->n.ag a=({ n with j:=(n.j.put (c::bs)).1 },(n.j.put (c::bs)).2) ->
   aH w2 (fun w7=>bb (fun S8=>aE S8 ((⟨b,0,none⟩:Addr).add 17) (ae .ptr ((⟨b,0,none⟩:Addr).add 17) w7 (fun(x9:Option Addr)=>aw Tryz.prog (Instr.buildSlice 22 1 #[(0,bc c)]) w7 (.v (.one .ah)) (fun(aS:Option Addr×Nat×Nat) aR=>ak S8 w7 aR (aw Tryz.prog (Builtin.append_ #[22,22] 22 #[.slice aS.1 aS.2.1 aS.2.2,.slice v.1 v.2.1 v.2.2]) aR (.v (.one .ah)) (fun(bw:Option Addr×Nat×Nat) aW=>ak S8 aR aW (ab Tryz.prog 44 #[.pointer x9,.slice bw.1 bw.2.1 bw.2.2] aW (.v (.one (.int .i64))) (fun(bn:Int) bL=>ak S8 aW bL ((Value.int .i64 bn=.int .i64 (n.ag a).2/\∃ F' dF,eS N w F b (n.ag a).1 fb fg bL F' dF))))))))))):=by
  intro c bs v w2 _ f2 hv hl e;refine aH.of fun w7 _ f7=>bb.of (fun k=>k=b) ?_;have f27:=f2.trans f7;have h7:=h.af f27;refine⟨rfl,h7.dP U 1 (ck:=.ptr) (x:=some ⟨j,0,none⟩) rfl ?_⟩;refine yZ c fun u w8 hu f8 lQ=>ak.of f8 ?_;obtain⟨y,w9,r9,hy,f9,BP⟩:=qK hu (((hv.af f7).af f8).rd) (by simp;omega);have z27:=f27.size;have zb:=h.lt b h.own.1;have zj:=h.lt j h.own.2.2.1;have zf:=h.jr.file.lt;have z8:=f8.size;have yb:∀ k,au y k->w7.heap.size<=k:=fun k U=>by
   rcases BP k U with t | t
   ·exact lQ k t
   ·omega
  have f9':Fr none1 w7 w9:=f8.comp f9 fun k U t=>by have:=lQ k t;omega
  refine⟨y,w9,r9,ak.on f9 (fun k U t=>by have U:k=b:=U;have:=lQ k t;omega) ?_⟩;have f29:=f27.trans f9';have h9:=h.af f29;have jE:=h.jr.slt;refine ab.of (MM h9.jr hy.rd (fun k U=>?_) hj) ?_
  ·have:=yb k U
   exact⟨aD.lt hy U,by omega,by omega,fun t=>by have:=jE k t;omega⟩
  rintro _ aK ⟨rfl,t10⟩;obtain⟨F',dF,S',nI,xk⟩:=h9.Pd (J:=(n.j.put (c::bs)).1) t10;have f10:=t10.1;refine⟨_,rfl,ak.on f10 (fun k U t=>?_) ?_⟩
  ·have U:k=b:=U
   obtain⟨a1,a2,a3,a4,a5,a6,a7,a8,a9⟩:=h.apart
   rcases t with t | t | t
   ·exact a2 (by rw[<- U];exact t)
   ·rw[<- t,U] at zf
    exact h.file.1 (by rw[<- t,U];exact h.own.1)
   ·exact a4 (by rw[<- U];exact t)
  ·rw[e]
   exact⟨rfl,F',dF,xk.eG f29⟩
 refine a1.ld 0 (ck:=.bool) (x:=a.dj) xi.1 (aa.by (fun hE=>?_) (fun hE=>?_))
 ·have hE:a.dj=true:=hE
  have eb:NodeM.dV a=(2::(fZ a.bg).1,(fZ a.bg).2):=by unfold NodeM.dV;rw[if_pos hE]
  refine a1.bg ?_;have hw:=sE a.bg.1.t;refine ab.of (Lu a.bg.1.e a.bg.2 (wz _) he.e (bh a.bg.1.t).1 (by omega) (bh a.bg.1.t).2 w1 (fun _ w2 f2=>FV a.bg.1.t he.2.2.2.2 (ht.nh.af f1) w2 f2)) ?_;rintro _ w2 ⟨v,rfl,hv,f2,vb⟩;refine⟨(v,(fZ a.bg).2,()),rfl,aa.ne (fun aA=>?_) (fun hz=>?_)⟩
  ·have aA:(fZ a.bg).2≠0:=aA
   have e:n.ag a=(n,(fZ a.bg).2):=by unfold NodeM.ag;rw[if_neg (by rw[hE];simp),eb,if_pos aA]
   rw[e];exact⟨rfl,F,fg,(eS.refl hR).dp (f1.trans f2)⟩
  ·have hz:(fZ a.bg).2=0:=hz
   have e:n.ag a=({ n with j:=(n.j.put (2::(fZ a.bg).1)).1 },(n.j.put (2::(fZ a.bg).1)).2):=by unfold NodeM.ag;rw[if_neg (by rw[hE];simp),eb,if_neg (fun t=>t hz)]
   exact put 2 (fZ a.bg).1 v w2 (fn:=fun _ _ _=>True) (f1.trans f2) hv (aao _ he) e
 have hE:a.dj=false:=hE;refine a1.ld 1 (ck:=.bool) (x:=a.cM) xi.2.1 (aa.by (fun hP=>?_) (fun hP=>?_))
 ·have hP:a.cM=true:=hP
  have eb:NodeM.dV a=(3::(da a.bI).1,(da a.bI).2):=by unfold NodeM.dV;rw[if_neg (by rw[hE];simp)]
  refine a1.bI ?_;refine ab.of (L2 a.bI hp w1 (ht.nh.af f1)) ?_;rintro _ w2 ⟨v,rfl,hv,f2,vb⟩;refine⟨(v,(da a.bI).2,()),rfl,aa.ne (fun aA=>?_) (fun hz=>?_)⟩
  ·have aA:(da a.bI).2≠0:=aA
   have e:n.ag a=(n,(da a.bI).2):=by unfold NodeM.ag;rw[if_neg (by rw[hP];simp),eb,if_pos aA]
   rw[e];exact⟨rfl,F,fg,(eS.refl hR).dp (f1.trans f2)⟩
  ·have hz:(da a.bI).2=0:=hz
   have e:n.ag a=({ n with j:=(n.j.put (3::(da a.bI).1)).1 },(n.j.put (3::(da a.bI).1)).2):=by unfold NodeM.ag;rw[if_neg (by rw[hP];simp),eb,if_neg (fun t=>t hz)]
   exact put 3 (da a.bI).1 v w2 (fn:=fun _ _ _=>True) (f1.trans f2) hv (by have:=L3 a.bI hp;omega) e
 ·have hP:a.cM=false:=hP
  have e:n.ag a=(n,0):=by unfold NodeM.ag;rw[if_pos ⟨hE,hP⟩]
  rw[e];exact⟨rfl,F,fg,(eS.refl hR).dp f1⟩
theorem aaq {p:PeerM}{a:cG}(h:(p.bD a).2≠0):(p.bD a).1=p:=by
 unfold PeerM.bD at h ⊢;split at h
 ·rename_i t
  rw[if_pos t];split at h
  ·rename_i q;rw[if_pos q]
  ·exact absurd rfl h
 ·exact absurd rfl h
def nN (done:List (List UInt8))(r:List (List UInt8)×Int×Int):List (List UInt8)×Int×Int:=if r.2.2≠0 then([],r.2.1,r.2.2) else(done++r.1,r.2.1,0)
theorem Pj (kb:List UInt8)(side aV:Int)(f:cU)(l:List cU)(n:Int):NodeM.jn kb side aV (f::l) n=if(jX kb (side,aV,n,f.2.2.2)).2≠0 then([],n,(jX kb (side,aV,n,f.2.2.2)).2) else nN [(jX kb (side,aV,n,f.2.2.2)).1] (NodeM.jn kb side aV l (n+1)):=rfl
theorem aar (r:List (List UInt8)×Int×Int)(h:r.2.2≠0->r.1=[]):nN [] r=r:=by
 obtain⟨a,b,c⟩:=r;unfold nN;dsimp only at h ⊢
 by_cases hc:c≠0
 ·rw[if_pos hc,h hc]
 ·rw[if_neg hc]
  have:c=0:=Classical.not_not.1 hc;rw[this];rfl
theorem aas (kb:List UInt8)(side aV:Int):∀ (l:List cU) (n:Int),(NodeM.jn kb side aV l n).2.2≠0->(NodeM.jn kb side aV l n).1=[]
 | [],n,h=>rfl
 | f::l,n,h=>by
  rw[Pj] at h ⊢;split at h
  ·rename_i t;rw[if_pos t]
  ·rename_i t
   rw[if_neg t];unfold nN at h ⊢;split at h
   ·rename_i q;rw[if_pos q]
   ·exact absurd rfl h
theorem aat (a b:List (List UInt8))(r:List (List UInt8)×Int×Int):nN a (nN b r)=nN (a++b) r:=by
 unfold nN
 by_cases h:r.2.2≠0
 ·rw[if_pos h,if_pos (by exact h),if_pos h]
 ·rw[if_neg h,if_neg (by simp),if_neg h,List.append_assoc]
theorem aau (l:List cU):oK l=((l.map fun f=>dv f.f)).flatten:=rfl
theorem aav (l:List cU):∀ x∈l.map (fun f=>dv f.f),x.length=15:=by
 intro x hx;obtain⟨f,_,rfl⟩:=List.mem_map.1 hx;rfl
structure pM (N:Nat)(w:World)(F:Nat->Prop)(b:Nat)(n':NodeM)(fb fg:Nat)(l:List (List UInt8))(v:Sl)(w':World):Prop where
 out:∃ F' dF S',eS N w F b n' fb fg w' F' dF/\il w' S' v l/\(∀ k,S' k->w.heap.size<=k/\¬ F' k/\k≠fb/\k≠dF)
theorem pM.none {N:Nat}{w:World}{F:Nat->Prop}{b:Nat}{n':NodeM}{fb fg:Nat}{w':World}{F':Nat->Prop}{dF:Nat}(h:eS N w F b n' fb fg w' F' dF):pM N w F b n' fb fg [] (Option.none,0,0) w':=
 ⟨F',dF,fun _=>False,h,zm _ _ (fun k t=>t.elim),fun k t=>t.elim⟩
theorem pM.eG {N:Nat}{w w1:World}{F:Nat->Prop}{b:Nat}{n':NodeM}{fb fg:Nat}{l:List (List UInt8)}{v:Sl}{w':World}(f:Fr none1 w w1)(h:pM N w1 F b n' fb fg l v w'):pM N w F b n' fb fg l v w':=by
 obtain⟨F',dF,S',a,b,c⟩:=h.out;exact⟨F',dF,S',a.eG f,b,fun k U=>⟨Nat.le_trans f.size (c k U).1,(c k U).2⟩⟩
theorem aaw {N:Nat}{w:World}{F:Nat->Prop}{b:Nat}{n:NodeM}{fb fg:Nat}(h:gR N w F b n fb fg)(U:n.kb.length=16)(ho:dK n.p)(hj:n.j.rs.length<=1000000)(hn:0<=n.number/\n.number<=1000000000)(ht:fH N w)(a:cG)(s:Sl)(ha:oF a)
  (hs:aD w 42 15 s (oK a.cz)) (wT:∀ k,au s k->¬ F k/\k≠fb) :
  Ret Tryz.prog 46 #[.pointer (some ⟨b,0,none⟩),.agg (jJ a s).toArray] w fun r w'=>∃ v:Sl,r=.tuple #[.slice v.1 v.2.1 v.2.2,.int .i64 (n.act a).2.2]/\pM N w F b (n.act a).1 fb fg (n.act a).2.1 v w':=by
 obtain⟨aU,CE,Ik,Pk,_,_⟩:=h.lt;have oV:=ha.num;refine c46 _ (pL a s) w _ ?_;unfold C46;refine aq.of fun g1 w1 di ar f1 _=>?_;have a1:ic w1 g1 a s:=ar;refine az.aG (cks:=mh) (x:=pL a s) ar ?_;refine ab.of (aap (h.af f1) U hj (ht.af f1) a s ha.bg ha.bI) ?_;rintro _ w2 ⟨rfl,F2,rQ,zY⟩;have t2:=zY.eG f1;obtain⟨k1,k2,k3,k4,k5,k6⟩:=GZ (n:=n) a;refine⟨_,rfl,aa.ne (fun aA=>?_) (fun hz=>?_)⟩
 ·have aA:(n.ag a).2≠0:=aA
  have e:n.act a=((n.ag a).1,[],(n.ag a).2):=by unfold NodeM.act;rw[if_pos aA]
  rw[e];exact⟨(none,0,0),rfl,pM.none t2⟩
 have hz:(n.ag a).2=0:=hz;have Pl:∀ k,w.heap.size<=k->¬ rP F fb k:=fun k U t=>by
  rcases t with t | t
  ·have:=aU k t;omega
  ·omega
 have Pm:∀ k,au s k->¬ rP F fb k:=fun k U t=>t.elim (wT k U).1 (wT k U).2;have aax:∀ k,au s k->k<w.heap.size:=fun k U=>aD.lt hs U
 -- blocks of the act, and of Ii is to be said, stay
 have a2:ic w2 g1 a s:=zY.f.ag a1 (Pl g1 (by omega));have fQ:aD w2 42 15 s (oK a.cz):=(hs.af f1).ag zY.f Pm;have tI:fH N w2:=t2.nh h ht;refine aH.of fun w3 _ f3=>?_;have a3:ic w3 g1 a s:=f3.af a2;have t3:=t2.dp f3;obtain⟨j,pb,wb,S,Fp,h3⟩:=t3.r;have Pn:(n.ag a).1.kb.length=16:=by rw[k2];exact U
 refine h3.dP Pn 2 (ck:=.ptr) (x:=some ⟨pb,0,none⟩) rfl (az.aG (cks:=mh) (x:=pL a s) a3 ?_);refine ab.of (Ic h3.pr (fun k U=>h3.lt k (h3.own.2.2.2.2 k U)) (by rw[k1];exact ho) (tI.af f3).nh a s ha.bg) ?_;rw[k1];rintro _ w4 ⟨rfl,p4,f4⟩;obtain⟨F4,h4,t34⟩:=h3.CC p4 f4;have t4:=t3.trans t34;have zZ:∀ k,k<w3.heap.size->¬ F2 k->¬ F4 k:=fun k U hn t=>by
  rcases t34.sub k t with t | t
  ·exact hn t
  ·have:=t.1;omega
 have Po:∀ k,k<w1.heap.size->¬ rP F fb k->¬ F2 k:=fun k U hn t=>by
  rcases zY.sub k t with t | t
  ·exact hn (.inl t)
  ·have:=t.1;omega
 have z1:=f1.size;have z2:=zY.f.size;have z3:=f3.size;have z4:=f4.size;have l1:=cj ar;have nF4:∀ k,k<w1.heap.size->¬ rP F fb k->¬ F4 k:=fun k U hn=>zZ k (by omega) (Po k U hn);have Pp:∀ k,k<w1.heap.size->¬ rP F fb k->¬ rP F2 fb k:=fun k U hn t=>t.elim (Po k U hn) (fun q=>hn (.inr q));have a4:ic w4 g1 a s:=t34.f.ag a3 (Pp g1 l1 (Pl g1 (by omega)));have rn:aD w4 42 15 s (oK a.cz):=(fQ.af f3).ag t34.f fun k U=>Pp k (by have:=aax k U;omega) (Pm k U);refine⟨_,rfl,aa.ne (fun aA=>?_) (fun Il=>?_)⟩
 ·have aA:(n.p.bD a).2≠0:=aA
  have e:n.act a=((n.ag a).1,[],(n.p.bD a).2):=by unfold NodeM.act;rw[if_neg (fun t=>t hz),k1,if_pos aA]
  have e2:({ (n.ag a).1 with p:=(n.p.bD a).1 }:NodeM)=(n.ag a).1:=by rw[aaq aA,<- k1]
  rw[e2] at t4;rw[e];exact⟨(none,0,0),rfl,pM.none t4⟩
 have Il:(n.p.bD a).2=0:=Il;have aay:n.act a=({ (n.ag a).1 with p:=(n.p.bD a).1,number:=(NodeM.jn n.kb n.side n.aV a.cz n.number).2.1 },(NodeM.jn n.kb n.side n.aV a.cz n.number).1,(NodeM.jn n.kb n.side n.aV a.cz n.number).2.2):=by
  unfold NodeM.act;rw[if_neg (fun t=>t hz),k1,if_neg (fun t=>t Il)]
 rw[aay];refine a4.ld 23 (ck:=.ah) (x:=s) (by rw[xe];rfl) ?_
 -- the node behind so many abz
 let nd:Int->NodeM:=fun m=>{ (n.ag a).1 with p:=(n.p.bD a).1,number:=m }
 have hnd:∀ m,(nd m).kb.length=16:=fun m=>by show(n.ag a).1.kb.length=16;exact Pn
 have jE:=hs.rd.1;have v8:s.2.1=a.cz.length:=by
  have e:(oK a.cz).length=15 * a.cz.length:=by
   unfold oK
   induction a.cz with
   | nil=>rfl
   | cons x l ih=>rw[List.map_cons,List.flatten_cons,List.length_append,ih,List.length_cons];show 15+_=_;omega
  omega
 have LK:fI N w4 F4 b (nd n.number) fb rQ j pb wb S (fun k=>Fp k\/cq w3 w4 k):=by rw[<- k5];exact h4
 refine bj.of (fun q w'=>∃ (i:Nat) (m:Int) (done:List (List UInt8)) (S':Nat->Prop),q.2.1=(i:Int)/\i<=a.cz.length/\m=n.number+i/\il w' S' q.1 done/\(∀ k,S' k->w4.heap.size<=k)/\fI N w' F4 b (nd m) fb rQ j pb wb S (fun k=>Fp k\/cq w3 w4 k) /\
   NodeM.jn n.kb n.side n.aV a.cz n.number=nN done (NodeM.jn n.kb n.side n.aV (a.cz.drop i) m)/\done.length<=i/\Fr (only b) w4 w') (fun q _=>(a.cz.length - q.2.1).toNat)
  ⟨0,n.number,[],fun _=>False,rfl,Nat.zero_le _,by simp,zm _ _ (fun k t=>t.elim),fun k t=>t.elim,LK,(aar _ (aas _ _ _ _ _)).symm,Nat.le_refl _,Fr.refl _ _⟩ ?_
 rintro _ ⟨q,i',_⟩ w5 ⟨i,m,done,S',Aa,iz,hm,qt,mU,h5,rR,nB,f5⟩;dsimp only at Aa qt;subst Aa;have z5:=f5.size;have Pq:∀ {w':World},Fr (only b) w4 w'->Fr (rP F4 fb) w4 w':=fun f=>f.mono fun k _ t=>.inl (by have t:k=b:=t;rw[t];exact h4.own.1)
 -- Ii is given back
 have fin:∀ {w':World} {m':Int} {l:List (List UInt8)} {v:Sl} {S2:Nat->Prop},fI N w' F4 b (nd m') fb rQ j pb wb S (fun k=>Fp k\/cq w3 w4 k)->Fr (only b) w4 w'->il w' S2 v l->(∀ k,S2 k->w4.heap.size<=k)->pM N w F b (nd m') fb fg l v w':=by
  intro w' m' l v S2 hI f hr qq;refine⟨F4,rQ,S2,t4.trans ⟨⟨_,_,_,_,_,hI⟩,fun k U=>.inl U,.inr (.inl rfl),Pq f⟩,hr,fun k U=>?_⟩;have:=qq k U;have:=h4.jr.file.lt;have:=h4.jr.file.pB;exact⟨by omega,fun t=>by have:=h4.lt k t;omega,by omega,by omega⟩
 refine aa.dec (fun Im=>?_) (fun dh=>?_)
 rotate_left
 ·have dh:¬ (i:Int)<(s.2.1:Int):=dh
  have hi:i=a.cz.length:=by omega
  rw[hi,List.drop_length] at rR;have e:nN done (NodeM.jn n.kb n.side n.aV [] m)=(done,m,0):=by unfold nN;rw[if_neg (by intro t;exact t rfl)];simp[NodeM.jn]
  rw[e] at rR;rw[rR];exact⟨q,rfl,fin h5 f5 qt mU⟩
 have Im:(i:Int)<(s.2.1:Int):=Im;have hi:i<a.cz.length:=by omega
 obtain⟨f,hf⟩:∃ f,a.cz[i]? = some f:=⟨_,List.getElem?_eq_getElem hi⟩;have zU:a.cz.drop i=f::a.cz.drop (i+1):=by
  obtain⟨aU,he⟩:=List.getElem?_eq_some_iff.1 hf;rw[List.drop_eq_getElem_cons aU,he]
 rw[zU,Pj] at rR;have rE:=ha.cz f (List.mem_of_getElem? hf);obtain⟨p,hp⟩:∃ p,s.1=some p:=by
  cases hp:s.1 with
  | none=>have:=(hs.rd.2.1 hp).1;omega
  | some p=>exact⟨p,rfl⟩
 have nb:∀ k,au s k->¬ (only b) k:=fun k U t=>by have t:k=b:=t;rw[t] at U;exact(wT b U).1 Pk
 have yR:=rn.ag f5 nb;rw[aau] at yR;refine⟨p,hp,(show(0:Int)<=(i:Int) by omega),(show(i:Int)<(s.2.1:Int) from Im),?_⟩;rw[Int.toNat_natCast];refine db.uC yR.rd (aav _) (cks:=FK) (x:=f.f) (by rw[List.getElem?_map,hf];rfl) (by omega) ?_ hp;refine aq.of fun g6 w6 No gI f6 _=>av.aG gI rfl (OX f) fun w7 hU f7 s7=>aH.of fun w8 _ f8=>bb.of (fun k=>k=b) ?_;have zb:=h5.lt b h5.own.1;have f58:Fr none1 w5 w8:=(f6.fresh f7 (by omega)).dp f8;have h8:=h5.af f58;have b8:w8.heap[g6]? = some (.cells (dv f.f).toArray 42 (0,0)):=f8.af hU;have Io:∀ k,k=b->¬ (only g6) k:=fun k U t=>by have t:k=g6:=t;omega
 refine⟨rfl,h8.dP (hnd m) 0 (ck:=.int .i64) (x:=n.side) (by show some (Value.int .i64 (n.ag a).1.side)=some (Value.int .i64 n.side);rw[k3]) ⟨rfl,h8.dP (hnd m) 4 (ck:=.int .i64) (x:=n.aV) (by show some (Value.int .i64 (n.ag a).1.aV)=some (Value.int .i64 n.aV);rw[k4]) ⟨rfl,h8.dP (hnd m) 5 (ck:=.int .i64) (x:=m) rfl ?_⟩⟩⟩;refine ay.ai b8 (by show _<15;decide) rfl fun w9 nF f9 s9=>ak.on f9 Io ?_;refine ay.ai nF (by simp[dv]) rfl fun aK rr f10 yS=>ak.on f10 Io ?_;refine ay.ai rr (by simp[dv]) rfl fun aR pw f11 rI=>ak.on f11 Io ?_;have pw:aR.heap[g6]? = some (.cells (dv (cU.f (n.side,n.aV,m,f.2.2.2))).toArray 42 (0,0)):=pw;refine aH.of fun aO _ f12=>bb.all ?_;have Ab:Fr none1 w5 aO:=(((f58.fresh f9 (by omega)).fresh f10 (by omega)).fresh f11 (by omega)).dp f12;have Pr:=h5.af Ab;refine aE.all (Pr.key (hnd m) (aE.all (az.aG (cks:=FK) (x:=cU.f (n.side,n.aV,m,f.2.2.2)) (f12.af pw) ?_)));have aaz:fH N aO:=((t4.trans ⟨⟨_,_,_,_,_,h5⟩,fun k U=>.inl U,.inr (.inl rfl),Pq f5⟩:eS N w F b (nd m) fb fg w5 F4 rQ).nh h ht).af Ab;refine ab.of (Xx (nd m).kb (hnd m) (n.side,n.aV,m,f.2.2.2) rE.1.e rE.1.2.2.2.2 rE.2 aO aaz.nh) ?_;rw[show(nd m).kb=n.kb from k2];generalize jX n.kb (n.side,n.aV,m,f.2.2.2)=Z at *;rintro _ aW ⟨v,rfl,hv,f13⟩;refine⟨(v,Z.2,()),rfl,ak.of f13 (aa.ne (fun aA=>?_) (fun Ip=>?_))⟩
 ·have aA:Z.2≠0:=aA
  rw[if_pos aA] at rR;have e:nN done ([],m,Z.2)=([],m,Z.2):=by unfold nN;rw[if_pos aA]
  rw[e] at rR;rw[rR];exact⟨(none,0,0),rfl,fin (Pr.af f13) ((f5.dp Ab).dp f13) (zm _ (fun _=>False) (fun k t=>t.elim)) (fun k t=>t.elim)⟩
 have Ip:Z.2=0:=Ip;rw[if_neg (fun t=>t Ip),aat] at rR;have CF:Fr none1 w5 aW:=Ab.trans f13;have aaA:=qt.af CF;have Iq:∀ k,au v k->aO.heap.size<=k:=hv.lo;have zc:=Ab.size;have zc':=CF.size;have yQ:=qt.lt;obtain⟨y,bu,r,bL,r14,f14,r15,f15,S2,qq,aaB⟩:=aaA.snoc hv.is.rd hv.is.cap (fun k U=>⟨aD.lt hv.is U,fun t=>by have:=yQ k t;have:=Iq k U;omega⟩) (by omega);refine⟨y,bu,r14,r,bL,r15,?_⟩;have f5d:Fr none1 w5 bL\/True:=.inr trivial;have pF:∀ k,au q k->¬ (only b) k/\¬ F4 k/\k≠fb/\k≠rQ:=fun k U=>by
  have h1:=mU k (qt.own k U);have:=h4.lt b h4.own.1;have:=h4.jr.file.lt;have:=h4.jr.file.pB;exact⟨fun t=>by have t:k=b:=t;omega,fun t=>by have:=h4.lt k t;omega,by omega,by omega⟩
 have Ir:fI N bL F4 b (nd m) fb rQ j pb wb S (fun k=>Fp k\/cq w3 w4 k):=(h5.af CF).ag f15 (fun k U t=>(pF k t).2.1 U) (fun t=>(pF fb t).2.2.1 rfl) (fun t=>(pF rQ t).2.2.2 rfl);have f45:Fr (only b) w4 bL:=by
  refine(f5.dp CF).comp f15 fun k U t=>?_;have:=mU k (qt.own k t);omega
 refine Ir.dP (hnd m) 5 (ck:=.int .i64) (x:=m) rfl ?_;have hwm:IntKind.i64.wrap (m+1)=m+1:=wI (by omega) (by omega);rw[hwm];refine tk (hnd m) Ir.aG 5 (by show 5<6;decide) rfl fun br BC f16 Vg=>?_;rw[aah] at BC;obtain⟨CG,_⟩:=Ir.cell (n':=nd (m+1)) f16 BC rfl rfl rfl;refine⟨⟨i+1,m+1,done++[Z.1],S2,?_,by omega,by omega,aaB.ag f16 (fun k U t=>?_),fun k U=>?_,CG,rR,by simp;omega,f45.trans f16⟩,?_⟩
 ·dsimp only;rw[wI (by omega) (by omega)];omega
 ·have t:k=b:=t
  have:=h4.lt b h4.own.1
  rcases qq k U with q | q | q
  ·have:=mU k q;omega
  ·have:=Iq k q;omega
  ·omega
 ·rcases qq k U with q | q | q
  ·exact mU k q
  ·have:=Iq k q;omega
  ·omega
 ·dsimp only;rw[wI (by omega) (by omega)];omega
theorem Ps {N:Nat}{w:World}{F:Nat->Prop}{b:Nat}{n:NodeM}{fb fg:Nat}(h:gR N w F b n fb fg)(U:n.kb.length=16)(ho:dK n.p)(hj:n.j.rs.length<=1000000)(hn:0<=n.number/\n.number<=1000000000)(ht:fH N w):
  Ret Tryz.prog 13 #[.pointer (some ⟨b,0,none⟩)] w fun r w'=>∃ v:Sl,r=.tuple #[.slice v.1 v.2.1 v.2.2,.int .i64 n.tick.2.2]/\pM N w F b n.tick.1 fb fg n.tick.2.1 v w':=by
 obtain⟨aU,CE,Ik,Pk,_,_⟩:=h.lt;refine c13 _ w _ ?_;unfold C13;refine ab.of (Pe h U) ?_;rintro _ _ ⟨rfl,rfl⟩;refine⟨_,rfl,aa.by (fun hd=>?_) (fun hd=>?_)⟩
 ·have hd:n.dead=true:=hd
  have e:n.tick=(n,[],11):=by unfold NodeM.tick;rw[if_pos hd]
  rw[e];exact⟨(none,0,0),rfl,pM.none (eS.refl h)⟩
 have hd:n.dead=false:=hd;have e:n.tick=n.act n.p.tick:=by unfold NodeM.tick;rw[if_neg (by rw[hd];simp)]
 rw[e];have h':=h;obtain⟨j,pb,wb,S,Fp,h'⟩:=h';refine h'.dP U 2 (ck:=.ptr) (x:=some ⟨pb,0,none⟩) rfl ?_;refine ab.of (ZY h'.pr ho ht.nh) ?_;rintro _ w1 ⟨⟨s,rfl,hs,sf⟩,f1⟩;refine⟨pL n.p.tick s,rfl,?_⟩;refine ab.of (aaw (h.af f1) U ho hj hn (ht.af f1) n.p.tick s ho.tick hs fun k U=>?_) ?_
 ·have:=sf k U
  exact⟨fun t=>by have:=aU k t;omega,by omega⟩
 rintro _ w2 ⟨v,rfl,h2⟩;exact⟨(v,(n.act n.p.tick).2.2,()),rfl,v,rfl,h2.eG f1⟩
namespace Vc
end Vc
theorem aaC (n:NodeM)(b:List UInt8):n.aV<=(n.record b).1.aV/\(n.record b).1.aV<=n.aV+1:=by
 unfold NodeM.record;split
 ·exact⟨by simp,by dsimp only;omega⟩
 split
 ·exact⟨by dsimp only;omega,by simp⟩
 split
 ·split<;>exact⟨by simp,by dsimp only;omega⟩
 split
 ·split
  ·exact⟨by simp,by dsimp only;omega⟩
  split<;>exact⟨by simp,by dsimp only;omega⟩
 ·exact⟨by simp,by dsimp only;omega⟩
def aaD (N:Nat)(w:World)(fb fg:Nat)(o:bM×Option NodeM×Int)(r:Value)(w':World):Prop:=
  ∃ dF,(dF=fb\/dF=fg\/cq w w' dF)/\Fr (only fb) w w' /\
    ((∃ b n F,o.2.1=some n/\n.j.fs=o.1/\o.2.2=0/\r=.tuple #[.pointer (some ⟨b,0,none⟩),.int .i64 0]/\gR N w' F b n fb dF/\∀ k,F k->cq w w' k) \/
     (o.2.1=none/\o.2.2≠0/\r=.tuple #[.pointer none,.int .i64 o.2.2]/\gn w' fb dF o.1))
theorem Pt {N:Nat}{w:World}{fb fg:Nat}{s:bM}(h:gn w fb fg s)(hd:s.dead=false){kb:List UInt8}(U:kb.length=16)(side:Int)(ht:fH N w)(hN:N<=fb):
  Ret Tryz.prog 10 #[.pointer (some ⟨fb,0,none⟩),.agg (cK kb).toArray,.int .i64 side] w (aaD N w fb fg (NodeM.open_ kb side s)):=by
 refine c10 _ (cK kb) side w _ ?_;unfold C10;refine aq.of fun g1 w1 di ar f1 s1=>?_;refine bQ.of (fun st w'=>st.1=decide (side≠0/\side≠1)/\w1=w') ?_ ?_
 ·refine aa.ne (fun h0=>⟨?_,rfl⟩) (fun h0=>⟨?_,rfl⟩)
  ·have h0:side≠0:=h0
   show(side != 1)=_
   by_cases h1:side=1
   ·rw[decide_eq_false (by simp[h1])];simpa using h1
   ·rw[decide_eq_true ⟨h0,h1⟩];simpa using h1
  ·have h0:side=0:=h0
   show false=_;rw[decide_eq_false (by simp[h0])]
 rintro _ ⟨st,_⟩ _ ⟨cV,rfl⟩;dsimp only at cV ⊢;subst cV;have h1:=h.af f1;have ofl:=h.lt;have ogl:=h.pB;have z1:=f1.size;refine aa.dec (fun hs=>?_) (fun hs=>?_)
 ·have e:NodeM.open_ kb side s=(s,none,1):=by unfold NodeM.open_;rw[if_pos hs]
  rw[e];exact⟨fg,.inr (.inl rfl),f1.mono fun _ _ t=>t.elim,.inr ⟨rfl,(show(1:Int)≠0 by decide),rfl,h1⟩⟩
 have qv:side=0\/side=1:=by
  by_cases h0:side=0
  ·exact .inl h0
  ·by_cases h1:side=1
   ·exact .inr h1
   ·exact absurd ⟨h0,h1⟩ hs
 obtain⟨rows,rest,hP⟩:=Xb s.b.length s.b (Nat.le_refl _);have BY:=hP.len;have jE:=h.ok.len;refine ab.of (W5 h1 hd hP) ?_;rintro _ w2 (⟨j,S,g',s',rfl,jm,f2,qq,ry,J2,xB⟩ | ⟨NI,CH,rfl,t2⟩)
 rotate_left
 ·have eo:(lv s)=((kR s ((s.b.length - rest.length:Nat):Int)).1,[],(kR s ((s.b.length - rest.length:Nat):Int)).2):=by
   unfold lv;rw[GX hP,if_neg (by rw[hd];simp)];dsimp only;rw[if_neg NI,if_pos CH]
  have e:NodeM.open_ kb side s=((kR s ((s.b.length - rest.length:Nat):Int)).1,none,(kR s ((s.b.length - rest.length:Nat):Int)).2):=by
   unfold NodeM.open_;rw[if_neg hs,eo,if_pos CH]
  rw[e];obtain⟨f2,g',ry,h2⟩:=t2;refine⟨(none,_,()),rfl,aa.ne (fun aA=>?_) (fun he=>absurd he CH)⟩;exact⟨g',ry.imp_right fun t=>t.imp_right fun t=>⟨by omega,h2.pB⟩,f1.eG f2,.inr ⟨rfl,CH,rfl,h2⟩⟩
 have eo:lv s=(s',rows,0):=by
  unfold lv;rw[GX hP,if_neg (by rw[hd];simp)];dsimp only
  rcases xB with⟨hr,rfl⟩ | ⟨hr,hc,rfl⟩
  ·rw[if_pos hr]
  ·rw[if_neg hr,hc,if_neg (by simp)]
 refine⟨(some ⟨j,0,none⟩,0,()),rfl,aa.f rfl ?_⟩;have z2:=f2.size;have aaE:g1≠fb:=by omega
 refine aH.of fun w3 _ f3=>bb.all ?_;have b3:=f3.af (f2.ag ar aaE);refine aE.all (eF.of b3 (by rw[kF,U]) (aE.all (eF.of b3 (by rw[kF,U]) ?_)));refine ab.of (aaf U side w3) ?_;rintro _ w4 ⟨pb,rfl,wO,f4⟩;refine⟨some ⟨pb,0,none⟩,rfl,ak.of f4 ?_⟩;refine ab.of (VQ w4) ?_;rintro _ w5 ⟨wb,hwb,rfl,f5,Cu⟩;refine⟨some ⟨wb,0,none⟩,rfl,ak.of f5 ?_⟩;refine Cp U fun y hy=>aq.of fun b w6 hb gI f6 s6=>ak.of f6 ?_;have gI:w6.heap[b]? = some (.cells (Cs.vals rK y++[Value.int .i64 side,.pointer (some ⟨j,0,none⟩),.pointer (some ⟨pb,0,none⟩),.pointer (some ⟨wb,0,none⟩),.int .i64 0,.int .i64 0]).toArray 104 (0,0)):=gI;rw[hy] at gI;have z3:=f3.size;have z4:=f4.size;have z5:=f5.size;have jl:=J2.zp;have BO:=J2.file.pB;have mZ:=Cu.lt;have CI:=J2.slt;have pbn:cq w3 w4 pb:=by obtain⟨c,l,Fc,Fl,q⟩:=wO;exact q.mem
 have f26:Fr none1 w2 w6:=((f3.trans f4).trans f5).trans f6;have e0:NodeM.fresh kb side s' rows=⟨kb,side,⟨s',false,rows⟩,lT kb side,sV,0,0⟩:=rfl
 -- Ii is the new abA own
 have abB:∀ k,w.heap.size<=k->k≠fb:=fun k U t=>by omega
 have n6:fI N w6 (fun k=>k=b\/k=wb\/k=j\/S k\/cq w3 w4 k) b (NodeM.fresh kb side s' rows) fb g' j pb wb S (cq w3 w4):=by
  refine⟨gI,J2.af f26,wO.af (f5.trans f6),Cu.ag f6 (fun t=>t),⟨.inl rfl,.inr (.inl rfl),.inr (.inr (.inl rfl)),fun k U=>.inr (.inr (.inr (.inl U))),fun k U=>.inr (.inr (.inr (.inr U)))⟩,?_,?_,?_,?_,hN⟩
  ·refine⟨by omega,by omega,by omega,fun t=>by have:=CI b t;omega,fun t=>by have:=CI wb t;omega,fun t=>by have:=t.2;omega,fun t=>by have:=t.2;omega,fun t=>by have:=t.1;omega,fun k U t=>by have:=CI k U;have:=t.1;omega⟩
  ·refine⟨fun t=>?_,fun t=>?_⟩
   ·rcases t with t | t | t | t | t
    ·omega
    ·omega
    ·omega
    ·have:=qq fb t;omega
    ·have:=t.1;omega
   ·rcases t with t | t | t | t | t
    ·omega
    ·omega
    ·exact J2.ne.2 (Eq.symm t)
    ·exact(J2.off g' t).2.2 rfl
    ·have:=t.1;omega
  ·intro k U
   rcases U with t | t | t | t | t
   ·omega
   ·omega
   ·omega
   ·have:=CI k t;omega
   ·have:=t.2;omega
  ·intro k U
   have hNw:N<=w.heap.size:=ht.le
   rcases U with t | t | t | t | t
   ·omega
   ·omega
   ·omega
   ·have:=qq k t;omega
   ·have:=t.1;omega
 generalize Pu:(fun k=>k=b\/k=wb\/k=j\/S k\/cq w3 w4 k)=F0 at n6;have Pw:∀ k,F0 k->w.heap.size<=k:=by
  intro k U;rw[<- Pu] at U
  rcases U with t | t | t | t | t
  ·omega
  ·omega
  ·omega
  ·have:=qq k t;omega
  ·have:=t.1;omega
 have B9:Fr (only fb) w w6:=(f1.eG f2).dp f26;have zu:∀ {w':World},w2.heap.size<=w'.heap.size->(g'=fb\/g'=fg\/cq w w' g'):=fun hz=>ry.imp_right fun t=>t.imp_right fun t=>⟨by omega,by omega⟩;refine ab.of (Wp (J2.af f26) (by omega) (fun r hr=>by have:=BY.2 r hr;omega)) ?_;rintro _ w7 ⟨v,Sv,rfl,Is,f7,hSv⟩;refine⟨v,rfl,?_⟩;have n7:=n6.af f7;have cC:=Is.len;have aaF:=Is.lt;have abC:(NodeM.fresh kb side s' rows).p.kb.length=16:=U;have zz:Fr (only fb) w w7:=B9.dp f7;have z6:=f26.size;have z7:=f7.size;have F0l:∀ k,F0 k->k<w6.heap.size:=n6.lt;refine bj.of (fun q w'=>∃ (i:Nat) (n:NodeM) (F' xj:Nat->Prop),q.1=(i:Int)/\i<=rows.length/\fI N w' F' b n fb g' j pb wb S xj/\(NodeM.fresh kb side s' rows).records rows=n.records (rows.drop i)/\(0<=n.aV/\n.aV<=i)/\dK n.p/\n.kb=kb/\n.side=side/\n.j=⟨s',false,rows⟩ /\
   Fr (only fb) w w'/\w7.heap.size<=w'.heap.size/\(∀ k,F' k->F0 k\/cq w7 w' k)/\il w' Sv v rows) (fun q _=>(rows.length - q.1).toNat)
  ⟨0,_,F0,_,rfl,Nat.zero_le _,n7,rfl,⟨Int.le_refl _,Int.le_refl _⟩,Ni U side,rfl,rfl,rfl,zz,Nat.le_refl _,fun k U=>.inl U,Is⟩ ?_
 rintro _ ⟨q,_⟩ w8 ⟨i,n,F',xj,Aa,iz,n8,lx,It,Px,As,vq,rD,Iu,z8,Iv,Py⟩;dsimp only at Aa ⊢;subst Aa;have ht8:fH N w8:=ht.ag Iu fun k t=>by have t:k=fb:=t;omega
 have Iw:n.kb.length=16:=by rw[As];exact U
 have CJ:∀ k,F' k->cq w w8 k:=fun k U=>by
  rcases Iv k U with t | t
  ·exact⟨Pw k t,n8.lt k U⟩
  ·exact⟨by have:=t.1;omega,t.2⟩
 have J8:ib w8 S j fb g' s' false rows:=by have:=n8.jr;rw[rD] at this;exact this
 have Pz:∀ {w':World},w8.heap.size<=w'.heap.size->(g'=fb\/g'=fg\/cq w w' g'):=fun hz=>ry.imp_right fun t=>t.imp_right fun t=>⟨by omega,by omega⟩;refine aa.dec (fun aU=>?_) (fun dh=>?_)
 ·have aU:(i:Int)<(v.2.1:Int):=aU
  have hi:i<rows.length:=by omega
  refine Py.M0 (by omega) aU fun u hu oy hus=>?_;rw[Int.toNat_natCast] at hu;have hx:rows.getD i []∈rows:=by rw[List.getD_eq_getElem?_getD,List.getElem?_eq_getElem hi];exact List.getElem_mem hi
  have kj:=BY.2 _ hx;have zU:rows.drop i=rows.getD i []::rows.drop (i+1):=by
   rw[List.getD_eq_getElem?_getD,List.getElem?_eq_getElem hi,List.drop_eq_getElem_cons hi];rfl
  rw[zU,rA] at lx;refine ab.of (aan n8 Iw Px (by rw[vq];exact qv) ⟨It.1,by omega⟩ ht8 hu oy (by omega)) ?_;rintro _ w9 ⟨rfl,F9,Fp9,n9,t9⟩;have hre:=aaC n (rows.getD i []);obtain⟨r1,r2,r3,r4,r5⟩:=Nz n (rows.getD i []);have hrp:=(NJ Px (rows.getD i [])).1;have z9:=t9.f.size;have PA:Fr (only fb) w w9:=Iu.comp t9.f fun k U t=>by
   rcases t with t | t
   ·have:=(CJ k t).1;omega
   ·exact t
  refine⟨_,rfl,aa.not (aa.by (fun hA=>?_) (fun hA=>?_))⟩
  ·have hA:(n.record (rows.getD i [])).2=true:=hA
   rw[if_pos hA] at lx;refine⟨⟨i+1,(n.record (rows.getD i [])).1,F9,Fp9,?_,hi,n9,lx,⟨by have:=It.1;omega,by have:=It.2;omega⟩,hrp,r1.trans As,r2.trans vq,r3.trans rD,PA,by omega,fun k U=>?_,?_⟩,?_⟩
   ·rw[wI (by omega) (by omega)];omega
   ·rcases t9.sub k U with t | t
    ·exact(Iv k t).imp_right fun t=>⟨t.1,by have:=t.2;omega⟩
    ·exact .inr ⟨by have:=t.1;omega,t.2⟩
   ·refine Py.ag t9.f fun k U t=>?_
    have h1:=hSv k U;have h2:=aaF k U
    rcases t with t | t
    ·rcases Iv k t with t | t
     ·have:=F0l k t;omega
     ·have:=t.1;omega
    ·omega
   ·rw[wI (by omega) (by omega)];omega
  ·have hA:(n.record (rows.getD i [])).2=false:=hA
   rw[if_neg (by rw[hA];simp)] at lx;have e:NodeM.open_ kb side s=(s',none,12):=by unfold NodeM.open_;rw[if_neg hs,eo];dsimp only;rw[if_neg (fun t=>t rfl),lx];rfl
   rw[e];have J9:gn w9 fb g' s':=by have:=n9.jr.file;rw[r3,rD] at this;exact this
   exact⟨g',Pz z9,PA,.inr ⟨rfl,(show(12:Int)≠0 by decide),rfl,J9⟩⟩
 ·have dh:¬ (i:Int)<(v.2.1:Int):=dh
  have hi:i=rows.length:=by omega
  rw[hi,List.drop_length] at lx;have lx:(NodeM.fresh kb side s' rows).records rows=(n,true):=lx;refine yZ 1 fun u w9 hu f9 lQ=>?_;have n9:=n8.af f9;have J9:=J8.af f9;have ze:=f9.size;refine ab.of (MM J9 hu.rd (fun k U=>?_) (by omega)) ?_
  ·have:=lQ k U
   have h1:=J8.zp;have h2:=J8.file.lt;exact⟨aD.lt hu U,by omega,by omega,fun t=>by have:=J8.slt k t;omega⟩
  rintro _ aK ⟨rfl,t10⟩;obtain⟨PB,g10,uK,xk,CK⟩:=n9.Pd (J:=(n.j.put [1]).1) (by unfold j1.put;rw[rD];exact t10);have z10:=CK.f.size;have PC:Fr (only fb) w aK:=(Iu.dp f9).comp CK.f fun k U t=>by
   rcases t with t | t
   ·have:=(CJ k t).1;omega
   ·exact t
  have PD:g10=fb\/g10=fg\/cq w aK g10:=by
   rcases CK.g with t | t | t
   ·exact .inl t
   ·rw[t];exact Pz (by omega)
   ·exact .inr (.inr ⟨by have:=t.1;omega,t.2⟩)
  have PE:∀ k,PB k->cq w aK k:=fun k U=>by
   rcases CK.sub k U with t | t
   ·exact⟨(CJ k t).1,by have:=(CJ k t).2;omega⟩
   ·exact⟨by have:=t.1;omega,t.2⟩
  have e0:NodeM.open_ kb side s=if(n.j.put [1]).2≠0 then((n.j.put [1]).1.fs,none,(n.j.put [1]).2) else((n.j.put [1]).1.fs,some { n with j:=(n.j.put [1]).1,aV:=n.aV+1 },0):=by
   unfold NodeM.open_;rw[if_neg hs,eo];dsimp only;rw[if_neg (fun t=>t rfl),lx,if_neg (by simp)]
  have ec:(iq s' false [1]).2.2.1=(n.j.put [1]).2:=by unfold j1.put;rw[rD]
  refine⟨(n.j.put [1]).2,by rw[ec];rfl,aa.ne (fun aA=>?_) (fun hz=>?_)⟩
  ·have aA:(n.j.put [1]).2≠0:=aA
   rw[e0,if_pos aA];exact⟨g10,PD,PC,.inr ⟨rfl,aA,rfl,xk.jr.file⟩⟩
  ·have hz:(n.j.put [1]).2=0:=hz
   rw[e0,if_neg (fun t=>t hz)];refine xk.dP Iw 4 (ck:=.int .i64) (x:=n.aV) rfl ?_;have hw:IntKind.i64.wrap (n.aV+1)=n.aV+1:=wI (by omega) (by omega);rw[hw];refine tk Iw xk.aG 4 (by show 4<6;decide) rfl fun aR pw f11 rI=>?_;rw[Ph] at pw;obtain⟨n11,t11⟩:=xk.cell (n':={ n with j:=(n.j.put [1]).1,aV:=n.aV+1 }) f11 pw rfl rfl rfl
   refine⟨g10,PD.imp_right fun t=>t.imp_right fun t=>⟨t.1,by have:=t.2;omega⟩,PC.comp f11 (fun k U t=>by have t:k=b:=t;have:=Pw b (by rw[<- Pu];exact .inl rfl);omega),.inl ⟨b,_,PB,rfl,rfl,rfl,rfl,⟨_,_,_,_,_,n11⟩,fun k U=>⟨(PE k U).1,by have:=(PE k U).2;omega⟩⟩⟩
def iW (d:Int):aQ:=(5,[],[],[],[],d,0,.none)
def eT:aQ×Bool:=(bp,false)
def pS (kb:List UInt8)(side:Int)(P O:aQ×Bool):PeerM:={ lT kb side with bB:=P,off:=O }
structure tn (m:aQ):Prop where
 PF:∀ s,s=0\/s=1->mN wo m s=0
 len:(da m).1.length=9
 same:sP m m=true
 small:dD m
theorem PG {d:Int}(h1:1<=d)(h2:d<=10000):tn (iW d):=by
 have hc:iF (iW d)=0:=by
  show mB (iW d).e (bh (iW d).t).2=0;have e1:¬ d<0:=by omega
  have e2:¬ d > 10000:=by omega
  simp[mB,mA,ob,iW,aQ.e,cI,fS,sF,gv,Tm.v,cv,e1,e2]
 refine⟨fun s hs=>?_,?_,VF (m:=iW d) (bs:=(da (iW d)).1) (Np hc),⟨show 0<=65535 by decide,show 0<=65535 by decide,show 0<=65535 by decide,show 0<=65535 by decide,show aJ .none<=1000000 by decide⟩⟩
 ·unfold mN gZ
  rw[if_neg (by omega),if_neg (fun t=>t hc),if_neg (by intro t;cases t),if_neg (by intro t;cases t),if_neg (by intro t;cases t),if_neg (by intro t;cases t),if_pos (show(iW d).kind=5 from rfl),if_neg (by show ¬ d<=0;omega)]
 ·have h:da (iW d)=(UInt8.ofNat ((iW d).e.1 % 256).toNat::(dZ (iW d).e.1).flatMap (eH (iW d).e (bh (iW d).t).1),0):=by
   unfold da iy;rw[if_neg (fun t=>t hc)]
  rw[h];have e5:dZ 5=[68]:=by decide +kernel
  show((dZ 5).flatMap (eH (iW d).e (bh (iW d).t).1)).length+1=9;rw[e5];show(bW d++[]).length+1=9;rw[List.append_nil,gU]
theorem aaG {kb:List UInt8}{side:Int}(hs:side=0\/side=1){m:aQ}(hm:tn m):(pS kb side eT eT).offer m=(pS kb side eT (m,true),0):=by
 have ht:mN (pS kb side eT eT).cy m (pS kb side eT eT).side=0:=by
  refine hm.PF _ ?_
  rcases hs with rfl | rfl
  ·exact .inl rfl
  ·exact .inr rfl
 unfold PeerM.offer;rw[if_neg (by intro t;cases t),if_neg (by rintro(t | ⟨t,_⟩)<;>cases t),if_neg (by intro t;cases t),if_neg (fun t=>t ht)]
 rfl
theorem aaH {kb:List UInt8}{m:aQ}(hm:tn m):(pS kb 0 eT (m,true)).tick={ eD with cM:=true,bI:=m,cz:=[PeerM.fr 1 0 0 false m] }:=by
 have ht:mN wo m 0=0:=hm.PF 0 (.inl rfl);unfold PeerM.tick;rw[if_neg (by intro t;cases t),if_neg (by intro t;cases t),if_neg (by intro t;cases t),if_pos ⟨rfl,rfl⟩];unfold PeerM.jY;rw[if_neg (fun t=>t ht)];rfl
theorem aaI {kb:List UInt8}{m:aQ}(hm:tn m):(pS kb 0 eT (m,true)).bD { eD with cM:=true,bI:=m,cz:=[PeerM.fr 1 0 0 false m] }=(pS kb 0 (m,true) eT,0):=by
 have hs:=hm.same;unfold PeerM.bD;rw[if_neg (by intro t;cases t)];have hd:(pS kb 0 eT (m,true)).oB { eD with cM:=true,bI:=m,cz:=[PeerM.fr 1 0 0 false m] }=true:=by
  show(false||(true&&(true&&sP m m)))=true;rw[hs];rfl
 unfold PeerM.ended;rw[if_pos hd];rfl
theorem aaJ {kb:List UInt8}{m:aQ}:(pS kb 0 (m,true) eT).tick={ eD with cz:=[PeerM.fr 1 0 0 false m] }:=by
 unfold PeerM.tick;rw[if_neg (by intro t;cases t),if_neg (by intro t;cases t),if_pos (show(pS kb 0 (m,true) eT).bB.2=true from rfl)];rfl
theorem aaK {kb:List UInt8}{m:aQ}:(pS kb 1 eT (m,true)).tick={ eD with cz:=[PeerM.fr 3 0 0 false bp] }:=by
 unfold PeerM.tick;rw[if_neg (by intro t;cases t),if_neg (by intro t;cases t),if_neg (by intro t;cases t),if_neg (by rintro⟨t,_⟩;cases t),if_neg (by rintro⟨t,_⟩;cases t),if_pos ⟨(by intro t;cases t),rfl⟩];rfl
theorem PH {kb:List UInt8}{side:Int}{P O:aQ×Bool}(l:List cU):(pS kb side P O).bD { eD with cz:=l }=(pS kb side P O,0):=by
 unfold PeerM.bD;rw[if_neg (by intro t;cases t)];rfl
theorem aaL {m:aQ}(hm:tn m)(l:List cU):(NodeM.dV { eD with cM:=true,bI:=m,cz:=l }).1.length=10:=by
 show((3:UInt8)::(da m).1).length=10;rw[List.length_cons,hm.len]
structure kT (Q:Int)(kb:List UInt8)(side i t:Int)(P O:aQ×Bool)(n:NodeM):Prop where
 p:n.p=pS kb side P O
 kb:n.kb=kb
 side:n.side=side
 live:Live n
 d:n.j.d=false
 lit:n.j.fs.lit=false
 cp:n.j.fs.cp=Q
 len:(n.j.fs.b.length:Int)<=4 * i+(if P.2=true then 13 else 0)
 aV:n.aV=i
 number:n.number=t
theorem PI {kb:List UInt8}(U:kb.length=16){side:Int}(hs:side=0\/side=1){q:Int}(h4:4<=(pC q).cp):
  ∃ m,NodeM.open_ kb side (pC q)=(m.j.fs,some m,0)/\kT (pC q).cp kb side 1 0 eT eT m/\m.w=sV/\m.j.fs.b.length=4:=by
 obtain⟨m,m1,m2,m3,m4,m5,m6,m7,m8,m9,m10,m11,m12,m13⟩:=Ye U hs h4;exact⟨m,m1,⟨m5,m3,m4,m2,m10,m11,m12,by rw[m13];decide,m6,m7⟩,m8,m13⟩
theorem kT.offer {Q:Int}{kb:List UInt8}{side i t:Int}{n:NodeM}(h:kT Q kb side i t eT eT n)(hs:side=0\/side=1){m:aQ}(hm:tn m):(n.offer m).2=0/\kT Q kb side i t eT (m,true) (n.offer m).1/\(n.offer m).1.j=n.j/\(n.offer m).1.w=n.w:=by
 have hl:=h.live.offer hm.small;have e:n.offer m=({ n with p:=(n.p.offer m).1 },(n.p.offer m).2):=by
  unfold NodeM.offer NodeM.dead;rw[if_neg (by rw[h.d];simp)]
 have ep:n.p.offer m=(pS kb side eT (m,true),0):=by rw[h.p];exact aaG hs hm
 rw[e,ep] at hl ⊢;exact⟨rfl,⟨rfl,h.kb,h.side,hl,h.d,h.lit,h.cp,h.len,h.aV,h.number⟩,rfl,rfl⟩
theorem kT.act {Q:Int}{kb:List UInt8}{side i t:Int}{P O P' O':aQ×Bool}{n:NodeM}(h:kT Q kb side i t P O n)(hi:0<=i/\i<=1000)(ht:0<=t/\t<=1000)(hQ:4 * i+13<=Q){a:cG}(hf:Fits n.p a)(ha:oF a)(hs:∀ f∈a.cz,uW f)
  (hE:a.dj=false) (hP:a.cM=true->P.2=false/\P'.2=true/\(NodeM.dV a).1.length=10) (Ix:a.cM=false->P'.2=P.2) (hc:(n.p.bD a).1=pS kb side P' O') :
  (n.act a).2=(a.cz.map (fun f=>(jX kb (side,i,t,f.2.2.2)).1),0)/\kT Q kb side i (t+(a.cz.length:Int)) P' O' (n.act a).1:=by
 obtain⟨k1,k2,k3,k4,k5,k6⟩:=GZ (n:=n) a;have kr:(n.ag a).2=0/\(n.ag a).1.j.fs.lit=false/\(n.ag a).1.j.d=false:=by
  cases hp:a.cM with
  | false=>
   have e:n.ag a=(n,0):=by unfold NodeM.ag;rw[if_pos ⟨hE,hp⟩]
   rw[e];exact⟨rfl,h.lit,h.d⟩
  | true=>
   obtain⟨q1,q2,q3⟩:=hP hp;have hl:=h.len;rw[q1,if_neg (by simp)] at hl;refine Yc h.live h.d h.lit hf (L:=10) (.inr (by omega)) ?_;rw[h.cp];omega
 have hcn:iG n.aV=true:=by rw[h.aV];unfold iG;rw[decide_eq_true (by omega),decide_eq_true (by omega)];rfl
 have p8:iG n.number=true:=by rw[h.number];unfold iG;rw[decide_eq_true (by omega),decide_eq_true (by omega)];rfl
 have e:=X6 h.live hf ha kr.1 hs hcn p8;have hl:=h.live.act h.d hf ha;rw[e] at hl ⊢;rw[h.kb,h.side,h.aV,h.number];obtain⟨l1,l2,l3,l4⟩:=Ya hf;refine⟨rfl,⟨hc,k2.trans h.kb,k3.trans h.side,by rw[h.number] at hl;exact hl,kr.2.2,kr.2.1,l2.trans h.cp,?_,k4.trans h.aV,rfl⟩⟩;have hl:=h.len;cases hp:a.cM with
 | false=>
  show(((n.ag a).1.j.fs.b.length:Nat):Int)<=_;rw[l3 hE hp,Ix hp];exact hl
 | true=>
  obtain⟨q1,q2,q3⟩:=hP hp;rw[q1,if_neg (by simp)] at hl;show(((n.ag a).1.j.fs.b.length:Nat):Int)<=_;rw[q2,if_pos rfl];omega
def CM (side:Int)(m:aQ)(P O:aQ×Bool):Prop:=(side=0/\P=eT/\O=(m,true))\/(side=0/\P=(m,true)/\O=eT)\/(side=1/\P=eT/\O=(m,true))
theorem kT.tick {Q:Int}{kb:List UInt8}{side i t:Int}{P O:aQ×Bool}{n:NodeM}(h:kT Q kb side i t P O n)(hi:0<=i/\i<=1000)(ht:0<=t/\t<=1000)(hQ:4 * i+13<=Q){m:aQ}(hm:tn m)(hw:CM side m P O):
  ∃ (f:List UInt8) (x:cU) (P' O':aQ×Bool),n.tick.2=([f],0)/\pA kb f=(x,0)/\f.length<=5000/\x.1=side/\x.2.1=i/\x.2.2.1=t/\kT Q kb side i (t+1) P' O' n.tick.1/\CM side m P' O'/\(side=0->P'=(m,true))/\(side=1->P'=eT):=by
 have e:n.tick=n.act n.p.tick:=by unfold NodeM.tick NodeM.dead;rw[if_neg (by rw[h.d];simp)]
 have hf:=XO n.p;have ha:=h.live.ok.tick;have hs:=X1 h.live.ok h.live.bB;have uI:iG i=true:=by unfold iG;rw[decide_eq_true (by omega),decide_eq_true (by omega)];rfl
 have hct:iG t=true:=by unfold iG;rw[decide_eq_true (by omega),decide_eq_true (by omega)];rfl
 have main:∀ (A:cG) (g:cU) (P' O':aQ×Bool),n.p.tick=A->A.cz=[g]->A.dj=false->(A.cM=true->P.2=false/\P'.2=true/\(NodeM.dV A).1.length=10)->(A.cM=false->P'.2=P.2)->(n.p.bD A).1=pS kb side P' O'->(side=0\/side=1)->g.2.2.2.2.2.1=0 ->
   ∃ (f:List UInt8) (x:cU),n.tick.2=([f],0)/\pA kb f=(x,0)/\f.length<=5000/\x.1=side/\x.2.1=i/\x.2.2.1=t/\kT Q kb side i (t+1) P' O' n.tick.1:=by
  intro A g P' O' hA rE hE hP Ix hc qv h0;rw[hA] at hf ha hs;obtain⟨a1,a2⟩:=h.act hi ht hQ hf ha hs hE hP Ix hc;rw[rE] at a1 a2;have hg:=hs g (by rw[rE];simp) side i t qv uI hct;rw[e,hA];refine⟨(jX kb (side,i,t,g.2.2.2)).1,(side,i,t,g.2.2.2),a1,X3 hg ?_,X4 hg,rfl,rfl,rfl,a2⟩;show 0<=g.2.2.2.2.2.1/\g.2.2.2.2.2.1<18446744073709551616;rw[h0];decide
 rcases hw with⟨rfl,rfl,rfl⟩ | ⟨rfl,rfl,rfl⟩ | ⟨rfl,rfl,rfl⟩
 ·obtain⟨f,x,b1,b2,b7,b3,b4,b5,b6⟩:=main _ _ (m,true) eT (by rw[h.p];exact aaH hm) rfl rfl (fun _=>⟨rfl,rfl,aaL hm _⟩) (fun t=>by cases t) (by rw[h.p,aaI hm]) (.inl rfl) rfl
  exact⟨f,x,_,_,b1,b2,b7,b3,b4,b5,b6,.inr (.inl ⟨rfl,rfl,rfl⟩),fun _=>rfl,fun t=>by cases t⟩
 ·obtain⟨f,x,b1,b2,b7,b3,b4,b5,b6⟩:=main { eD with cz:=[PeerM.fr 1 0 0 false m] } (PeerM.fr 1 0 0 false m) (m,true) eT (by rw[h.p];exact aaJ) rfl rfl (fun t=>by cases t) (fun _=>rfl) (by rw[h.p,PH]) (.inl rfl) rfl
  exact⟨f,x,_,_,b1,b2,b7,b3,b4,b5,b6,.inr (.inl ⟨rfl,rfl,rfl⟩),fun _=>rfl,fun t=>by cases t⟩
 ·obtain⟨f,x,b1,b2,b7,b3,b4,b5,b6⟩:=main { eD with cz:=[PeerM.fr 3 0 0 false bp] } (PeerM.fr 3 0 0 false bp) eT (m,true) (by rw[h.p];exact aaK) rfl rfl (fun t=>by cases t) (fun _=>rfl) (by rw[h.p,PH]) (.inr rfl) rfl
  exact⟨f,x,_,_,b1,b2,b7,b3,b4,b5,b6,.inr (.inr ⟨rfl,rfl,rfl⟩),(fun t=>by cases t),fun _=>rfl⟩
theorem kT.aaM {Q:Int}{kb:List UInt8}{side i t:Int}{P O:aQ×Bool}{n:NodeM}(h:kT Q kb side i t P O n)(hQ:4 * i+17<=Q)(ag sp:Int):
  ∃ m,NodeM.open_ kb side (lW n.j.fs ag sp)=(m.j.fs,some m,0)/\kT Q kb side (i+1) 0 P eT m/\m.w=sV:=by
 obtain⟨R,hR,hE,ho,hl⟩:=XY h.live ag sp;rw[h.kb,h.side] at hR hE ho;have hR:=hR.resolve_right (fun t=>by rw[h.d] at t;cases t.1);have hlen:=h.len;have abD:(n.j.fs.b.length:Int)<=4 * i+13:=by split at hlen<;>omega
 rcases ho with⟨m,m1,m2,m3,m4,m5,m6,m7,m8,m9,m10,m11,m12⟩ | ⟨s',_,h4,hb,hq⟩
 ·refine⟨m,m1,⟨?_,m3,m4,m2,m10,m11,m12.trans h.cp,?_,by rw[m6,h.aV],m7⟩,m8⟩
  ·rw[m5]
   have hp:=Yd kb side R;have hc:=hR.2;rw[h.p] at hc;exact df.eq (q:=pS kb side P eT) ⟨hc.kb,hc.side,hc.es,hc.hs,hc.cy,hc.bB⟩ hp.off hp.wanted hp.dJ hp.refused
  ·have e:m.j.fs.b.length=(cQ R).length+4:=by rw[NS m2 m10,m9,NT]
   rw[e];push_cast;omega
 ·rw[hb,hq,h.cp] at h4;omega
def xl:List UInt8:=List.replicate 16 0
def vc (ys:List UInt8):List UInt8:=ys.take 16++List.replicate (16 - ys.length) 0
theorem aaN (ys:List UInt8):(vc ys).length=16:=by unfold vc;rw[List.length_append,List.length_take,List.length_replicate];omega
theorem aaO {w:World}{g:Nat}{T:TypeId}{y:Sl}{ys:List UInt8}(hb:w.heap[g]? = some (.cells (cK xl).toArray T (0,0)))(hy:aY w y ys)(o:TypeId){K:Int->World->Prop}
  (k:∀ r w',w'.heap[g]? = some (.cells (cK (vc ys)).toArray T (0,0))->Fr (only g) w w'->K r w') :
  aw Tryz.prog (Builtin.copy_ #[22,22] o #[.slice (some ⟨g,0,none⟩) 16 16,.slice y.1 y.2.1 y.2.2]) w (.v (.one (.int .i64))) (fun(x:Int) w'=>K x w'):=by
 obtain⟨hu,⟨i,hi,hs,hz,pV⟩,hc,nW⟩:=mm;have lI:∀ w,(sizeOf 5).run Tryz.prog w=.ok 1 w:=fun w=>by rw[jK hi,hs]
 have hlen:∀ w,(Builtin.lenOf (.slice y.1 y.2.1 y.2.2)).run Tryz.prog w=.ok y.2.1 w:=fun w=>rfl;have gM:=hy.len;obtain⟨n,hn⟩:∃ n,n=min ys.length 16:=⟨_,rfl⟩;have hm:Nat.min y.2.1 16=n:=by rw[gM,hn]
 have vt:aY w (y.1,n,y.2.2) (ys.take n):=by
  obtain⟨h1,h2,h3⟩:=hy;refine⟨by simp;omega,fun e=>?_,fun a ha=>?_⟩
  ·obtain⟨e1,e2,e3⟩:=h2 e
   have:ys=[]:=by simpa using e3
   subst this;exact⟨by simp[hn],e2,by simp⟩
  ·rw[List.map_take];exact vx _ 0 n (h3 a ha)
 have Ax:(Builtin.firstCells 1 n (.slice y.1 y.2.1 y.2.2)).run Tryz.prog w=.ok ((ys.take n).map bc).toArray w:=by
  have:=db.first (P:=Tryz.prog) vt
  obtain⟨y1,y2,y3⟩:=y;cases y1<;>exact this
 obtain⟨hw,jt,a1,a2,a3,a4,a5,a6⟩:=Dx ((ys.take n).map bc) w (cK xl).toArray 0 0 hb (by simp[cK,xl];omega) (Jm _);have PJ:=LV ((ys.take n).map bc) w (cK xl).toArray jt 0 0 hb a1;have hcs:jt=(cK (vc ys)).toArray:=by
  apply Array.ext';apply List.ext_getElem?;intro j;rw[Array.getElem?_toList];show jt[j]? = (cK (vc ys))[j]?;simp only[List.length_map,List.length_take,Nat.zero_add] at PJ a3;unfold cK vc;rw[List.map_append]
  by_cases hj:j<n
  ·have:=a3 j (by omega)
   rw[this,List.getElem?_append_left (by simp;omega)];rw[show ys.take n=ys.take 16 by rw[hn,List.take_eq_take_iff];omega]
  ·have q:=PJ j (by omega)
   rw[q,List.getElem?_append_right (by simp;omega),List.getElem?_toArray];unfold cK xl;rw[List.map_replicate,List.map_replicate,List.getElem?_replicate,List.getElem?_replicate];simp only[List.length_map,List.length_take]
   by_cases CG:j<16
   ·rw[if_pos CG,if_pos (by omega)]
   ·rw[if_neg CG,if_neg (by omega)]
 refine⟨(n:Int),setCells w ⟨g,0,none⟩ 0 ((ys.take n).map bc),?_,k _ _ (by rw[<- hcs];exact a1) a5⟩;unfold Builtin.copy_;simp only[Sem.run_bind,under hu,Result.andThen_ok,lI,List.getElem?_toArray,List.getElem?_cons_zero,List.getElem?_cons_succ,Sem.run_pure,hlen,hm,Ax];rw[show(storeCells ⟨g,0,none⟩ (((ys.take n).map bc).toArray).toList 0).run Tryz.prog w=.ok () _ from vl ((ys.take n).map bc) 0 w hw];rfl
theorem aaP {g:Nat}{K:Option Addr->Nat->Nat->Prop}(k:K (some ⟨g,0,none⟩) 16 16):eu (some ⟨g,0,none⟩) 16 0 16 16 1 K:=by
 refine⟨by decide,by decide,by decide,by decide,?_⟩;have e:(if(16:Int)=0 then some (⟨g,0,none⟩:Addr) else(some (⟨g,0,none⟩:Addr)).map (·.add ((0:Int).toNat * 1)))=some ⟨g,0,none⟩:=by
  rw[if_neg (by decide),Option.map_some,dw];rfl
 rw[e];exact k
theorem PK (v of:Int)(xm:of<=9223372036854775807){wc:World}{K:Int->World->Prop}(k:K (within v of) wc):ab Tryz.prog 9 #[.int .i64 v,.int .i64 of] wc (.v (.one (.int .i64))) (fun(x:Int) w'=>K x w'):=by
 refine ab.of (TO v of wc xm) ?_;rintro _ _ ⟨rfl,rfl⟩;exact⟨_,rfl,k⟩
theorem eS.new {N:Nat}{w0 w w':World}{F F':Nat->Prop}{b:Nat}{n n':NodeM}{fb fg dF:Nat}(h0:gR N w F b n fb fg)(t:eS N w F b n' fb fg w' F' dF)(f0:Fr none1 w0 w)(hN:w0.heap.size=N):Fr none1 w0 w':=
 f0.comp t.f fun k U q=>by
  obtain⟨a,b⟩:=h0.lo
  rcases q with q | q
  ·have:=a k q;omega
  ·omega
def aaQ:List UInt8:=1::List.replicate 15 0
theorem aaR (w:World)(ht:TabW w):Ret Tryz.prog 16 #[] w fun r w'=>r=.bool true/\Fr none1 w w':=by
 refine c16 w _ ?_;unfold C16;refine ab.of (MA 500 w) ?_;rintro _ w1 ⟨fb,rfl,CE,f1,i1⟩;refine⟨some ⟨fb,0,none⟩,rfl,aa.f rfl ?_⟩;have U:aaQ.length=16:=rfl;obtain⟨m,mo,ml,mw,mb⟩:=PI U (side:=0) (.inl rfl) (q:=500) (by decide);have PL:=(fH.of ht).af f1;refine ab.of (Pt i1 rfl U 0 PL CE) ?_;rw[mo];rintro _ w2 ⟨rQ,mI,f2,(⟨b,n,F,hn,_,_,rfl,hR,hF⟩ | ⟨hn,_⟩)⟩
 rotate_left
 ·cases hn
 obtain rfl:m=n:=by injection hn
 have PM:=PL.ag f2 fun k t=>by have t:k=fb:=t;omega
 have mW:Fr none1 w w2:=f1.comp f2 fun k U t=>by have t:k=fb:=t;omega
 refine⟨(some ⟨b,0,none⟩,0,()),rfl,aa.f rfl (aa.f rfl ?_)⟩;have Ac:m.kb.length=16:=by rw[ml.kb];exact U
 refine ab.of (Pf hR Ac) ?_;rintro _ _ ⟨rfl,rfl⟩;refine⟨_,rfl,aa.ne (fun t=>absurd ml.aV t) (fun _=>?_)⟩;have yB:=PG (d:=1) (by decide) (by decide);obtain⟨o1,o2,o3,o4⟩:=ml.offer (.inl rfl) yB;refine ab.of (Pg hR Ac ml.live.ok PM (iW 1) yB.small.2.2.2.2) ?_;rw[o1];rintro _ w3 ⟨rfl,F3,t3⟩;refine⟨_,rfl,aa.f rfl ?_⟩;have aaS:=t3.nh hR PM;have Md:=t3.new hR mW rfl;obtain⟨g,x,P',O',q1,_⟩:=o2.tick (by decide) (by decide) (by decide) yB (.inl ⟨rfl,rfl,rfl⟩);refine ab.of (Ps t3.r (by rw[o2.kb];exact U) o2.live.ok o2.live.NP (by rw[o2.number];decide) aaS) ?_;rw[q1];rintro _ w4 ⟨v,rfl,h4⟩;obtain⟨F4,fg4,S4,t4,r4,_⟩:=h4.out;refine⟨(v,0,()),rfl,aa.t rfl ?_⟩;have hv:=r4.len;rw[hv];exact⟨rfl,t4.new t3.r Md rfl⟩
def C3 (p0:Option Addr)(aI aN:Nat)(p1:Int)(p2:Int)(p3:Bool)(w:World)(K:Value->World->Prop):Prop:=
 aq (.cells #[.int .u8 0,.int .u8 0,.int .u8 0,.int .u8 0,.int .u8 0,.int .u8 0,.int .u8 0,.int .u8 0,.int .u8 0,.int .u8 0,.int .u8 0,.int .u8 0,.int .u8 0,.int .u8 0,.int .u8 0,.int .u8 0] 24) w (fun g1 w2=>eu (some (ad g1)) 16 0 16 16 1 (fun a3 l4 c5=>aw Tryz.prog (Builtin.copy_ #[22,22] 3 #[.slice a3 l4 c5,.slice p0 aI aN]) w2 (.v (.one (.int .i64))) (fun(x6:Int) w7=>ab Tryz.prog 8 #[.int .i64 4000] w7 (.v (.one .ptr)) (fun(x8:Option Addr) w9=>aa (Option.isNone x8)
 (K (.bool false) w9)
 (bQ (Int×Unit) (fun qy=>aa p3
 (qy (1,()) w9)
 (qy (0,()) w9))
 (fun _ rI aO=>ab Tryz.prog 9 #[.int .i64 p1,.int .i64 5] aO (.v (.one (.int .i64))) (fun(bC:Int) bu=>ab Tryz.prog 9 #[.int .i64 p2,.int .i64 5] bu (.v (.one (.int .i64))) (fun(bm:Int) br=>bj (Int×Unit) (fun _ mT bx FL=>aa (decide (mT.1<=(IntKind.i64.wrap (1+bC))))
 (eF 16 (ad g1) bx (fun cm=>ab Tryz.prog 10 #[.pointer x8,.agg cm.toArray,.int .i64 rI.1] bx (.aP [.one .ptr,.one (.int .i64)]) (fun(b9:Option Addr×Int×Unit) bA=>aa (b9.2.1 != 0)
 (K (.bool false) bA)
 (aa (Option.isNone b9.1)
 (K (.bool false) bA)
 (ab Tryz.prog 11 #[.pointer b9.1] bA (.v (.one (.int .i64))) (fun(cc:Int) bU=>aa (cc != mT.1)
 (K (.bool false) bU)
 (bQ (Unit) (fun PN=>bQ (Bool×Unit) (fun th=>aa (mT.1==1)
 (th (true,()) bU)
 (th ((rI.1==1),()) bU))
 (fun _ H4 cn=>aa H4.1
 (ab Tryz.prog 12 #[.pointer b9.1,.agg #[.int .i64 5,.string (⟨#[]⟩:ByteArray),.string (⟨#[]⟩:ByteArray),.string (⟨#[]⟩:ByteArray),.string (⟨#[]⟩:ByteArray),.int .i64 3,.int .i64 0,.nilIface]] cn (.v (.one (.int .i64))) (fun(bX:Int) cZ=>aa (bX != 0)
 (K (.bool false) cZ)
 (PN (()) cZ)))
 (PN (()) cn)))
 (fun _ s26 eM=>bj (Int×Unit) (fun _ Iy fT aaT=>aa (decide (Iy.1<bm))
 (ab Tryz.prog 13 #[.pointer b9.1] fT (.aP [.one .ah,.one (.int .i64)]) (fun(dO:ao×Int×Unit) dq=>bQ (Bool×Unit) (fun CN=>aa (dO.2.1 != 0)
 (CN (true,()) dq)
 (aa (decide ((dO.1.2.1:Int) > 1))
 (CN (true,()) dq)
 (aa (mT.1==1)
 (CN (((dO.1.2.1:Int) != 1),()) dq)
 (CN (false,()) dq))))
 (fun _ s39 ef=>aa s39.1
 (K (.bool false) ef)
 (bj (Int×Unit) (fun _ Iz eU aaU=>aa (decide (Iz.1<(dO.1.2.1:Int)))
 (bK dO.1.1 dO.1.2.1 Iz.1 1 (fun a44=>ae .ah a44 eU (fun(fY:ao)=>eF 16 (ad g1) eU (fun mv=>ab Tryz.prog 14 #[.agg mv.toArray,.slice fY.1 fY.2.1 fY.2.2] eU (.aP [.agg ig,.one (.int .i64)]) (fun(fO:fM×Int×Unit) gu=>aq (.cells #[.int .i64 0,.int .i64 0,.int .i64 0,.int .i64 0,.int .i64 0,.int .u64 0,.bool false,.int .i64 0,.string (⟨#[]⟩:ByteArray),.string (⟨#[]⟩:ByteArray),.string (⟨#[]⟩:ByteArray),.string (⟨#[]⟩:ByteArray),.int .i64 0,.int .i64 0,.nilIface] 42) gu (fun CO mR=>av (ad CO) [.int .i64 fO.1.1,.int .i64 fO.1.2.1,.int .i64 fO.1.2.2.1,.int .i64 fO.1.2.2.2.1,.int .i64 fO.1.2.2.2.2.1,.int .u64 fO.1.2.2.2.2.2.1,.bool fO.1.2.2.2.2.2.2.1,.int .i64 fO.1.2.2.2.2.2.2.2.1,.string fO.1.2.2.2.2.2.2.2.2.1,.string fO.1.2.2.2.2.2.2.2.2.2.1,.string fO.1.2.2.2.2.2.2.2.2.2.2.1,.string fO.1.2.2.2.2.2.2.2.2.2.2.2.1,.int .i64 fO.1.2.2.2.2.2.2.2.2.2.2.2.2.1,.int .i64 fO.1.2.2.2.2.2.2.2.2.2.2.2.2.2.1,fO.1.2.2.2.2.2.2.2.2.2.2.2.2.2.2.1] mR (fun iA=>aa (fO.2.1 != 0)
 (K (.bool false) iA)
 (ae (.int .i64) ((ad CO).add 0) iA (fun(qc:Int)=>aa (qc != rI.1)
 (K (.bool false) iA)
 (ae (.int .i64) ((ad CO).add 1) iA (fun(jz:Int)=>aa (jz != mT.1)
 (K (.bool false) iA)
 (ae (.int .i64) ((ad CO).add 2) iA (fun(qL:Int)=>aa (qL != Iy.1)
 (K (.bool false) iA)
 (aaU (IntKind.i64.wrap (Iz.1+1),()) iA))))))))))))))
 (aaT (IntKind.i64.wrap (Iy.1+1),()) eU))
 (0,()) ef))))
 (ab Tryz.prog 15 #[.pointer x8,.int .i64 0,.int .u8 0] fT (.aP []) (fun(sZ:Unit) pd=>FL (IntKind.i64.wrap (mT.1+1),()) pd)))
 (0,()) eM))))))))
 (ab Tryz.prog 16 #[] bx (.v (.one .bool)) (fun(oY:Bool) pY=>K (.bool oY) pY)))
 (1,()) br))))))))
def pl3:aB:=(.seq .auto (.seq .auto (.seq .auto (.seq .auto (.seq .auto (.seq .auto (.join [(11,.one (.int .i64))] .auto (.seq .auto (.seq (.seq .auto (.block (.loop [(12,.one (.int .i64))] (.seq .auto (.seq (.block (.seq .auto (.seq .auto (.join [] (.join [(63,.one .bool)] .auto .auto) (.seq (.seq .auto (.block (.loop [(15,.one (.int .i64))] (.seq .auto (.seq (.block (.seq .auto (.seq (.join [(93,.one .bool)] .auto .auto) (.seq .auto (.block (.loop [(96,.one (.int .i64))] .auto)))))) .auto))))) .auto))))) .auto))))) .auto)))))))))
theorem c3 (p0:Option Addr)(aI aN:Nat)(p1:Int)(p2:Int)(p3:Bool)(w:World)(K:Value->World->Prop)(h:C3 p0 aI aN p1 p2 p3 w K):Ret Tryz.prog 3 #[.slice p0 aI aN,.int .i64 p1,.int .i64 p2,.bool p3] w K:=aC (by kernel_rfl) Tryz.func3 (p:=pl3) (Eq.mpr (by kernel_rfl) h)
theorem IA:tn (iW 3):=PG (by decide) (by decide)
def aaV (kb:List UInt8)(side i T:Int)(s:bM)(P:aQ×Bool):Prop:=
 ∃ m,NodeM.open_ kb side s=(m.j.fs,some m,0)/\kT 4000 kb side i 0 P eT m/\(i=1->P=eT)/\(side=1->P=eT)/\(side=0->1<i->0<T->P=(iW 3,true))
set_option maxHeartbeats 4000000 in
theorem nlives_walk (a0:Option Addr)(Ad IB:Nat)(z0:List Int)(p1 p2:Int)(p3:Bool)(w:World)(h0:IsInts .u8 w a0 Ad IB z0)(h1:(Go.Lit.int .i64 p1).wf=true)(h2:(Go.Lit.int .i64 p2).wf=true)(ht:TabW w):
  Ret Tryz.prog 3 #[.slice a0 Ad IB,.int .i64 p1,.int .i64 p2,.bool p3] w fun r w'=>r=.bool true/\Fr none1 w w':=by
 refine c3 a0 Ad IB p1 p2 p3 w _ ?_;unfold C3;obtain⟨hr,vw⟩:=QO h0;refine aq.of fun g1 w1 di ar f1 jL=>?_;have ar:w1.heap[g1]? = some (.cells (cK xl).toArray 24 (0,0)):=ar;refine aaP ?_;refine aaO ar (hr.af f1) _ fun r1 w2 aM f2=>?_;have U:=aaN ((z0.take Ad).map toByte);generalize vc ((z0.take Ad).map toByte)=kb at *;have F2:Fr none1 w w2:=f1.fresh f2 (by omega);refine ab.of (MA 4000 w2) ?_;rintro _ w3 ⟨fb,rfl,CE,f3,i3⟩;have F3:=F2.trans f3;have tj:=cj aM;have z2:=F2.size;have hNf:w.heap.size<=fb:=by omega
 have tq:g1≠fb:=by omega
 refine⟨some ⟨fb,0,none⟩,rfl,aa.f rfl ?_⟩;refine bQ.of (fun st w'=>st.1=(if p3=true then 1 else 0)/\w3=w') ?_ ?_
 ·exact aa.by (fun h=>⟨by rw[show p3=true from h];rfl,rfl⟩) (fun h=>⟨by rw[show p3=false from h];rfl,rfl⟩)
 rintro _ ⟨side,_⟩ _ ⟨IC,rfl⟩;dsimp only at IC ⊢;have qv:side=0\/side=1:=by rw[IC];split<;>simp
 clear IC;have b3:=f3.af aM;refine PK p1 5 (by decide) (PK p2 5 (by decide) ?_);have hL0:=LD p1 5;have hL1:=LF p1 (n:=5) (by decide);have hT0:=LD p2 5;have hT1:=LF p2 (n:=5) (by decide);generalize within p1 5=L at *;generalize within p2 5=T at *;have eL:IntKind.i64.wrap (1+L)=1+L:=wI (by omega) (by omega);rw[eL];obtain⟨m0,mo,ml,mw,mb⟩:=PI U qv (q:=4000) (by decide);refine bj.of (fun q w'=>∃ fg s P,(1<=q.1/\q.1<=1+L+1)/\gn w' fb fg s/\s.dead=false/\aaV kb side q.1 T s P/\Fr none1 w w'/\w'.heap[g1]? = some (.cells (cK kb).toArray 24 (0,0))/\fg≠g1) (fun q _=>(1+L+1 - q.1).toNat)
  ⟨fb,pC 4000,eT,⟨by decide,by dsimp only;omega⟩,i3,rfl,⟨m0,mo,ml,fun _=>rfl,fun _=>rfl,fun _ h=>by exact absurd h (by decide)⟩,F3,b3,fun t=>tq (Eq.symm t)⟩ ?_
 rintro _ ⟨i,_⟩ w4 ⟨fg,s,P,⟨hi1,eJ⟩,i4,aaW,⟨m,mo,ml,PO,ID,PQ⟩,F4,b4,Ik⟩;dsimp only at hi1 eJ mo ml PO ID PQ ⊢;have tN4:fH w.heap.size w4:=(fH.of ht).af F4;refine aa.dec (fun aU=>?_) (fun dh=>?_)
 rotate_left
 ·refine ab.of (aaR w4 (ht.af F4)) ?_
  rintro _ w5 ⟨rfl,f5⟩;exact⟨true,rfl,rfl,F4.trans f5⟩
 have aU:i<=1+L:=aU;refine eF.of b4 (by rw[kF,U]) ?_;refine ab.of (Pt i4 aaW U side tN4 hNf) ?_;rw[mo];rintro _ w5 ⟨IE,uH,f5,(⟨b,n,F,hn,_,_,rfl,hR,hF⟩ | ⟨hn,_⟩)⟩
 rotate_left
 ·cases hn
 obtain rfl:m=n:=by injection hn
 have F5:Fr none1 w w5:=F4.comp f5 fun k U t=>by have t:k=fb:=t;omega
 have tN5:fH w.heap.size w5:=(fH.of ht).af F5;have b5:=f5.ag b4 tq;have abE:=cj b4;have zZ:¬ F g1:=fun t=>by have:=(hF g1 t).1;omega
 have PR:IE≠g1:=by
  rcases uH with t | t | t
  ·rw[t];exact fun q=>tq (Eq.symm q)
  ·rw[t];exact Ik
  ·have:=t.1;omega
 have Ac:m.kb.length=16:=by rw[ml.kb];exact U
 refine⟨(some ⟨b,0,none⟩,0,()),rfl,aa.f rfl (aa.f rfl ?_)⟩;refine ab.of (Pf hR Ac) ?_;rintro _ _ ⟨rfl,rfl⟩;refine⟨_,rfl,aa.ne (fun t=>absurd ml.aV t) (fun _=>?_)⟩
 -- an event abF, or not
 refine bQ.of (fun _ w'=>∃ F' dF n O,gR w.heap.size w' F' b n fb dF/\kT 4000 kb side i 0 P O n/\(0<T->CM side (iW 3) P O)/\Fr none1 w w'/\w'.heap[g1]? = some (.cells (cK kb).toArray 24 (0,0))/\¬ F' g1/\dF≠g1) ?_ ?_
 ·refine bQ.of (fun st w'=>st.1=decide (i=1\/side=1)/\w5=w') ?_ ?_
  ·refine aa.eq (fun h=>⟨?_,rfl⟩) (fun h=>⟨?_,rfl⟩)
   ·have h:i=1:=h
    show true=_;rw[decide_eq_true (.inl h)]
   ·have h:i≠1:=h
    show(side==1)=_
    by_cases h1:side=1
    ·rw[decide_eq_true (.inr h1)];simpa using h1
    ·rw[decide_eq_false (by simp[h,h1])];simpa using h1
  rintro _ ⟨st,_⟩ _ ⟨cV,rfl⟩;dsimp only at cV ⊢;subst cV;refine aa.dec (fun xm=>?_) (fun xm=>?_)
  ·have eP:P=eT:=xm.elim PO ID
   subst eP;obtain⟨o1,o2,o3,o4⟩:=ml.offer qv IA;refine ab.of (Pg hR Ac ml.live.ok tN5 (iW 3) IA.small.2.2.2.2) ?_;rw[o1];rintro _ w6 ⟨rfl,F6,t6⟩;refine⟨_,rfl,aa.f rfl ⟨F6,IE,_,_,t6.r,o2,fun _=>?_,t6.new hR F5 rfl,t6.f.ag b5 (fun t=>t.elim zZ tq),fun t=>?_,PR⟩⟩
   ·rcases qv with t | t
    ·exact .inl ⟨t,rfl,rfl⟩
    ·exact .inr (.inr ⟨t,rfl,rfl⟩)
   ·rcases t6.sub g1 t with t | t
    ·exact zZ t
    ·have:=t.1;have:=cj b5;omega
  ·refine⟨F,IE,m,eT,hR,ml,fun hT=>?_,F5,b5,zZ,PR⟩
   have oS:side=0:=qv.resolve_right fun t=>xm (.inr t);have hi:1<i:=by have:i≠1:=fun t=>xm (.inl t);omega
   exact .inr (.inl ⟨oS,PQ oS hi hT,rfl⟩)
 rintro _ _ w6 ⟨F6,fg6,n6,O6,R6,l6,hw6,Fr6,b6,g6F,aaX⟩;refine bj.of (fun q w'=>∃ F' dF n P' O',(0<=q.1/\q.1<=T)/\gR w.heap.size w' F' b n fb dF/\kT 4000 kb side i q.1 P' O' n/\(0<T->CM side (iW 3) P' O')/\(side=1->P'=eT)/\(0<q.1->side=0->P'=(iW 3,true))/\Fr none1 w w'/\w'.heap[g1]? = some (.cells (cK kb).toArray 24 (0,0))/\¬ F' g1/\dF≠g1) (fun q _=>(T - q.1).toNat)
  ⟨F6,fg6,n6,P,O6,⟨Int.le_refl _,hT0⟩,R6,l6,hw6,ID,fun t=>by exact absurd t (by decide),Fr6,b6,g6F,aaX⟩ ?_
 rintro _ ⟨t,_⟩ w7 ⟨F7,fg7,n7,P7,O7,⟨ht0,htT⟩,R7,l7,hw7,GG,B1,IF,b7,PS,PT⟩;dsimp only at ht0 htT l7 B1 ⊢;have tN7:fH w.heap.size w7:=(fH.of ht).af IF;have hk7:n7.kb.length=16:=by rw[l7.kb];exact U
 refine aa.dec (fun mX=>?_) (fun dh=>?_)
 rotate_left
 ·-- the file abG
  have dh:¬ t<T:=dh;obtain⟨mc,co,cl,cw⟩:=l7.aaM (by omega) 0 0;refine ab.of (VO R7.file 0 0) ?_;rintro _ w8 ⟨rfl,t8⟩;obtain⟨f8,g8,hg8,i8⟩:=t8;have CP:Fr none1 w w8:=IF.comp f8 fun k U t=>by have t:k=fb:=t;omega
  have hwi:IntKind.i64.wrap (i+1)=i+1:=wI (by omega) (by omega);refine⟨(),rfl,?_⟩;rw[hwi];refine⟨⟨g8,_,P7,⟨by omega,by omega⟩,i8,rfl,⟨mc,co,cl,fun t=>by omega,GG,fun hs _ hT=>B1 (by omega) hs⟩,CP,f8.ag b7 tq,?_⟩,?_⟩
  ·rcases hg8 with t | t | t
   ·rw[t];exact fun q=>tq (Eq.symm q)
   ·rw[t];exact PT
   ·have:=cj b7;omega
  ·omega
 have mX:t<T:=mX;obtain⟨f,x,P8,O8,q1,q2,q3,q4,q5,q6,l8,w8',yV,aaY⟩:=l7.tick (by omega) (by omega) (by omega) IA (hw7 (by omega));refine ab.of (Ps R7 hk7 l7.live.ok l7.live.NP (by rw[l7.number];omega) tN7) ?_;rw[q1];rintro _ w8 ⟨y,rfl,hy⟩;obtain⟨F8,PU,S8,t8,r8,hS8⟩:=hy.out;have gM:y.2.1=1:=r8.len;have CP:=t8.new R7 IF rfl;have b8:=t8.f.ag b7 (fun t=>t.elim PS tq);have g8F:¬ F8 g1:=fun t=>by
  rcases t8.sub g1 t with t | t
  ·exact PS t
  ·have:=t.1;have:=cj b7;omega
 have aaZ:PU≠g1:=by
  rcases t8.g with t | t | t
  ·rw[t];exact fun q=>tq (Eq.symm q)
  ·rw[t];exact PT
  ·have:=t.1;have:=cj b7;omega
 refine⟨(y,0,()),rfl,?_⟩;refine bQ.of (fun st w'=>st.1=false/\w8=w') ?_ ?_
 ·refine aa.f rfl (aa.f (by rw[gM];rfl) ?_)
  exact aa.by (fun _=>⟨by rw[gM];rfl,rfl⟩) (fun _=>⟨rfl,rfl⟩)
 rintro _ ⟨st,_⟩ _ ⟨cV,rfl⟩;dsimp only at cV ⊢;subst cV;refine aa.f rfl ?_;refine bj.of (fun q w'=>(q.1=0\/q.1=1)/\Fr none1 w8 w') (fun q _=>(1 - q.1).toNat) ⟨.inl rfl,Fr.refl _ _⟩ ?_;rintro _ ⟨c,_⟩ w9 ⟨hc,f9⟩;dsimp only at hc ⊢;refine aa.dec (fun uu=>?_) (fun dh=>?_)
 ·have uu:c<(y.2.1:Int):=uu
  have yM:c=0:=by omega
  subst yM;refine(r8.af f9).M0 (Int.le_refl _) uu fun u hu oy hus=>?_;refine eF.of (f9.af b8) (by rw[kF,U]) ?_;have hu:aY w9 u f:=hu;refine ab.of (Xy kb U hu oy (by omega) (ht.af (CP.trans f9))) ?_;rw[q2];rintro _ aK ⟨rfl,f10⟩;refine⟨(x.f,0,()),rfl,?_⟩;refine aq.of fun ga aR hga hba f11 sa=>av.aG (vs:=dv x.f) hba rfl (OX x) fun aO wW f12 eW=>aa.f rfl ?_;have aa0:Fr none1 w8 aO:=((f9.trans f10).trans f11).fresh f12 (by have:=f9.size;have:=f10.size;omega);refine ae.ai wW (x:=x.1) rfl (aa.ne (fun t=>absurd q4 t) (fun _=>?_));refine ae.ai wW (x:=x.2.1) rfl (aa.ne (fun t=>absurd q5 t) (fun _=>?_));refine ae.ai wW (x:=x.2.2.1) rfl (aa.ne (fun t=>absurd q6 t) (fun _=>?_));exact⟨⟨.inr rfl,aa0⟩,by decide⟩
 have hwt:IntKind.i64.wrap (t+1)=t+1:=wI (by omega) (by omega);rw[hwt];refine⟨⟨F8,PU,_,P8,O8,⟨by omega,by omega⟩,t8.r.af f9,l8,fun _=>w8',aaY,fun _=>yV,CP.trans f9,f9.af b8,g8F,aaZ⟩,?_⟩;omega
end Go.Proofs.YtmkehncgjnhhcaaGreatDoor
