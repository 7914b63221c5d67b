/-
  Texts of this claim, put together.
  Conditions: those of each theorem.
-/
import Derived.Test.YtfolkckcakndkaaGreatDoorQDS0
import Derived.Test.YtfolkckcakndkaaGreatDoorQDS7
set_option linter.unusedVariables false
set_option maxRecDepth 100000
namespace Go.Proofs.YtfolkckcakndkaaGreatDoor
open Vc
set_option maxRecDepth 100000
set_option maxHeartbeats 2000000
variable {w w':ah}{b g N fb fg c g1 j:Nat}{F S A:bz}{p q:PeerM}{kb bs x:ai}{d:DuoM}{l:fE}{E:Int}{a:cE}{T:TypeId}
theorem ah3 (n:NodeM):n.act bq=(n,[],0):=by
 have hk:n.ao bq=(n,0):=by unfold NodeM.ao;rw[if_pos ⟨rfl,rfl⟩]
 have hc:n.p.bx bq=(n.p,0):=Prod.ext (tj n.p) rfl;unfold NodeM.act;rw[hk];dsimp only;rw[hc];rfl
theorem X5 {s:Int}(hs:s=0\/s=1)(hu:(d.side s).down=false)(hd:(d.side s).n.j.d=false)(h:(d.side s).n.p.tick=bq):d.tick s=(d,0):=by
 have hl:d.live s=0:=by
  unfold DuoM.live;rw[if_neg ab,hu];rfl
 have e:(d.side s).n.tick=((d.side s).n,[],0):=by
  unfold NodeM.tick NodeM.dead;rw[if_neg (by rw[hd];simp),h,ah3]
 unfold DuoM.tick;rw[if_neg (λ t=>t hl),e];exact Prod.ext (FY hs hu) rfl
theorem ah4 (hu:∀ s,s=0\/s=1->(d.side s).down=false/\(d.side s).n.j.d=false/\(d.side s).n.p.tick=bq):d.round=(d,0):=by
 obtain⟨a1,a2,a3⟩:=hu 0 (.inl rfl);obtain⟨b1,b2,b3⟩:=hu 1 (.inr rfl);have e0:=X5 (.inl rfl:(0:Int)=0\/(0:Int)=1) a1 a2 a3;have e1:=X5 (.inr rfl:(1:Int)=0\/(1:Int)=1) b1 b2 b3;have eg:DuoM.fC 8 d d.said.length=d:=by
  show(if(d.said.length:Int)<(d.said.length:Int) then _ else d)=d;rw[if_neg ab]
 have d0:d.dead 0=false:=by unfold DuoM.dead NodeM.dead;rw[a1,a2];rfl
 have d1:d.dead 1=false:=by unfold DuoM.dead NodeM.dead;rw[b1,b2];rfl
 unfold DuoM.round;rw[e0];dsimp only;rw[e1];dsimp only;rw[eg,d0,d1];rfl
theorem ah5:(NodeM.open_ kb 0 (iA 3)).2=(none,10):=by
 have hp:∀ n:NodeM,n.j=⟨iA 3,false,[]⟩->n.j.put [1]=(n.j,10):=λ n e=>ad9 (by rw[e]) (by rw[e];rfl) ar (by rw[e];decide);have e:oh (iA 3)=(iA 3,[],0):=by unfold oh;rfl
 unfold NodeM.open_;rw[if_neg ar,e];dsimp only;rw[if_neg ar,show(NodeM.fresh kb 0 (iA 3) []).records []=(NodeM.fresh kb 0 (iA 3) [],true) from rfl,if_neg (by intro t;cases t)];dsimp only;rw[hp _ rfl,if_pos (by show(10:Int)≠0;decide)]
theorem ah6:rW kb 3=(none,10):=by
 have h:=ah5 (kb:=kb);rw[X1 (congrArg Prod.fst h),h]
theorem PW {s:Int}(hs:¬ (s=0\/s=1))(m:bu)(bs:ai)(k p:Int):d.offer s m=(d,1)/\d.tick s=(d,1)/\d.lp s bs=(d,1)/\d.yI s k p=(d,1)/\d.dead s=false/\d.refuse s k=d/\d.lh s k=d:=by
 have hl:d.live s=1:=by unfold DuoM.live;rw[if_pos ab]
 refine⟨?_,?_,?_,?_,?_,?_,?_⟩
 ·unfold DuoM.offer;rw[hl];rfl
 ·unfold DuoM.tick;rw[hl];rfl
 ·unfold DuoM.lp;rw[hl];rfl
 ·unfold DuoM.yI;rw[if_pos ab]
 ·unfold DuoM.dead;rw[decide_eq_false ab,decide_eq_false ab];rfl
 ·unfold DuoM.refuse;rw[hl];rfl
 ·unfold DuoM.lh;rw[if_pos ab]
set_option maxHeartbeats 400000 in
theorem dsides_walk (a0:aS)(GW PX:Nat)(z0:List Int)(p1 p2:Int)(w:ah)(h0:IsInts .u8 w a0 GW PX z0)(h1:(Go.Lit.int .i64 p1).wf=true)(h2:(Go.Lit.int .i64 p2).wf=true)(ht:TabW w):
  au 6 #[.slice a0 GW PX,aa p1,aa p2] w λ r w'=>r=.bool true/\Fr none1 w w':=by
 refine c6 a0 GW PX p1 p2 w _ ?_;unfold C6;obtain⟨hr,BP⟩:=YZ h0;refine aC.of λ g1 w1 eG aE f1 ng=>?_;have aE:w1.heap[g1]? = some (.cells (dh DQ).toArray 25 (0,0)):=aE;refine ahZ ?_;refine ahY aE (hr.ag f1) _ λ r1 w2 ba f2=>?_;have hk:=ahX ((z0.take GW).map toByte);generalize Bn ((z0.take GW).map toByte)=kb at *;have F2:Fr none1 w w2:=f1.fresh f2 ab;have qq:TabW w2:=((il.of ht).ag F2).iC;refine fL.of ba (by rw[l0,hk]) ?_;obtain⟨d,d1,d2,d3,d4,d5⟩:=XX hk (q:=1000) ar 9;refine an.of (PU qq hk 1000) ?_;rw[d1];rintro _ w3 ⟨f3,(⟨b,A,d',rfl,hn,hR,hA⟩ | ⟨c,-,hn,-⟩)⟩
 rotate_left
 ·cases congrArg Prod.fst hn
 obtain rfl:d=d':=by injection congrArg Prod.fst hn
 have rk:ow d:=d2.inv.ok (by rw[d4];decide);have hA1:∀ k,A k->w2.heap.size<=k:=λ k t=>(hA k t).1;have yW:=cQ ba
 -- one state aiO
 have D:∀ {w:ah},xw w2 w A b d->∃ v S G pb,lr w2.heap.size w A b d v S G pb:=λ h=>h.1;refine⟨(some ⟨b,0,none⟩,0,()),rfl,ae.f rfl (ae.f rfl ?_)⟩;refine dc.of (λ(s:Int×Unit) w'=>¬ (s.1=0\/s.1=1)/\w3=w') ?_ ?_
 ·refine dc.of (λ(s:Bool×Unit) w'=>(s.1=false->¬ (p1=0\/p1=1))/\w3=w') ?_ ?_
  ·refine ae.eq (λ t=>?_) (λ t=>?_)
   ·exact⟨(λ q=>nomatch q),rfl⟩
   ·exact⟨(λ q=>by have h:¬ p1=1:=(by simpa using q);omega),rfl⟩
  ·rintro _ ⟨x,_⟩ _ ⟨hx,rfl⟩
   refine ae.by (λ t=>?_) (λ t=>?_)
   ·exact⟨ar,rfl⟩
   ·exact⟨hx t,rfl⟩
 rintro _ ⟨s,_⟩ _ ⟨hs,rfl⟩;dsimp only at hs ⊢;obtain⟨e1,e2,e3,e4,e5,-,-⟩:=PW (d:=d) hs nB [] 0 0;have e6:=(PW (d:=d) hs nB [] 1 0).2.2.2.2.2.1;have e7:=(PW (d:=d) hs nB [] 0 0).2.2.2.2.2.2;have H3:xw w2 w3 A b d:=⟨hR,f3⟩;refine an.of (XM H3.1 rk s nB UI.2.2.2.2) ?_;rw[e1];rintro _ w4 ⟨rfl,t⟩;obtain⟨A4,H4,s4,x4⟩:=H3.next t;refine⟨_,rfl,ae.f rfl ?_⟩;refine an.of (PK H4.1 rk s) ?_;rw[e2];rintro _ w5 ⟨rfl,t⟩;obtain⟨A5,H5,s5,x5⟩:=H4.next t;refine⟨_,rfl,ae.f rfl ?_⟩;have X6:∀ w:ah,bO w (none,0,0) []:=λ w=>(cT.rd (.inl ⟨rfl,rfl⟩));refine an.of (PL (y:=(none,0,0)) (bs:=[]) H5.1 rk s (X6 _) (eR 0) (fj _)) ?_;rw[e3];rintro _ w6 ⟨rfl,t⟩;obtain⟨A6,H6,s6,x6⟩:=H5.next t;refine⟨_,rfl,ae.f rfl ?_⟩;refine an.of (ahU H6.1 rk s 0 0) ?_;rw[e4];rintro _ w7 ⟨rfl,t⟩;obtain⟨A7,H7,s7,x7⟩:=H6.next t;refine⟨_,rfl,ae.f rfl ?_⟩;refine an.of (XP H7.1 rk s) ?_;rintro _ w8 ⟨q,rfl,f8,-,hq⟩;obtain rfl:=hq hs;have H8:=H7.ag f8;refine⟨none,rfl,ae.f rfl ?_⟩;refine an.of (PN H8.1 rk s) ?_;rw[e5];rintro _ _ ⟨rfl,rfl⟩;refine⟨_,rfl,ae.f rfl ?_⟩;refine an.of (ahH H8.1 rk s 1) ?_;rw[e6];rintro _ w9 ⟨rfl,t⟩;obtain⟨A9,H9,s9,x9⟩:=H8.next t;refine⟨(),rfl,?_⟩;refine an.of (ahL H9.1 rk s 0) ?_;rw[e7];rintro _ wa ⟨rfl,t⟩;obtain⟨Aa,Ha,sa,xa⟩:=H9.next t;refine⟨(),rfl,?_⟩;refine ah0 p2 9 ar ?_;have hu0:=abj p2 9;have FE:=abk p2 (n:=9) ar;generalize within p2 9=U at *;have hg:∀ i:Int,d.dy i=(d,3):=λ i=>by unfold DuoM.dy;rw[if_pos (by rw[d4];show i<0\/((0:Nat):Int)<=i;omega)]
 refine an.of (PM Ha.1 rk U) ?_;rw[hg];rintro _ wb ⟨rfl,t⟩;obtain⟨Ab,Hb,sb,xb⟩:=Ha.next t;refine⟨_,rfl,ae.f rfl ?_⟩;refine an.of (PM Hb.1 rk _) ?_;rw[hg];rintro _ wc ⟨rfl,t⟩;obtain⟨Ac,Hc,sc,xc⟩:=Hb.next t;refine⟨_,rfl,ae.f rfl ?_⟩;have ej:d.lp 0 []=(d,2):=by
  obtain⟨u1,u2,u3,u4,u5⟩:=d2.up 0 (.inl rfl);have hl:d.live 0=0:=by
   unfold DuoM.live;rw[if_neg ar,u1];rfl
  unfold DuoM.lp;rw[if_neg (λ t=>t hl),aek u2 (by rw[UP];decide),UP];exact Prod.ext (FY (.inl rfl) u1) rfl
 refine an.of (PL (y:=(none,0,0)) (bs:=[]) Hc.1 rk 0 (X6 _) (eR 0) (fj _)) ?_;rw[ej];rintro _ wd ⟨rfl,t⟩;obtain⟨Ad,Hd,sd,xd⟩:=Hc.next t;refine⟨_,rfl,ae.f rfl ?_⟩;obtain⟨v,S,G,pb,Ap⟩:=Hd.1;refine an.of (GU Ap rk.kb) ?_;rintro _ _ ⟨rfl,rfl⟩;refine⟨_,rfl,ae.ne (λ t=>absurd (by rw[d4];rfl) t) (λ _=>?_)⟩;refine an.of (XO Hd.1 rk U) ?_;rintro _ we ⟨y,rfl,hy,fe,td⟩;have ef:mY d U=(0,[],false):=by unfold mY;rw[if_pos (by rw[d4];show U<0\/((0:Nat):Int)<=U;omega)]
 rw[ef];refine⟨(0,y,false,()),rfl,?_⟩;have He:=Hd.ag fe;have be:we.heap[g1]? = some (.cells (dh kb).toArray 25 (0,0)):=He.2.ag ba;refine fL.of be (by rw[l0,hk]) ?_;refine an.of (PU ((il.of qq).ag He.2).iC hk 3) ?_;rw[ah6];rintro _ wf ⟨ff,(⟨b',A',d',rfl,hn,-⟩ | ⟨c,rfl,hn,-⟩)⟩
 ·cases congrArg Prod.fst hn
 have hc:10=c:=congrArg Prod.snd hn;subst hc;have Hf:=He.ag ff;refine⟨(none,10,()),rfl,ae.t rfl (ae.t rfl ?_)⟩;have er:d.round=(d,0):=ah4 λ s hs=>by
  obtain⟨u1,u2,u3,u4,u5⟩:=d2.up s hs;refine⟨u1,u2,?_⟩;rw[d5 s hs];unfold PeerM.tick;rw[if_neg (by intro t;cases t),if_neg (by intro t;cases t),if_neg (by intro t;cases t),if_neg (λ t=>nomatch t.2),if_neg (λ t=>nomatch t.2),if_neg (λ t=>nomatch t.2)]
 refine an.of (XS Hf.1 (d2.inv.XT ar (by rw[d4];decide))) ?_;rw[er];rintro _ wg ⟨rfl,t⟩;obtain⟨Ag,Hg,sg,xg⟩:=Hf.next t;refine⟨_,rfl,ae.t rfl ?_⟩;obtain⟨v,S,G,pb,Fg⟩:=Hg.1;refine an.of (GU Fg rk.kb) ?_;rintro _ _ ⟨rfl,rfl⟩;refine⟨_,rfl,ae.eq (λ _=>?_) (λ t=>absurd (by rw[d4];rfl) t)⟩;refine an.of (ah2 _ ((il.of qq).ag Hg.2).iC) ?_;rintro _ wh ⟨rfl,fh⟩;exact⟨_,rfl,rfl,F2.trans (Hg.2.trans fh)⟩
end Go.Proofs.YtfolkckcakndkaaGreatDoor
