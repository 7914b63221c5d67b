/-
  Texts of this claim, put together.
  Conditions: those of each theorem.
-/
import Derived.Test.YtfolkckcakndkaaGreatDoorQDS0
import Derived.Test.YtfolkckcakndkaaGreatDoorQDS1
import Derived.ChangeSame
import Derived.ChangeSlices
import Derived.KernelRfl
import Derived.Laws.IdiomStrings
import Derived.Lib.ItoaNum
import Derived.Lib.RuneCount
import Derived.SliceStrings
import Derived.Test.YtfolkckcakndkaaGreatDoorProg
set_option linter.unusedVariables false
set_option maxRecDepth 100000
namespace Go.Proofs.YtfolkckcakndkaaGreatDoor
open Vc
set_option maxRecDepth 100000
set_option maxHeartbeats 2000000
variable {w w':ah}{b g N fb fg c g1 j:Nat}{F S A:bz}{kb bs x:ai}{E:Int}{T:TypeId}
theorem aaw (a:ai)(i j:Nat):(str a).extract i j=str ((a.drop i).take (j - i)):=by
 apply ByteArray.ext;rw[ByteArray.data_extract];unfold str;simp
theorem EV {a:ai}{lo hi:Int}(h0:0<=lo)(h1:lo<=hi)(h2:hi<=a.length){K:ay->Prop}(k:K (str ((a.drop lo.toNat).take (hi.toNat - lo.toNat)))):y8 (str a) lo hi K:=
 ⟨h0,h1,by rw[fS];exact h2,by rw[aaw];exact k⟩
theorem Ao {a:ai}{i:Int}(h0:0<=i)(h1:i<a.length){K:Int->Prop}(k:K ((a.getD i.toNat 0).toNat:Int)):ss (str a) i K:=by
 refine⟨a.getD i.toNat 0,h0,?_,k⟩;have bI:i.toNat<(str a).size:=by rw[fS];omega
 rw[getElem?_pos (str a) i.toNat bI,dB,cV ab];rfl
theorem aax (a b:ai)(w:ah):au 321 #[.string (str a),.string (str b)] w λ r w'=>r=.bool (decide (a.take b.length=b))/\w=w':=by
 refine c321 _ _ w _ ?_;unfold C321;rw[fS,fS];refine ae.dec (λ h=>?_) (λ h=>?_)
 ·refine EV ab ab ab ?_
  rw[ly];exact⟨by simp,rfl⟩
 ·refine⟨?_,rfl⟩
  rw[decide_eq_false];intro t;have:=congrArg List.length t;rw[ga] at this;omega
def fm (s:ai):ai:=if s.take 1=[45] then s.drop 1 else s
theorem aay (s:ai)(w:ah):au 289 #[.string (str s),.string (str [45])] w λ r w'=>r=.string (str (fm s))/\w=w':=by
 refine c289 _ _ w _ ?_;refine an.of (R:=λ r w'=>r=.string (str (fm s))/\w=w') ?_ (by rintro _ _ ⟨rfl,rfl⟩;exact⟨_,rfl,rfl,rfl⟩);refine c302 _ _ w _ ?_;refine an.of (aax s [45] w) ?_;rintro _ _ ⟨rfl,rfl⟩;refine⟨_,rfl,?_⟩;unfold fm;refine ae.dec (λ h=>?_) (λ h=>?_)
 ·have h:s.take 1=[45]:=h
  have hl:1<=s.length:=by
   have:=congrArg List.length h;rw[ga] at this;simp only[cY,kX] at this;omega
  rw[if_pos h,fS,fS];refine EV bm (by simp only[cY,kX];omega) ab ?_;refine⟨?_,rfl⟩;rw[gV bm];rfl
 ·have h:¬ s.take 1=[45]:=h
  rw[if_neg h];exact⟨rfl,rfl⟩
def sR (cs:ai):List av:=(List.range 256).map λ c=>.bool (decide (c∈cs.map (·.toNat)))
theorem wG (cs:ai):(sR cs).length=256:=by unfold sR;simp
theorem Mf (cs:ai){c:Nat}(h:c<256):(sR cs)[c]? = some (.bool (decide (c∈cs.map (·.toNat)))):=by
 unfold sR;rw[ig,List.getElem?_range h];rfl
theorem RJ (cs:ai):(sR cs).all cG=true:=by
 rw[xN];intro v hv;obtain⟨c,_,rfl⟩:=kF.1 hv;rfl
theorem aaz (cs:ai)(c:UInt8):(sR cs).set c.toNat (.bool true)=sR (cs++[c]):=by
 refine xO λ i=>?_
 by_cases hi:i<256
 ·rw[Mf _ hi,zF]
  by_cases hc:c.toNat=i
  ·rw[if_pos hc,if_pos (by rw[wG,hc];exact hi)]
   simp[hc]
  ·rw[if_neg hc,Mf _ hi]
   congr 2
   refine decide_eq_decide.2 ?_;rw[jG,kE];simp only[gU,gb,nR];exact⟨.inl,λ t=>t.elim id (λ t=>absurd t.symm hc)⟩
 ·rw[BW (by rw[List.length_set,wG];omega),BW (by rw[wG];omega)]
def tY (w:ah)(g:Nat)(cs:ai):Prop:=w.heap[g]? = some (.cells (sR cs).toArray 440 (0,0))
theorem tY.RL {cs:ai}(h:tY w g cs){K:List av->Prop}(k:K (sR cs)):fL 256 (⟨g,0,none⟩:Addr) w K:=
 ⟨sR cs,wG cs,qt h _ 0 λ j _=>by simp,k⟩
theorem RM {cs:ai}(h:tY w g cs)(c:UInt8):au 322 #[aZ g,.int .u8 (c.toNat:Int)] w λ r w'=>r=.bool (decide (c∈cs))/\w=w':=by
 refine c322 _ _ w _ ?_;have hc:=UInt8.toNat_lt c;refine⟨by omega,by omega,?_⟩;rw[eN,jg,iH,eP];refine af.of h (x:=decide (c∈cs)) ?_ ⟨rfl,rfl⟩;rw[pJ,Mf _ ab]
 congr 2
 refine decide_eq_decide.2 ?_;rw[kF]
 constructor
 ·rintro⟨d,hd,e⟩
  rwa[<- UInt8.toNat_inj.1 e]
 ·intro t;exact⟨c,t,rfl⟩
theorem aaA (cs:ai)(hcs:∀ c∈cs,c.toNat<128)(hl:cs.length<=1000)(w:ah):au 305 #[.string (str cs)] w λ r w'=>r=.tuple #[.agg (sR cs).toArray,.bool true]/\Fr none1 w w':=by
 refine c305 _ w _ ?_;unfold C305;refine aC.of λ g w1 hg eG f1 _=>?_;have h1:tY w1 g []:=eG;have F1:Fr (only g) w1 w1:=Fr.refl _ _;refine cp.of (λ s w'=>∃ n:Nat,s.1=n/\n<=cs.length/\tY w' g (cs.take n)/\Fr (only g) w1 w') (λ s _=>cs.length - s.1.toNat) ⟨0,rfl,by omega,h1,F1⟩ ?_;rintro _ ⟨i,_⟩ w2 ⟨n,hn,rG,h2,f2⟩;dsimp only at hn ⊢;subst hn;rw[fS];refine ae.dec (λ bI=>?_) (λ gk=>?_)
 ·refine Ao ab ab ?_
  rw[iH];have sC:cs.getD n 0∈cs:=by
   rw[dB,cV ab];exact nQ _
  have hc:=hcs _ sC;refine ae.no ab ?_;refine⟨by omega,by omega,?_⟩;rw[eN,jg,iH,eP];refine aK.of h2 (by rw[List.size_toArray,wG];omega) rfl λ w3 h3 f3 _=>?_;rw[wI (x:=(n:Int)+1) ab ab];refine⟨⟨n+1,by omega,by omega,?_,f2.trans f3⟩,by omega⟩;unfold tY;rw[h3,List.setIfInBounds_toArray,aaz];have:cs.take n++[cs.getD n 0]=cs.take (n+1):=by
   rw[zG ab,dB,cV ab];rfl
  rw[this]
 ·have:n=cs.length:=ab
  subst this;rw[qx] at h2;refine h2.RL ?_;refine⟨wG cs,aG.aR h2 rfl (RJ cs) λ w3 h3 f3 _=>?_⟩;have h3:tY w3 g cs:=h3;refine h3.RL ⟨rfl,(f1.fresh f2 ab).fresh f3 ab⟩
theorem aaB {cs:ai}(h:tY w g cs)(s:ai)(hl:s.length<=1000000):au 307 #[.string (str s),aZ g] w λ r w'=>
  (∃ t u,r=.string (str t)/\s=t++u/\(∀ c∈u,c∈cs)/\(t=[]\/¬ t.getD (t.length - 1) 0∈cs))/\w=w':=by
 refine c307 _ _ w _ ?_;refine cp.of (λ q w'=>w=w'/\∃ t u,q.1=str t/\s=t++u/\∀ c∈u,c∈cs) (λ q _=>q.1.size) ⟨rfl,s,[],rfl,by simp,by simp⟩ ?_;rintro _ ⟨q,_⟩ _ ⟨rfl,t,u,hq,hs,hu⟩;dsimp only at hq ⊢;subst hq;have Ie:t.length<=s.length:=by rw[hs,bU];omega
 rw[fS];refine ae.dec (λ sE=>?_) (λ hz=>?_)
 ·rw[wI (x:=(t.length:Int) - 1) ab ab]
  refine Ao ab ab ?_;rw[show((t.length:Int) - 1).toNat=t.length - 1 by omega];refine an.of (RM h _) ?_;rintro _ _ ⟨rfl,rfl⟩;refine⟨_,rfl,?_⟩
  by_cases hc:t.getD (t.length - 1) 0∈cs
  ·refine ae.f (by rw[decide_eq_true hc];rfl) ?_
   refine EV ab ab ab ?_;have e:(t.drop (0:Int).toNat).take (((t.length:Int) - 1).toNat - (0:Int).toNat)=t.take (t.length - 1):=by
    rw[show(0:Int).toNat=0 from rfl,List.drop_zero,show((t.length:Int) - 1).toNat - 0=t.length - 1 by omega]
   rw[e];refine⟨⟨rfl,t.take (t.length - 1),t.getD (t.length - 1) 0::u,rfl,?_,λ c uL=>?_⟩,?_⟩
   ·rw[hs]
    have:t=t.take (t.length - 1)++[t.getD (t.length - 1) 0]:=by
     conv=>lhs;rw[<- qx (l:=t),show t.length=(t.length - 1)+1 by omega,zG ab]
     rw[dB,cV ab];rfl
    conv=>lhs;rw[this]
    simp
   ·rcases tI.1 uL with t' | t'
    ·rw[t'];exact hc
    ·exact hu c t'
   ·rw[fS,ga];omega
  ·refine ae.t (by rw[decide_eq_false hc];rfl) ⟨⟨t,u,rfl,hs,hu,.inr hc⟩,rfl⟩
 ·exact⟨⟨t,u,rfl,hs,hu,.inl (tH ab)⟩,rfl⟩
theorem aaC {cs:ai}(h:tY w g cs)(s:ai)(hl:s.length<=1000000):au 306 #[.string (str s),aZ g] w λ r w'=>
  (∃ t u,r=.string (str t)/\s=u++t/\(∀ c∈u,c∈cs)/\(t=[]\/¬ t.getD 0 0∈cs))/\w=w':=by
 refine c306 _ _ w _ ?_;refine cp.of (λ q w'=>w=w'/\∃ t u,q.1=str t/\s=u++t/\∀ c∈u,c∈cs) (λ q _=>q.1.size) ⟨rfl,s,[],rfl,by simp,by simp⟩ ?_;rintro _ ⟨q,_⟩ _ ⟨rfl,t,u,hq,hs,hu⟩;dsimp only at hq ⊢;subst hq;have Ie:t.length<=s.length:=by rw[hs,bU];omega
 rw[fS];refine ae.dec (λ sE=>?_) (λ hz=>?_)
 ·refine Ao ab ab ?_
  rw[show(0:Int).toNat=0 from rfl];refine an.of (RM h _) ?_;rintro _ _ ⟨rfl,rfl⟩;refine⟨_,rfl,?_⟩
  by_cases hc:t.getD 0 0∈cs
  ·refine ae.f (by rw[decide_eq_true hc];rfl) ?_
   refine EV ab ab ab ?_;have e:(t.drop (1:Int).toNat).take (((t.length:Nat):Int).toNat - (1:Int).toNat)=t.drop 1:=by
    rw[show(1:Int).toNat=1 from rfl,gV (by rw[kD];omega)]
   rw[e];refine⟨⟨rfl,t.drop 1,u++[t.getD 0 0],rfl,?_,λ c uL=>?_⟩,?_⟩
   ·rw[hs]
    cases t with
    | nil=>simp at sE
    | cons x t=>simp
   ·rcases kE.1 uL with t' | t'
    ·exact hu c t'
    ·simp only[nR] at t';rw[t'];exact hc
   ·rw[fS,kD];omega
  ·refine ae.t (by rw[decide_eq_false hc];rfl) ⟨⟨t,u,rfl,hs,hu,.inr hc⟩,rfl⟩
 ·exact⟨⟨t,u,rfl,hs,hu,.inl (tH ab)⟩,rfl⟩
theorem aaD (s cs:ai)(aL:s≠[])(hcs:∀ c∈cs,c.toNat<128)(h2:2<=cs.length)(gw:cs.length<=1000)(hl:s.length<=1000000)(w:ah):au 290 #[.string (str s),.string (str cs)] w λ r w'=>
  (∃ v,r=.string (str v)/\(v=[]↔∀ c∈s,c∈cs))/\Fr none1 w w':=by
 refine c290 _ _ w _ ?_;unfold C290;have e0:(⟨#[]⟩:ay)=str []:=rfl;rw[e0,ly,ly];refine ae.no aL (ae.no (λ t=>by rw[t] at h2;simp at h2) ?_);refine dc.of (λ q w'=>q.1=false/\w=w') ?_ ?_
 ·refine ae.f ?_ ⟨rfl,rfl⟩
  rw[fS,beq_eq_false_iff_ne];omega
 rintro _ ⟨q,_⟩ _ ⟨hq,rfl⟩;dsimp only at hq;subst hq;refine ae.f rfl ?_;refine an.of (aaA cs hcs gw w) ?_;rintro _ w1 ⟨rfl,f1⟩;refine⟨(sR cs,true,()),rfl,?_⟩;refine aC.of λ g w2 hg qI f2 _=>?_;have Ig:tY w2 g []:=qI;refine⟨wG cs,aG.aR Ig (by rw[wG,wG]) (RJ cs) λ w3 h3 f3 _=>?_⟩;have h3:tY w3 g cs:=h3;refine ae.t rfl ?_;refine an.of (aaB h3 s hl) ?_;rintro _ _ ⟨⟨t,u,rfl,hs,hu,ht⟩,rfl⟩;refine⟨_,rfl,?_⟩;have Ie:t.length<=s.length:=by rw[hs,bU];omega
 refine an.of (aaC h3 t ab) ?_;rintro _ _ ⟨⟨v,u',rfl,RN,hu',hv⟩,rfl⟩;refine⟨_,rfl,⟨v,rfl,?_⟩,f1.trans (f2.fresh f3 ab)⟩
 constructor
 ·intro yd c hc
  rw[hs,RN,yd,dV] at hc
  rcases kE.1 hc with hc | hc
  ·exact hu' c hc
  ·exact hu c hc
 ·intro hall
  rcases hv with hv | hv
  ·exact hv
  ·cases v with
   | nil=>rfl
   | cons x v=>
    refine absurd (hall x ?_) hv;rw[hs,RN];simp
def jL (c:UInt8):Bool:=decide (48<=c.toNat)&&decide (c.toNat<=57)
def Ih:ai:=[48,49,50,51,52,53,54,55,56,57]
theorem RO (c:UInt8):c∈Ih↔jL c=true:=by
 have hc:=UInt8.toNat_lt c
 constructor
 ·intro h
  have h:c=48\/c=49\/c=50\/c=51\/c=52\/c=53\/c=54\/c=55\/c=56\/c=57:=by simpa[Ih] using h
  rcases h with h | h | h | h | h | h | h | h | h | h<;>subst h<;>rfl
 ·intro h
  have h:48<=c.toNat/\c.toNat<=57:=by simpa[jL] using h
  obtain⟨n,hn⟩:∃ n,c.toNat=n:=⟨_,rfl⟩;have e:c=UInt8.ofNat n:=by rw[<- hn];exact(UInt8.ofNat_toNat).symm
  have:n=48\/n=49\/n=50\/n=51\/n=52\/n=53\/n=54\/n=55\/n=56\/n=57:=ab
  rcases this with t | t | t | t | t | t | t | t | t | t<;>(rw[t] at e;rw[e];decide)
def jd (d:ai):Int:=d.foldl (λ n c=>n * 10+((c.toNat:Int) - 48)) 0
theorem Ii (d:ai)(c:UInt8):jd (d++[c])=jd d * 10+((c.toNat:Int) - 48):=by unfold jd;rw[sF];rfl
theorem Mg:∀ (d:ai) (n:Int),0<=n->(∀ c∈d,jL c=true)->0<=d.foldl (λ n c=>n * 10+((c.toNat:Int) - 48)) n/\d.foldl (λ n c=>n * 10+((c.toNat:Int) - 48)) n<(n+1) * ((10 ^ d.length:Nat):Int)
 | [],n,h0,_=>by simp;omega
 | c::d,n,h0,h=>by
  have hc:48<=c.toNat/\c.toNat<=57:=by simpa[jL] using h c bm
  obtain⟨i1,i2⟩:=Mg d (n * 10+((c.toNat:Int) - 48)) ab (λ x hx=>h x (by simp[hx]));refine⟨i1,Int.lt_of_lt_of_le i2 ?_⟩;have e:(n+1) * ((10 ^ (c::d).length:Nat):Int)=(n * 10+10) * ((10 ^ d.length:Nat):Int):=by
   rw[cY,vX,Int.natCast_mul,Int.mul_comm ((10 ^ d.length:Nat):Int),<- Int.mul_assoc]
   congr 1
   omega
  rw[e];exact Int.mul_le_mul_of_nonneg_right ab (Int.natCast_nonneg _)
theorem Ij (d:ai)(h:∀ c∈d,jL c=true)(hl:d.length<=18):0<=jd d/\jd d<1000000000000000000:=by
 obtain⟨a,b⟩:=Mg d 0 (kC _) h;have:10 ^ d.length<=10 ^ 18:=zH ar hl;unfold jd;omega
theorem aaE (s:ai):∃ (v:Sl) (w':ah),(convert 9 22 (.string (str s))).run Tryz.prog w=.ok (.slice v.1 v.2.1 v.2.2) w'/\eW w' 1 v (s.map λ b=>Value.int .u8 (b.toNat:Int))/\v.2.1=s.length/\Fr none1 w w':=by
 refine⟨(some ⟨w.heap.size,0,none⟩,(str s).size,_),_,run_bytes_of_string w 9 22 5 (str s) Tryz.underlying9 Tryz.underlying22 Tryz.underlying5,?_,fS s,?_⟩
 ·refine⟨by rw[eI,jg];exact(fS s).symm,(λ t=>nomatch t),λ a ha=>?_⟩
  injection ha with ha
  subst ha;refine qt (D9 ..) _ 0 λ j hj=>?_;rw[eI] at hj;unfold bytesRow;rw[eP,Array.getElem?_append_left (by unfold str;simpa using hj)];unfold str;simp
 ·exact(BM w).trans (pG _ _)
theorem aaF (s d:ai)(neg:Bool)(hs:s=(if neg then 45::d else d))(aL:d≠[])(hd:∀ c∈d,jL c=true)(hl:s.length<19)(w:ah):
  au 310 #[.string (str s)] w λ r w'=>r=.tuple #[aa (if neg then -(jd d) else jd d),.nilIface]/\Fr none1 w w':=by
 refine c310 _ w _ ?_;unfold C310;have rI:0<d.length:=xQ.2 aL;have jW:s.length=d.length+(if neg then 1 else 0):=by rw[hs];cases neg<;>simp
 have aaG:d.length<=18:=ab;have h0:0<s.length:=ab;have Ap:48<=(d.getD 0 0).toNat/\(d.getD 0 0).toNat<=57:=by
  have:jL (d.getD 0 0)=true:=hd _ (by rw[dB,cV rI];exact nQ _);simpa[jL] using this
 have uM:((s.getD 0 0).toNat=45/\neg=true)\/(48<=(s.getD 0 0).toNat/\(s.getD 0 0).toNat<=57/\neg=false):=by
  rw[hs];cases neg with
  | true=>exact .inl ⟨rfl,rfl⟩
  | false=>exact .inr ⟨Ap.1,Ap.2,rfl⟩
 refine dc.of (λ q w'=>q.1=true/\w=w') ?_ ?_
 ·rw[fS]
  refine ae.yes ab ⟨decide_eq_true ab,rfl⟩
 rintro _ ⟨q,_⟩ _ ⟨hq,rfl⟩;dsimp only at hq;subst hq;refine ae.t rfl ?_;refine dc.of (λ q w'=>q.1=str d/\w=w') ?_ ?_
 ·refine dc.of (λ q w'=>q.1=neg/\w=w') ?_ ?_
  ·refine Ao ab ab ?_
   rw[show(0:Int).toNat=0 from rfl];refine ae.eq (λ h=>?_) (λ h=>?_)
   ·refine⟨?_,rfl⟩
    rcases uM with⟨_,hn⟩ | ⟨h1,_,_⟩
    ·exact hn.symm
    ·omega
   ·refine Ao ab ab ⟨?_,rfl⟩
    rw[show(0:Int).toNat=0 from rfl]
    rcases uM with⟨h1,_⟩ | ⟨h1,_,hn⟩
    ·omega
    ·rw[hn];simp only[beq_eq_false_iff_ne];omega
  rintro _ ⟨q,_⟩ _ ⟨hq,rfl⟩;dsimp only at hq;subst hq;refine ae.by (λ hn=>?_) (λ hn=>?_)
  ·subst hn
   refine EV ab (by rw[fS];omega) (by rw[fS];omega) ?_;have e:(s.drop (1:Int).toNat).take (((str s).size:Int).toNat - (1:Int).toNat)=d:=by
    rw[fS,hs];simp
   rw[e,fS];refine ae.no ab ⟨rfl,rfl⟩
  ·subst hn
   refine⟨?_,rfl⟩;show str s=str d;rw[hs];rfl
 rintro _ ⟨q,_⟩ _ ⟨hq,rfl⟩;dsimp only at hq;subst hq;obtain⟨v,w1,r1,hv,dD,f1⟩:=aaE (w:=w) d;refine⟨v,w1,r1,?_⟩;refine cp.of (λ q w'=>w1=w'/\∃ n:Nat,q.2.1=n/\n<=d.length/\q.1=jd (d.take n)) (λ q _=>d.length - q.2.1.toNat) ⟨rfl,0,rfl,by omega,rfl⟩ ?_;rintro _ ⟨m,i,_⟩ _ ⟨rfl,n,hn,rG,hm⟩;dsimp only at hn hm ⊢;subst hn;subst hm;refine ae.dec (λ bI=>?_) (λ gk=>?_)
 ·have sC:d.getD n 0∈d:=by rw[dB,cV ab];exact nQ _
  have hc:48<=(d.getD n 0).toNat/\(d.getD n 0).toNat<=57:=by simpa[jL] using hd _ sC
  refine eW.ld hv ab bI (x:=((d.getD n 0).toNat:Int)) (by rw[iH,ig,dB,cV ab];rfl) ?_;have e1:IntKind.u8.wrap (((d.getD n 0).toNat:Int) - 48)=((d.getD n 0).toNat:Int) - 48:=by rw[IntKind.wrap_u8];omega
  rw[e1];refine ae.no ab ?_;obtain⟨b1,b2⟩:=Ij (d.take n) (λ c hc=>hd c (List.mem_of_mem_take hc)) (by rw[ga];omega);rw[wI (x:=((d.getD n 0).toNat:Int) - 48) ab ab];obtain⟨b3,b4⟩:=Ij (d.take (n+1)) (λ c hc=>hd c (List.mem_of_mem_take hc)) (by rw[ga];omega);have e2:d.take (n+1)=d.take n++[d.getD n 0]:=by
   rw[zG ab,dB,cV ab];rfl
  rw[e2,Ii] at b3 b4;rw[wI (x:=jd (d.take n) * 10) ab ab,wI (x:=jd (d.take n) * 10+(((d.getD n 0).toNat:Int) - 48)) ab ab,wI (x:=(n:Int)+1) ab ab];refine⟨⟨rfl,n+1,by omega,by omega,?_⟩,by omega⟩;rw[e2,Ii]
 ·have:n=d.length:=ab
  subst this;rw[qx];obtain⟨b1,b2⟩:=Ij d hd aaG;refine Ao ab ab ?_;rw[show(0:Int).toNat=0 from rfl]
  rcases uM with⟨h1,hn⟩ | ⟨h1,h2,hn⟩
  ·subst hn
   refine ae.t (by rw[h1];rfl) ?_;rw[wI (x:=0 - jd d) ab ab,Int.zero_sub];exact⟨rfl,f1⟩
  ·subst hn
   refine ae.f (by simp only[beq_eq_false_iff_ne];omega) ⟨rfl,f1⟩
theorem Mh {t:TypeId}(ht:∃ ms,Tryz.prog.underlying t=some (.interface ms))(o:Operand)(w:ah):
  (do eqGuard .neq t o (.const .nilIface) .nilIface .nilIface;binOp .neq t .nilIface .nilIface:Sem av).run Tryz.prog w=.ok (.bool false) w:=by
 obtain⟨ms,ht⟩:=ht;have h1:(eqGuard .neq t o (.const .nilIface) .nilIface .nilIface).run Tryz.prog w=.ok () w:=by
  unfold eqGuard;simp
 rw[Sem.run_bind,h1,Result.andThen_ok];have h2:(Op.equalIn (9999+1) t .nilIface .nilIface).run Tryz.prog w=.ok true w:=by
  unfold Op.equalIn;simp only[Sem.run_bind,under ht,Result.andThen_ok,Sem.run_pure]
 show(do pure (Value.bool (!(<- Op.equalIn (9999+1) t .nilIface .nilIface))):Sem av).run Tryz.prog w=_
 rw[Sem.run_bind,h2];rfl
theorem RP (s d:ai)(neg:Bool)(hs:s=(if neg then 45::d else d))(aL:d≠[])(hd:∀ c∈d,jL c=true)(hl:s.length<19)(w:ah):
  au 291 #[.string (str s)] w λ r w'=>r=.tuple #[aa (if neg then -(jd d) else jd d),.nilIface]/\Fr none1 w w':=by
 refine c291 _ w _ ?_;refine an.of (aaF s d neg hs aL hd hl w) ?_;rintro _ w1 ⟨rfl,f1⟩;refine⟨(_,.nilIface,()),rfl,?_⟩;refine⟨false,w1,Mh ⟨_,Tryz.underlying426⟩ _ w1,ae.f rfl ⟨rfl,f1⟩⟩
def iV (s:ai):Int×Bool:=
 if fm s=[]\/13<(fm s).length\/(fm s).all jL=false\/((fm s).getD 0 0=48/\s≠[48]) then(0,false) else
 if 1000000000000<jd (fm s) then(0,false) else(if s.take 1=[45] then -(jd (fm s)) else jd (fm s),true)
theorem Ik (s:ai)(hl:s.length<=100000)(w:ah):au 281 #[.string (str s)] w λ r w'=>r=.tuple #[aa (iV s).1,.bool (iV s).2]/\Fr none1 w w':=by
 refine c281 _ w _ ?_;unfold C281;have e0:(⟨#[]⟩:ay)=str []:=rfl;have e45:(⟨#[45]⟩:ay)=str [45]:=rfl;have e48:(⟨#[48]⟩:ay)=str [48]:=rfl;have ed:(⟨#[48,49,50,51,52,53,54,55,56,57]⟩:ay)=str Ih:=rfl;rw[e0,e45,e48,ed];refine an.of (aay s w) ?_;rintro _ _ ⟨rfl,rfl⟩;refine⟨_,rfl,?_⟩;have rI:(fm s).length<=s.length:=by unfold fm;split<;>simp
 refine dc.of (λ q w'=>q.1=decide (fm s=[]\/13<(fm s).length\/(fm s).all jL=false\/((fm s).getD 0 0=48/\s≠[48]))/\Fr none1 w w') ?_ ?_
 ·rw[ly]
  refine ae.dec (λ h=>?_) (λ h=>?_)
  ·exact⟨(decide_eq_true (.inl h)).symm,Fr.refl _ _⟩
  rw[fS];refine ae.dec (λ h2=>?_) (λ h2=>?_)
  ·exact⟨(decide_eq_true (.inr (.inl ab))).symm,Fr.refl _ _⟩
  refine an.of (aaD (fm s) Ih h ar ar ar ab w) ?_;rintro _ w1 ⟨⟨v,rfl,hv⟩,f1⟩;refine⟨_,rfl,?_⟩;rw[ly];have hall:v=[]↔(fm s).all jL=true:=by
   rw[hv,xN];exact⟨λ t c hc=>(RO c).1 (t c hc),λ t c hc=>(RO c).2 (t c hc)⟩
  by_cases yd:v=[]
  ·refine ae.f (by simp[yd]) ?_
   have ha:=hall.1 yd;have sE:0<(fm s).length:=xQ.2 h;refine Ao ab ab ?_;rw[show(0:Int).toNat=0 from rfl];refine ae.eq (λ RQ=>?_) (λ RQ=>?_)
   ·refine⟨?_,f1⟩
    have aaH:(fm s).getD 0 0=48:=UInt8.toNat_inj.1 (by have:(48:UInt8).toNat=48:=rfl;omega);rw[ly]
    by_cases Il:s=[48]
    ·rw[decide_eq_true Il,decide_eq_false]
     ·rfl
     ·rintro(t | t | t | t)
      ·exact h t
      ·omega
      ·rw[ha] at t;cases t
      ·exact t.2 Il
    ·rw[decide_eq_false Il,decide_eq_true (.inr (.inr (.inr ⟨aaH,Il⟩)))];rfl
   ·refine⟨?_,f1⟩
    rw[decide_eq_false];rintro(t | t | t | t)
    ·exact h t
    ·omega
    ·rw[ha] at t;cases t
    ·exact RQ (by rw[t.1];rfl)
  ·refine ae.t (by simp[yd]) ⟨?_,f1⟩
   refine(decide_eq_true (.inr (.inr (.inl ?_)))).symm;have:=λ t=>yd (hall.2 t);simpa using this
 rintro _ ⟨q,_⟩ w1 ⟨hq,f1⟩;dsimp only at hq;subst hq;unfold iV;refine ae.dec (λ h=>?_) (λ h=>?_)
 ·rw[if_pos h];exact⟨rfl,f1⟩
 rw[if_neg h];have aL:fm s≠[]:=λ t=>h (.inl t);have RR:(fm s).length<=13:=by
  by_cases t:13<(fm s).length
  ·exact absurd (.inr (.inl t)) h
  ·omega
 have hall:∀ c∈fm s,jL c=true:=by
  have:(fm s).all jL=true:=by
   cases ha:(fm s).all jL with
   | true=>rfl
   | false=>exact absurd (.inr (.inr (.inl ha))) h
  exact xN.1 this
 have ye:s=(if decide (s.take 1=[45]) then 45::fm s else fm s):=by
  unfold fm
  by_cases t:s.take 1=[45]
  ·rw[if_pos (decide_eq_true t),if_pos t]
   conv=>lhs;rw[<- Ef 1 s,t]
   rfl
  ·rw[if_neg (by simpa using t),if_neg t]
 have jW:s.length<=14:=by
  rw[ye];split
  ·simp only[cY];omega
  ·omega
 obtain⟨b1,b2⟩:=Ij (fm s) hall ab
 by_cases hn:s.take 1=[45]
 ·rw[if_pos (decide_eq_true hn)] at ye
  rw[if_pos hn];refine an.of (RP s (fm s) true ye aL hall ab w1) ?_;rintro _ w2 ⟨rfl,f2⟩;refine⟨(-(jd (fm s)),.nilIface,()),rfl,?_⟩;refine⟨false,w2,Mh ⟨_,Tryz.underlying426⟩ _ w2,ae.f rfl ?_⟩;have f12:=f1.trans f2;refine ae.dec (λ h1=>?_) (λ h1=>?_)
  ·rw[if_pos ab];exact⟨rfl,f12⟩
  ·rw[if_neg ab]
   refine ae.no ab ⟨rfl,f12⟩
 ·rw[if_neg (by simpa using hn)] at ye
  rw[if_neg hn];refine an.of (RP s (fm s) false ye aL hall ab w1) ?_;rintro _ w2 ⟨rfl,f2⟩;refine⟨(jd (fm s),.nilIface,()),rfl,?_⟩;refine⟨false,w2,Mh ⟨_,Tryz.underlying426⟩ _ w2,ae.f rfl ?_⟩;have f12:=f1.trans f2;refine ae.no ab ?_;refine ae.dec (λ h1=>?_) (λ h1=>?_)
  ·rw[if_pos ab];exact⟨rfl,f12⟩
  ·rw[if_neg ab];exact⟨rfl,f12⟩
theorem Mi {n:Nat}(h:n<10):Lib.decDigits n=[UInt8.ofNat (48+n)]:=Lib.decDigits_one h
theorem RT {n:Nat}(h:¬ n<10):Lib.decDigits n=Lib.decDigits (n / 10)++[UInt8.ofNat (48+n % 10)]:=by rw[Lib.decDigits,dif_neg h]
theorem RU {k:Nat}(h:k<10):jL (UInt8.ofNat (48+k))=true:=by
 unfold jL;rw[qz ab,decide_eq_true ab,decide_eq_true ab];rfl
theorem RV {c:UInt8}(h:jL c=true):48<=c.toNat/\c.toNat<=57:=by
 unfold jL at h;simp only[dp,decide_eq_true_eq] at h;exact h
theorem Ct:∀ n:Nat,Lib.decDigits n≠[]/\(∀ c∈Lib.decDigits n,jL c=true)/\jd (Lib.decDigits n)=n/\((Lib.decDigits n).getD 0 0=48->n=0)/\(∀ k:Nat,1<=k->n<10 ^ k->(Lib.decDigits n).length<=k):=by
 intro n
 induction n using Nat.strongRecOn with
 | _ n ih=>
  by_cases h:n<10
  ·rw[Mi h]
   refine⟨by simp,λ c hc=>?_,?_,λ t=>?_,λ k hk _=>by simpa using hk⟩
   ·simp only[nR] at hc;rw[hc];exact RU h
   ·show(0:Int) * 10+(((UInt8.ofNat (48+n)).toNat:Int) - 48)=n
    rw[qz ab];omega
   ·have t:UInt8.ofNat (48+n)=48:=t
    have:=congrArg UInt8.toNat t;rw[qz ab] at this;have e:(48:UInt8).toNat=48:=rfl;omega
  ·obtain⟨i1,i2,i3,i4,i5⟩:=ih (n / 10) ab
   rw[RT h];refine⟨by simp,λ c hc=>?_,?_,λ t=>?_,λ k hk bI=>?_⟩
   ·rcases kE.1 hc with hc | hc
    ·exact i2 c hc
    ·simp only[nR] at hc;rw[hc];exact RU ab
   ·rw[Ii,i3,qz ab];omega
   ·have hp:0<(Lib.decDigits (n / 10)).length:=xQ.2 i1
    rw[dB,oV hp,<- dB] at t;have:=i4 t;omega
   ·obtain⟨k',rfl⟩:∃ k',k=k'+1:=⟨k - 1,by omega⟩
    have o0:1<=k':=by
     cases k' with
     | zero=>simp at bI;omega
     | succ k'=>omega
    have Aq:n / 10<10 ^ k':=by rw[vX] at bI;omega
    have:=i5 k' o0 Aq;simp only[bU,fZ];omega
theorem RW {n:Nat}(h:n<=1000000000000):(Lib.decDigits n).length<=13:=(Ct n).2.2.2.2 13 ab ab
theorem aaI (s:ai):fm (45::s)=s:=by unfold fm;rw[if_pos bm];rfl
theorem aaJ {s:ai}(h:∀ c∈s,jL c=true):fm s=s/\s.take 1≠[45]:=by
 have ht:s.take 1≠[45]:=λ t=>by
  cases s with
  | nil=>simp at t
  | cons c l=>
   have hc:=h c bm;simp at t;rw[t] at hc;exact absurd hc ar
 exact⟨by unfold fm;rw[if_neg ht],ht⟩
theorem aaK {n:Nat}(h:n<=1000000000000):iV (Lib.decDigits n)=((n:Int),true):=by
 obtain⟨aL,hd,hv,h0,_⟩:=Ct n;have RR:=RW h;obtain⟨mK,zq⟩:=aaJ hd;unfold iV;rw[mK,if_neg,hv,if_neg ab,if_neg zq];rintro(t | t | t | t)
 ·exact aL t
 ·omega
 ·rw[xN.2 hd] at t;cases t
 ·have:=h0 t.1
  subst this;exact t.2 (by rw[Mi ab];rfl)
theorem aaL {n:Nat}(h:n<=1000000000000)(hn:n≠0):iV (45::Lib.decDigits n)=(-(n:Int),true):=by
 obtain⟨aL,hd,hv,h0,_⟩:=Ct n;have RR:=RW h;unfold iV;rw[aaI,if_neg,hv,if_neg ab,if_pos bm];rintro(t | t | t | t)
 ·exact aL t
 ·omega
 ·rw[xN.2 hd] at t;cases t
 ·exact hn (h0 t.1)
theorem RX {n:Int}(h0:-1000000000000<=n)(h1:n<=1000000000000):iV (Lib.itoa n)=(n,true):=by
 unfold Lib.itoa
 by_cases h:n<0
 ·rw[if_pos h,aaL ab ab]
  congr 1;omega
 ·rw[if_neg h,aaK ab]
  congr 1;omega
theorem aaM {α:Type}{Q:List α->Prop}(h0:Q [])(h1:∀ l a,Q l->Q (l++[a]))(l:List α):Q l:=by
 have:∀ r:List α,Q r.reverse:=λ r=>by
  induction r with
  | nil=>exact h0
  | cons a r ih=>rw[List.reverse_cons];exact h1 _ _ ih
 have:=this l.reverse;rwa[List.reverse_reverse] at this
theorem aaN (d:ai)(h:∀ c∈d,jL c=true):0<=jd d:=(Mg d 0 ab h).1
theorem RY:∀ d:ai,d≠[]->(∀ c∈d,jL c=true)->(d.getD 0 0=48->d=[48])->Lib.decDigits (jd d).toNat=d/\(d≠[48]->1<=jd d):=by
 intro d
 induction d using aaM with
 | h0=>intro h;exact absurd rfl h
 | h1 e c ih=>
  intro _ hd hz;have hc:=RV (hd c bm);have hv:=Ii e c;have RZ:UInt8.ofNat (48+(c.toNat - 48))=c:=by rw[show 48+(c.toNat - 48)=c.toNat by omega];exact UInt8.ofNat_toNat
  by_cases he:e=[]
  ·subst he
   have yd:jd []=0:=rfl;rw[iR] at *;have:jd [c]=(c.toNat:Int) - 48:=by rw[hv,yd];omega
   rw[this];refine⟨?_,λ aL=>?_⟩
   ·rw[show((c.toNat:Int) - 48).toNat=c.toNat - 48 by omega,Mi ab,RZ]
   ·have:c≠48:=λ t=>aL (by rw[t])
    have:c.toNat≠48:=λ t=>this (by rw[<- UInt8.toNat_inj];exact t);omega
  ·have hp:0<e.length:=xQ.2 he
   have hg:(e++[c]).getD 0 0=e.getD 0 0:=by rw[dB,oV hp,<- dB]
   have R4:e.getD 0 0≠48:=λ t=>by
    have:=hz (hg.trans t);have:=congrArg List.length this;rw[bU,fZ,fZ] at this;omega
   obtain⟨i1,i2⟩:=ih he (λ c hc=>hd c (by simp[hc])) (λ t=>absurd t R4);have yg:=i2 (λ t=>R4 (by rw[t];rfl));rw[hv];refine⟨?_,λ _=>by omega⟩;rw[RT (n:=(jd e * 10+((c.toNat:Int) - 48)).toNat) ab,show(jd e * 10+((c.toNat:Int) - 48)).toNat / 10=(jd e).toNat by omega,i1,show(jd e * 10+((c.toNat:Int) - 48)).toNat % 10=c.toNat - 48 by omega,RZ]
theorem R5 {s:ai}(h:(iV s).2=true):s=Lib.itoa (iV s).1/\-1000000000000<=(iV s).1/\(iV s).1<=1000000000000:=by
 unfold iV at h ⊢;split at h
 ·cases h
 rename_i hc;split at h
 ·cases h
 rename_i hb;rw[if_neg hc,if_neg hb];simp only[not_or] at hc;obtain⟨h1,h2,h3,h4⟩:=hc;have hd:∀ c∈fm s,jL c=true:=by
  have:(fm s).all jL=true:=by cases h:(fm s).all jL;exact absurd h h3;rfl
  exact xN.1 this
 have hn:=aaN _ hd
 by_cases hm:s.take 1=[45]
 ·have hs:s=45::fm s:=by
   unfold fm;rw[if_pos hm];cases s with
   | nil=>simp at hm
   | cons c l=>simp at hm;subst hm;rfl
  have hz:(fm s).getD 0 0≠48:=λ t=>h4 ⟨t,λ e=>by rw[e] at hm;simp at hm⟩;obtain⟨i1,i2⟩:=RY _ h1 hd (λ t=>absurd t hz);have:=i2 (λ t=>hz (by rw[t];rfl));rw[if_pos hm];refine⟨?_,by dsimp only;omega,by dsimp only;omega⟩;dsimp only;unfold Lib.itoa;rw[if_pos ab,show(-jd (fm s)).natAbs=(jd (fm s)).toNat by omega,i1];exact hs
 ·have hs:fm s=s:=by unfold fm;rw[if_neg hm]
  rw[if_neg hm];rw[hs] at h1 h2 h3 h4 hb hn hd ⊢;obtain⟨i1,i2⟩:=RY s h1 hd (λ t=>by
   by_cases e:s=[48]
   ·exact e
   ·exact absurd ⟨t,e⟩ h4)
  refine⟨?_,by dsimp only;omega,by dsimp only;omega⟩;dsimp only;unfold Lib.itoa;rw[if_neg ab,i1]
structure RS where
 l:List fJ
 at_:Int
 e:Int
def Mj (fin:Int)(s:RS):Int:=match s.l with | x::_=>x.2 | []=>fin
def nX (fin c:Int)(s:RS):RS:=if s.e=0 then⟨s.l,Mj fin s,c⟩ else s
def dd (fin:Int)(right:ai->Bool)(s:RS):ai×RS:=
 if s.e=0 then match s.l with
  | []=>([],⟨[],fin,2⟩)
  | x::l=>if right x.1=true then(x.1,⟨l,s.at_,0⟩) else([],⟨x::l,x.2,2⟩)
 else([],s)
def fo (fin:Int)(x:ai)(s:RS):RS:=(dd fin (λ y=>decide (y=x)) s).2
def jX (x:ai):Bool:=(iV x).2||(x==[102,105,120]||(x==[97,100,100]||(x==[110,101,103]||(x==[109,117,108]||x==[109,97,120]))))
def jk (x:ai):Bool:=x==[122,101,114,111]||(x==[111,110,101]||(x==[103,105,118,101]||(x==[97,110,100]||(x==[111,114]||(x==[115,99,97,108,101]||(x==[119,104,101,110]||x==[105,102]))))))
def o6 (x:ai):Bool:=(iV x).2&&(decide (0<=(iV x).1)&&decide ((iV x).1<=10000))
def jY (fin:Int)(rec:RS->Ob×RS)(s:RS):Ob×Ob×RS:=
 ((rec (fo fin [40] s)).1,(rec (fo fin [44] (rec (fo fin [40] s)).2)).1,fo fin [41] (rec (fo fin [44] (rec (fo fin [40] s)).2)).2)
def wH (fin:Int)(rec:RS->Ob×RS)(x:ai)(s:RS):Ob×RS:=
 if x=[102,105,120] then(.fix (dd fin gY (fo fin [40] s)).1,fo fin [41] (dd fin gY (fo fin [40] s)).2)
 else if x=[110,101,103] then(.neg (rec (fo fin [40] s)).1,fo fin [41] (rec (fo fin [40] s)).2)
 else if x=[97,100,100] then(.add (jY fin rec s).1 (jY fin rec s).2.1,(jY fin rec s).2.2)
 else if x=[109,117,108] then(.mul (jY fin rec s).1 (jY fin rec s).2.1,(jY fin rec s).2.2)
 else if x=[109,97,120] then(.max (jY fin rec s).1 (jY fin rec s).2.1,(jY fin rec s).2.2)
 else(.const (iV x).1,s)
def lC (fin:Int):Nat->RS->Ob×RS
 | 0,s=>(.none,nX fin 5 s)
 | n+1,s=>if s.e≠0 then(.none,s) else if(dd fin jX s).1=[] then(.none,(dd fin jX s).2) else wH fin (lC fin n) (dd fin jX s).1 (dd fin jX s).2
def nY (fin:Int)(rec:RS->Tm×RS)(s:RS):Tm×RS:=((rec s).1,fo fin [41] (rec s).2)
def jZ (fin:Int)(rec:RS->Tm×RS)(s:RS):Tm×Tm×RS:=((rec s).1,(rec (fo fin [44] (rec s).2)).1,fo fin [41] (rec (fo fin [44] (rec s).2)).2)
def va (fin:Int)(num:RS->Ob×RS)(rec:RS->Tm×RS)(x:ai)(s:RS):Tm×RS:=
 if x=[111,110,101] then(.one (dd fin gY s).1,fo fin [41] (dd fin gY s).2)
 else if x=[103,105,118,101] then(.dy (nY fin rec s).1,(nY fin rec s).2)
 else if x=[97,110,100] then(.and (jZ fin rec s).1 (jZ fin rec s).2.1,(jZ fin rec s).2.2)
 else if x=[111,114] then
  (.or (dd fin gY s).1 (jZ fin rec (fo fin [44] (dd fin gY s).2)).1 (jZ fin rec (fo fin [44] (dd fin gY s).2)).2.1,(jZ fin rec (fo fin [44] (dd fin gY s).2)).2.2)
 else if x=[115,99,97,108,101] then(.scale (num s).1 (nY fin rec (fo fin [44] (num s).2)).1,(nY fin rec (fo fin [44] (num s).2)).2)
 else if x=[119,104,101,110] then
  (.when (iV (dd fin o6 s).1).1 (nY fin rec (fo fin [44] (dd fin o6 s).2)).1,(nY fin rec (fo fin [44] (dd fin o6 s).2)).2)
 else(.cond (num s).1 (jZ fin rec (fo fin [44] (num s).2)).1 (jZ fin rec (fo fin [44] (num s).2)).2.1,(jZ fin rec (fo fin [44] (num s).2)).2.2)
def iv (fin:Int):Nat->RS->Tm×RS
 | 0,s=>(.none,nX fin 5 s)
 | n+1,s=>if s.e≠0 then(.none,s) else if(dd fin jk s).1=[] then(.zero,(dd fin jk s).2) else if(dd fin jk s).1=[122,101,114,111] then(.zero,(dd fin jk s).2)
   else va fin (lC fin n) (iv fin n) (dd fin jk s).1 (fo fin [40] (dd fin jk s).2)
def yh (fin:Int)(s:RS):RS:=match s.l with | []=>s | _::_=>nX fin 2 s
def qJ (bs:ai):Int:=((dL bs).length:Int)+1
def o7 (bs:ai):RS:=if 1000<bs.length then⟨[],0,5⟩ else if 0<(gK [] 0 false (dL bs)).2 then⟨(gK [] 0 false (dL bs)).1,(gK [] 0 false (dL bs)).2,2⟩ else⟨(gK [] 0 false (dL bs)).1,0,0⟩
def sS (bs:ai):RS:=yh (qJ bs) (iv (qJ bs) 12 (o7 bs)).2
def qK (bs:ai):Tm×Int×Int:=
 if(sS bs).e≠0 then(.none,(sS bs).at_,(sS bs).e) else if mu (iv (qJ bs) 12 (o7 bs)).1≠0 then(.none,(sS bs).at_,mu (iv (qJ bs) 12 (o7 bs)).1) else((iv (qJ bs) 12 (o7 bs)).1,0,0)
theorem Mk {fin:Int}{right:ai->Bool}{x:fJ}{l:List fJ}{a:Int}(h:right x.1=true):dd fin right ⟨x::l,a,0⟩=(x.1,⟨l,a,0⟩):=by
 unfold dd;simp[h]
theorem R6 {fin:Int}{right:ai->Bool}{x:fJ}{l:List fJ}{a:Int}(h:¬ right x.1=true):dd fin right ⟨x::l,a,0⟩=([],⟨x::l,x.2,2⟩):=by
 unfold dd;simp[h]
theorem R7 {fin:Int}{right:ai->Bool}{a:Int}:dd fin right ⟨[],a,0⟩=([],⟨[],fin,2⟩):=by
 unfold dd;simp
theorem R8 {fin:Int}{right:ai->Bool}{s:RS}(h:s.e≠0):dd fin right s=([],s):=by
 unfold dd;rw[if_neg h]
theorem R9 {fin c:Int}{s:RS}(h:s.e≠0):nX fin c s=s:=by unfold nX;rw[if_neg h]
structure iM (s:RS)(ts:List (ai))(s':RS):Prop where
 e:s.e=0
 e':s'.e=0
 at_:s'.at_=s.at_
 Cu:∃ xs:List fJ,s.l=xs++s'.l/\xs.map Prod.fst=ts
theorem iM.trans {s s1 s2:RS}{a b:List (ai)}(h:iM s a s1)(k:iM s1 b s2):iM s (a++b) s2:=by
 obtain⟨xs,hx,sT⟩:=h.Cu;obtain⟨ys,hy,zz⟩:=k.Cu;exact⟨h.e,k.e',k.at_.trans h.at_,xs++ys,by rw[hx,hy,gI],by rw[jG,sT,zz]⟩
theorem iM.nil {s s':RS}(h:iM s [] s'):s=s':=by
 obtain⟨xs,hx,sT⟩:=h.Cu;have:xs=[]:=by simpa using sT
 subst this
 rcases s with⟨l,a,e⟩
 rcases s' with⟨l',a',e'⟩
 have h1:=h.e;have h2:=h.e';have h3:=h.at_;dsimp only at h1 h2 h3 hx;subst h1 h2 h3;rw[iR] at hx;rw[hx]
theorem iM.split {s s':RS}{a b:List (ai)}(h:iM s (a++b) s'):∃ s1,iM s a s1/\iM s1 b s':=by
 obtain⟨xs,hx,sT⟩:=h.Cu;obtain⟨ys,zs,rfl,hy,hz⟩:=List.map_eq_append_iff.1 sT;exact⟨⟨zs++s'.l,s.at_,0⟩,⟨h.e,rfl,rfl,ys,by rw[hx,gI],hy⟩,⟨rfl,h.e',h.at_,zs,rfl,hz⟩⟩
theorem iM.head {s s':RS}{t:ai}{ts:List (ai)}(h:iM s (t::ts) s'):∃ (x:fJ) (l:List fJ),s=⟨x::l,s.at_,0⟩/\x.1=t/\iM ⟨l,s.at_,0⟩ ts s':=by
 obtain⟨xs,hx,sT⟩:=h.Cu;cases xs with
 | nil=>simp at sT
 | cons x xs=>
  simp only[gU,List.cons.injEq] at sT;refine⟨x,xs++s'.l,?_,sT.1,rfl,h.e',h.at_,xs,rfl,sT.2⟩
  rcases s with⟨l,a,e⟩
  have h1:=h.e;dsimp only at h1 hx ⊢;rw[h1,hx];rfl
theorem wJ {fin:Int}{right:ai->Bool}{s:RS}(h:(dd fin right s).2.e=0):iM s [(dd fin right s).1] (dd fin right s).2/\right (dd fin right s).1=true:=by
 rcases s with⟨l,a,e⟩
 by_cases he:e=0
 ·subst he
  cases l with
  | nil=>rw[R7] at h;exact absurd (show(2:Int)=0 from h) ar
  | cons x l=>
   by_cases hr:right x.1=true
   ·rw[Mk hr];exact⟨⟨rfl,rfl,rfl,[x],rfl,rfl⟩,hr⟩
   ·rw[R6 hr] at h;exact absurd (show(2:Int)=0 from h) ar
 ·rw[R8 he] at h;exact absurd h he
theorem o8 {fin:Int}{s:RS}(h:(fo fin x s).e=0):iM s [x] (fo fin x s):=by
 obtain⟨h1,h2⟩:=wJ (fin:=fin) (right:=λ y=>decide (y=x)) h;have h2:=of_decide_eq_true h2;rw[h2] at h1;exact h1
theorem nx {fin:Int}{right:ai->Bool}{s s':RS}{t:ai}{ts:List (ai)}(hr:right t=true)(h:iM s (t::ts) s'):∃ s1,dd fin right s=(t,s1)/\iM s1 ts s':=by
 obtain⟨x,l,hs,hx,ha⟩:=h.head;refine⟨_,?_,ha⟩;rw[hs,Mk (by rw[hx];exact hr),hx]
theorem iw {fin:Int}{s s':RS}{t:ai}{ts:List (ai)}(h:iM s (t::ts) s'):∃ s1,fo fin t s=s1/\iM s1 ts s':=by
 obtain⟨s1,h1,h2⟩:=nx (fin:=fin) (right:=λ y=>decide (y=t)) bm h;exact⟨s1,by unfold fo;rw[h1],h2⟩
structure Cut (s:RS)(ts:List (ai)):Prop where
 e:s.e=0
 cut:∃ u:List (ai),u≠[]/\s.l.map Prod.fst++u=ts
theorem Cut.head {s:RS}{t:ai}{ts:List (ai)}(h:Cut s (t::ts)):s=⟨[],s.at_,0⟩\/∃ (x:fJ) (l:List fJ),s=⟨x::l,s.at_,0⟩/\x.1=t/\Cut ⟨l,s.at_,0⟩ ts:=by
 obtain⟨u,hu,he⟩:=h.cut
 rcases s with⟨l,a,e⟩
 have h1:=h.e;dsimp only at h1 he ⊢;subst h1;cases l with
 | nil=>exact .inl rfl
 | cons x l=>
  simp only[gU,kW,List.cons.injEq] at he;exact .inr ⟨x,l,rfl,he.1,rfl,u,hu,he.2⟩
theorem Cut.split {s:RS}{a b:List (ai)}(h:Cut s (a++b)):Cut s a\/∃ s1,iM s a s1/\Cut s1 b:=by
 obtain⟨u,hu,he⟩:=h.cut
 rcases List.append_eq_append_iff.1 he with⟨c,rJ,wK⟩ | ⟨c,rJ,wK⟩
 ·by_cases hc:c=[]
  ·subst hc
   rw[dV] at rJ;rw[iR] at wK;refine .inr ⟨⟨[],s.at_,0⟩,⟨h.e,rfl,rfl,s.l,by simp,rJ.symm⟩,rfl,b,?_,by simp⟩;rw[<- wK];exact hu
  ·exact .inl ⟨h.e,c,hc,rJ.symm⟩
 ·obtain⟨ys,zs,hl,hy,hz⟩:=List.map_eq_append_iff.1 rJ
  exact .inr ⟨⟨zs,s.at_,0⟩,⟨h.e,rfl,rfl,ys,hl,hy⟩,rfl,u,hu,by rw[hz];exact wK.symm⟩
theorem Sb (fin:Int):∀ (n:Nat) (s:RS),s.e≠0->(lC fin n s).2=s
 | 0,s,h=>R9 h
 | n+1,s,h=>by unfold lC;rw[if_pos h]
theorem Sc (fin:Int):∀ (n:Nat) (s:RS),s.e≠0->(iv fin n s).2=s
 | 0,s,h=>R9 h
 | n+1,s,h=>by unfold iv;rw[if_pos h]
def ny:Ob->List (ai)
 | .none=>[]
 | .const n=>[Lib.itoa n]
 | .fix s=>[102,105,120]::[40]::s::[[41]]
 | .neg o=>[110,101,103]::[40]::(ny o++[[41]])
 | .add l r=>[97,100,100]::[40]::(ny l++([44]::(ny r++[[41]])))
 | .mul l r=>[109,117,108]::[40]::(ny l++([44]::(ny r++[[41]])))
 | .max l r=>[109,97,120]::[40]::(ny l++([44]::(ny r++[[41]])))
def lD:Tm->List (ai)
 | .none=>[]
 | .zero=>[[122,101,114,111]]
 | .one s=>[111,110,101]::[40]::s::[[41]]
 | .dy t=>[103,105,118,101]::[40]::(lD t++[[41]])
 | .and l r=>[97,110,100]::[40]::(lD l++([44]::(lD r++[[41]])))
 | .or s l r=>[111,114]::[40]::s::[44]::(lD l++([44]::(lD r++[[41]])))
 | .scale o t=>[115,99,97,108,101]::[40]::(ny o++([44]::(lD t++[[41]])))
 | .when d t=>[119,104,101,110]::[40]::Lib.itoa d::[44]::(lD t++[[41]])
 | .cond o l r=>[105,102]::[40]::(ny o++([44]::(lD l++([44]::(lD r++[[41]])))))
theorem aaO (h:jX x=true):x=[102,105,120]\/x=[97,100,100]\/x=[110,101,103]\/x=[109,117,108]\/x=[109,97,120]\/(iV x).2=true:=by
 unfold jX at h;simp only[Bool.or_eq_true,beq_iff_eq] at h
 rcases h with h | h | h | h | h | h<;>simp[h]
theorem aaP (h:(iV x).2=true):x≠[]/\x≠[102,105,120]/\x≠[110,101,103]/\x≠[97,100,100]/\x≠[109,117,108]/\x≠[109,97,120]:=by
 refine⟨?_,?_,?_,?_,?_,?_⟩<;>(rintro rfl;exact absurd h (by decide +kernel))
theorem aaQ (h:jk x=true):x=[122,101,114,111]\/x=[111,110,101]\/x=[103,105,118,101]\/x=[97,110,100]\/x=[111,114]\/x=[115,99,97,108,101]\/x=[119,104,101,110]\/x=[105,102]:=by
 unfold jk at h;simpa only[Bool.or_eq_true,beq_iff_eq] using h
theorem aaR (h:o6 x=true):(iV x).2=true/\0<=(iV x).1/\(iV x).1<=10000:=by
 unfold o6 at h;simpa only[dp,decide_eq_true_eq] using h
def Sd (n:Nat)(rec:RS->Ob×RS):Prop:=∀ s,(rec s).2.e=0->iM s (ny (rec s).1) (rec s).2/\eF (rec s).1=true/\eS (rec s).1<=n
def Ml (n:Nat)(rec:RS->Tm×RS):Prop:=∀ s,(rec s).2.e=0->iM s (lD (rec s).1) (rec s).2/\dJ (rec s).1=true/\dv (rec s).1<=n
theorem Mm {fin:Int}{n:Nat}{rec:RS->Ob×RS}(hr:Sd n rec){s:RS}(h:(jY fin rec s).2.2.e=0):
  iM s ([40]::(ny (jY fin rec s).1++([44]::(ny (jY fin rec s).2.1++[[41]])))) (jY fin rec s).2.2/\(eF (jY fin rec s).1=true/\eS (jY fin rec s).1<=n)/\eF (jY fin rec s).2.1=true/\eS (jY fin rec s).2.1<=n:=by
 unfold jY at h ⊢;dsimp only at h ⊢;have h5:=o8 h;have h4:=hr _ h5.e;have h3:=o8 h4.1.e;have h2:=hr _ h3.e;have h1:=o8 h2.1.e;have:=h1.trans (h2.1.trans (h3.trans (h4.1.trans h5)));exact⟨by simpa using this,h2.2,h4.2⟩
theorem Se (fin:Int):∀ n,Sd n (lC fin n)
 | 0,s,h=>by
  exfalso
  by_cases he:s.e=0
  ·have:(lC fin 0 s).2.e=5:=by show(nX fin 5 s).e=5;unfold nX;rw[if_pos he]
   rw[this] at h;exact absurd h ar
  ·rw[Sb fin 0 s he] at h;exact he h
 | n+1,s,h=>by
  have ih:=Se fin n;have he:s.e=0:=by
   refine vU λ he=>?_;rw[Sb fin (n+1) s he] at h;exact he h
  unfold lC at h ⊢;rw[if_neg (by simpa using he)] at h ⊢
  by_cases mh:(dd fin jX s).1=[]
  ·rw[if_pos mh] at h
   have:=(wJ h).2;rw[mh] at this;exact absurd this (by decide +kernel)
  rw[if_neg mh] at h ⊢;have step:∀ {o:Ob} {u:List (ai)} {s':RS},iM (dd fin jX s).2 u s'->iM s ((dd fin jX s).1::u) s'/\jX (dd fin jX s).1=true:=λ ha=>by
   have t:=wJ (fin:=fin) (right:=jX) (s:=s) ha.e;exact⟨t.1.trans ha,t.2⟩
  generalize hx:(dd fin jX s).1=x at h mh step ⊢;generalize ng:(dd fin jX s).2=s1 at h step ⊢;unfold wH at h ⊢
  by_cases c1:x=[102,105,120]
  ·rw[if_pos c1] at h ⊢
   dsimp only at h ⊢;have h3:=o8 h;have h2:=wJ h3.e;have h1:=o8 h2.1.e;have:=h1.trans (h2.1.trans h3);refine⟨by have:=(step (o:=.none) this).1;rw[c1] at this;simpa[ny] using this,h2.2,by unfold eS;omega⟩
  rw[if_neg c1] at h ⊢
  by_cases c2:x=[110,101,103]
  ·rw[if_pos c2] at h ⊢
   dsimp only at h ⊢;have h3:=o8 h;have h2:=ih _ h3.e;have h1:=o8 h2.1.e;have:=h1.trans (h2.1.trans h3);refine⟨by have:=(step (o:=.none) this).1;rw[c2] at this;simpa[ny] using this,h2.2.1,by unfold eS;have:=h2.2.2;omega⟩
  rw[if_neg c2] at h ⊢
  by_cases c3:x=[97,100,100]
  ·rw[if_pos c3] at h ⊢
   dsimp only at h ⊢;have hp:=Mm ih h;refine⟨by have:=(step (o:=.none) hp.1).1;rw[c3] at this;exact this,by unfold eF;rw[hp.2.1.1,hp.2.2.1];rfl,by unfold eS;have:=hp.2.1.2;have:=hp.2.2.2;omega⟩
  rw[if_neg c3] at h ⊢
  by_cases c4:x=[109,117,108]
  ·rw[if_pos c4] at h ⊢
   dsimp only at h ⊢;have hp:=Mm ih h;refine⟨by have:=(step (o:=.none) hp.1).1;rw[c4] at this;exact this,by unfold eF;rw[hp.2.1.1,hp.2.2.1];rfl,by unfold eS;have:=hp.2.1.2;have:=hp.2.2.2;omega⟩
  rw[if_neg c4] at h ⊢
  by_cases c5:x=[109,97,120]
  ·rw[if_pos c5] at h ⊢
   dsimp only at h ⊢;have hp:=Mm ih h;refine⟨by have:=(step (o:=.none) hp.1).1;rw[c5] at this;exact this,by unfold eF;rw[hp.2.1.1,hp.2.2.1];rfl,by unfold eS;have:=hp.2.1.2;have:=hp.2.2.2;omega⟩
  rw[if_neg c5] at h ⊢;dsimp only at h ⊢;have h1:=step (o:=.none) (u:=[]) (s':=s1) ⟨h,h,rfl,[],rfl,rfl⟩
  rcases aaO h1.2 with t | t | t | t | t | t
  ·exact absurd t c1
  ·exact absurd t c3
  ·exact absurd t c2
  ·exact absurd t c4
  ·exact absurd t c5
  ·have hi:=R5 t
   refine⟨?_,?_,by unfold eS;omega⟩
   ·unfold ny
    rw[<- hi.1];exact h1.1
   ·unfold eF dI
    rw[decide_eq_true hi.2.1,decide_eq_true hi.2.2];rfl
theorem Mn {fin:Int}{n:Nat}{rec:RS->Tm×RS}(hr:Ml n rec){s:RS}(h:(nY fin rec s).2.e=0):
  iM s (lD (nY fin rec s).1++[[41]]) (nY fin rec s).2/\dJ (nY fin rec s).1=true/\dv (nY fin rec s).1<=n:=by
 unfold nY at h ⊢;dsimp only at h ⊢;have h5:=o8 h;have h4:=hr _ h5.e;exact⟨h4.1.trans h5,h4.2⟩
theorem Mo {fin:Int}{n:Nat}{rec:RS->Tm×RS}(hr:Ml n rec){s:RS}(h:(jZ fin rec s).2.2.e=0):
  iM s (lD (jZ fin rec s).1++([44]::(lD (jZ fin rec s).2.1++[[41]]))) (jZ fin rec s).2.2/\(dJ (jZ fin rec s).1=true/\dv (jZ fin rec s).1<=n)/\dJ (jZ fin rec s).2.1=true/\dv (jZ fin rec s).2.1<=n:=by
 unfold jZ at h ⊢;dsimp only at h ⊢;have h5:=o8 h;have h4:=hr _ h5.e;have h3:=o8 h4.1.e;have h2:=hr _ h3.e;have:=h2.1.trans (h3.trans (h4.1.trans h5));exact⟨by simpa using this,h2.2,h4.2⟩
theorem Sf (fin:Int):∀ n,Ml n (iv fin n)
 | 0,s,h=>by
  exfalso
  by_cases he:s.e=0
  ·have:(iv fin 0 s).2.e=5:=by show(nX fin 5 s).e=5;unfold nX;rw[if_pos he]
   rw[this] at h;exact absurd h ar
  ·rw[Sc fin 0 s he] at h;exact he h
 | n+1,s,h=>by
  have ih:=Sf fin n;have EW:=Se fin n;have he:s.e=0:=by
   refine vU λ he=>?_;rw[Sc fin (n+1) s he] at h;exact he h
  unfold iv at h ⊢;rw[if_neg (by simpa using he)] at h ⊢
  by_cases mh:(dd fin jk s).1=[]
  ·rw[if_pos mh] at h
   have:=(wJ h).2;rw[mh] at this;exact absurd this (by decide +kernel)
  rw[if_neg mh] at h ⊢;have step:∀ {u:List (ai)} {s':RS},iM (dd fin jk s).2 u s'->iM s ((dd fin jk s).1::u) s'/\jk (dd fin jk s).1=true:=λ ha=>by
   have t:=wJ (fin:=fin) (right:=jk) (s:=s) ha.e;exact⟨t.1.trans ha,t.2⟩
  generalize hx:(dd fin jk s).1=x at h mh step ⊢;generalize ng:(dd fin jk s).2=s1 at h step ⊢
  by_cases c0:x=[122,101,114,111]
  ·rw[if_pos c0] at h ⊢
   dsimp only at h ⊢;refine⟨by have:=(step (u:=[]) (s':=s1) ⟨h,h,rfl,[],rfl,rfl⟩).1;rw[c0] at this;exact this,rfl,by unfold dv;omega⟩
  rw[if_neg c0] at h ⊢;have step2:∀ {u:List (ai)} {s':RS},iM (fo fin [40] s1) u s'->iM s (x::[40]::u) s'/\jk x=true:=λ ha=>step ((o8 ha.e).trans ha);generalize iQ:fo fin [40] s1=s2 at h step2 ⊢;unfold va at h ⊢
  by_cases c1:x=[111,110,101]
  ·rw[if_pos c1] at h ⊢
   dsimp only at h ⊢;have h3:=o8 h;have h2:=wJ h3.e;refine⟨by have:=(step2 (h2.1.trans h3)).1;rw[c1] at this;simpa[lD] using this,h2.2,by unfold dv;omega⟩
  rw[if_neg c1] at h ⊢
  by_cases c2:x=[103,105,118,101]
  ·rw[if_pos c2] at h ⊢
   dsimp only at h ⊢;have hp:=Mn ih h;refine⟨by have:=(step2 hp.1).1;rw[c2] at this;exact this,hp.2.1,by unfold dv;have:=hp.2.2;omega⟩
  rw[if_neg c2] at h ⊢
  by_cases c3:x=[97,110,100]
  ·rw[if_pos c3] at h ⊢
   dsimp only at h ⊢;have hp:=Mo ih h;refine⟨by have:=(step2 hp.1).1;rw[c3] at this;exact this,by unfold dJ;rw[hp.2.1.1,hp.2.2.1];rfl,by unfold dv;have:=hp.2.1.2;have:=hp.2.2.2;omega⟩
  rw[if_neg c3] at h ⊢
  by_cases c4:x=[111,114]
  ·rw[if_pos c4] at h ⊢
   dsimp only at h ⊢;have hp:=Mo ih h;have h2:=o8 hp.1.e;have h1:=wJ h2.e;refine⟨by have:=(step2 (h1.1.trans (h2.trans hp.1))).1;rw[c4] at this;simpa[lD] using this,by unfold dJ;rw[hp.2.1.1,hp.2.2.1,h1.2];rfl,by unfold dv;have:=hp.2.1.2;have:=hp.2.2.2;omega⟩
  rw[if_neg c4] at h ⊢
  by_cases c5:x=[115,99,97,108,101]
  ·rw[if_pos c5] at h ⊢
   dsimp only at h ⊢;have hp:=Mn ih h;have h2:=o8 hp.1.e;have h1:=EW _ h2.e;refine⟨by have:=(step2 (h1.1.trans (h2.trans hp.1))).1;rw[c5] at this;simpa[lD] using this,by unfold dJ;rw[hp.2.1,h1.2.1];rfl,by unfold dv;have:=hp.2.2;have:=h1.2.2;omega⟩
  rw[if_neg c5] at h ⊢
  by_cases c6:x=[119,104,101,110]
  ·rw[if_pos c6] at h ⊢
   dsimp only at h ⊢;have hp:=Mn ih h;have h2:=o8 hp.1.e;have h1:=wJ h2.e;have hd:=aaR h1.2;have hi:=R5 hd.1;refine⟨?_,by unfold dJ;rw[hp.2.1,decide_eq_true hd.2.1,decide_eq_true hd.2.2];rfl,by unfold dv;have:=hp.2.2;omega⟩;have:=(step2 (h1.1.trans (h2.trans hp.1))).1;rw[c6] at this;unfold lD;rw[<- hi.1];simpa using this
  rw[if_neg c6] at h ⊢;dsimp only at h ⊢;have hp:=Mo ih h;have h2:=o8 hp.1.e;have h1:=EW _ h2.e;have h0:=step2 (h1.1.trans (h2.trans hp.1));have c7:x=[105,102]:=by
   rcases aaQ h0.2 with t | t | t | t | t | t | t | t
   ·exact absurd t c0
   ·exact absurd t c1
   ·exact absurd t c2
   ·exact absurd t c3
   ·exact absurd t c4
   ·exact absurd t c5
   ·exact absurd t c6
   ·exact t
  refine⟨by have:=h0.1;rw[c7] at this;simpa[lD] using this,by unfold dJ;rw[hp.2.1.1,hp.2.2.1,h1.2.1];rfl,by unfold dv;have:=hp.2.1.2;have:=hp.2.2.2;have:=h1.2.2;omega⟩
theorem Sg (fin:Int):∀ (n:Nat) (o:Ob),eF o=true->eS o<=n->∀ {s s':RS},iM s (ny o) s'->lC fin n s=(o,s')
 | 0,o,hf,hd,s,s',h=>by cases o<;>simp[eF,eS] at hf hd
 | n+1,o,hf,hd,s,s',h=>by
  have ih:=Sg fin n;have he:=h.e;unfold lC;rw[if_neg (by simpa using he)];cases o with
  | none=>cases hf
  | const k=>
   have hv:=L7 hf;have hn:=RX hv.1 hv.2;have hw:jX (Lib.itoa k)=true:=by unfold jX;rw[hn];rfl
   obtain⟨s1,e1,h⟩:=nx (fin:=fin) hw h;have:=h.nil;subst this;have aL:=aaP (x:=Lib.itoa k) (by rw[hn]);rw[e1];dsimp only;rw[if_neg aL.1];unfold wH;rw[if_neg aL.2.1,if_neg aL.2.2.1,if_neg aL.2.2.2.1,if_neg aL.2.2.2.2.1,if_neg aL.2.2.2.2.2,hn]
  | fix x=>
   obtain⟨s1,e1,h⟩:=nx (fin:=fin) (right:=jX) (by decide +kernel) h;obtain⟨s2,e2,h⟩:=iw (fin:=fin) h;obtain⟨s3,e3,h⟩:=nx (fin:=fin) (right:=gY) hf h;obtain⟨s4,e4,h⟩:=iw (fin:=fin) h;have:=h.nil;subst this;rw[e1];dsimp only;rw[if_neg ar];unfold wH;rw[if_pos rfl,e2,e3];dsimp only;rw[e4]
  | neg x=>
   have Mp:eS x<=n:=by unfold eS at hd;omega
   obtain⟨s1,e1,h⟩:=nx (fin:=fin) (right:=jX) (by decide +kernel) h;obtain⟨s2,e2,h⟩:=iw (fin:=fin) h;obtain⟨s3,ha,h⟩:=h.split;obtain⟨s4,e4,h⟩:=iw (fin:=fin) h;have:=h.nil;subst this;rw[e1];dsimp only;rw[if_neg ar];unfold wH;rw[if_neg ar,if_pos rfl,e2,ih x hf Mp ha];dsimp only;rw[e4]
  | add l r=>
   simp only[eF,dp] at hf;have hl:eS l<=n:=by unfold eS at hd;omega
   have hr:eS r<=n:=by unfold eS at hd;omega
   obtain⟨s1,e1,h⟩:=nx (fin:=fin) (right:=jX) (by decide +kernel) h;obtain⟨s2,e2,h⟩:=iw (fin:=fin) h;obtain⟨s3,ha,h⟩:=h.split;obtain⟨s4,e4,h⟩:=iw (fin:=fin) h;obtain⟨s5,hb,h⟩:=h.split;obtain⟨s6,e6,h⟩:=iw (fin:=fin) h;have:=h.nil;subst this;rw[e1];dsimp only;rw[if_neg ar];unfold wH;rw[if_neg ar,if_neg ar,if_pos rfl];unfold jY;rw[e2,ih l hf.1 hl ha];dsimp only;rw[e4,ih r hf.2 hr hb];dsimp only;rw[e6]
  | mul l r=>
   simp only[eF,dp] at hf;have hl:eS l<=n:=by unfold eS at hd;omega
   have hr:eS r<=n:=by unfold eS at hd;omega
   obtain⟨s1,e1,h⟩:=nx (fin:=fin) (right:=jX) (by decide +kernel) h;obtain⟨s2,e2,h⟩:=iw (fin:=fin) h;obtain⟨s3,ha,h⟩:=h.split;obtain⟨s4,e4,h⟩:=iw (fin:=fin) h;obtain⟨s5,hb,h⟩:=h.split;obtain⟨s6,e6,h⟩:=iw (fin:=fin) h;have:=h.nil;subst this;rw[e1];dsimp only;rw[if_neg ar];unfold wH;rw[if_neg ar,if_neg ar,if_neg ar,if_pos rfl];unfold jY;rw[e2,ih l hf.1 hl ha];dsimp only;rw[e4,ih r hf.2 hr hb];dsimp only;rw[e6]
  | max l r=>
   simp only[eF,dp] at hf;have hl:eS l<=n:=by unfold eS at hd;omega
   have hr:eS r<=n:=by unfold eS at hd;omega
   obtain⟨s1,e1,h⟩:=nx (fin:=fin) (right:=jX) (by decide +kernel) h;obtain⟨s2,e2,h⟩:=iw (fin:=fin) h;obtain⟨s3,ha,h⟩:=h.split;obtain⟨s4,e4,h⟩:=iw (fin:=fin) h;obtain⟨s5,hb,h⟩:=h.split;obtain⟨s6,e6,h⟩:=iw (fin:=fin) h;have:=h.nil;subst this;rw[e1];dsimp only;rw[if_neg ar];unfold wH;rw[if_neg ar,if_neg ar,if_neg ar,if_neg ar,if_pos rfl];unfold jY;rw[e2,ih l hf.1 hl ha];dsimp only;rw[e4,ih r hf.2 hr hb];dsimp only;rw[e6]
theorem Mq {fin:Int}{rec:RS->Tm×RS}{t:Tm}{s s1 s2:RS}(h:rec s=(t,s1))(e:fo fin [41] s1=s2):nY fin rec s=(t,s2):=by
 unfold nY;rw[h];dsimp only;rw[e]
theorem Mr {fin:Int}{rec:RS->Tm×RS}{l r:Tm}{s s1 s2 s3 s4:RS}(h:rec s=(l,s1))(e:fo fin [44] s1=s2)(h2:rec s2=(r,s3))(e2:fo fin [41] s3=s4):jZ fin rec s=(l,r,s4):=by
 unfold jZ;rw[h];dsimp only;rw[e,h2];dsimp only;rw[e2]
theorem Sh (fin:Int):∀ (n:Nat) (t:Tm),dJ t=true->dv t<=n->∀ {s s':RS},iM s (lD t) s'->iv fin n s=(t,s')
 | 0,t,hf,hd,s,s',h=>by cases t<;>simp[dJ,dv] at hf hd
 | n+1,t,hf,hd,s,s',h=>by
  have ih:=Sh fin n;have EW:=Sg fin n;have he:=h.e;unfold iv;rw[if_neg (by simpa using he)];cases t with
  | none=>cases hf
  | zero=>
   obtain⟨s1,e1,h⟩:=nx (fin:=fin) (right:=jk) ar h;have:=h.nil;subst this;rw[e1];dsimp only;rw[if_neg ar,if_pos rfl]
  | one x=>
   obtain⟨s1,e1,h⟩:=nx (fin:=fin) (right:=jk) ar h;obtain⟨s2,e2,h⟩:=iw (fin:=fin) h;obtain⟨s3,e3,h⟩:=nx (fin:=fin) (right:=gY) hf h;obtain⟨s4,e4,h⟩:=iw (fin:=fin) h;have:=h.nil;subst this;rw[e1];dsimp only;rw[if_neg ar,if_neg ar,e2];unfold va;rw[if_pos rfl,e3];dsimp only;rw[e4]
  | dy x=>
   have Mp:dv x<=n:=by unfold dv at hd;omega
   obtain⟨s1,e1,h⟩:=nx (fin:=fin) (right:=jk) ar h;obtain⟨s2,e2,h⟩:=iw (fin:=fin) h;obtain⟨s3,ha,h⟩:=h.split;obtain⟨s4,e4,h⟩:=iw (fin:=fin) h;have:=h.nil;subst this;rw[e1];dsimp only;rw[if_neg ar,if_neg ar,e2];unfold va;rw[if_neg ar,if_pos rfl,Mq (ih x hf Mp ha) e4]
  | and l r=>
   simp only[dJ,dp] at hf;have hl:dv l<=n:=by unfold dv at hd;omega
   have hr:dv r<=n:=by unfold dv at hd;omega
   obtain⟨s1,e1,h⟩:=nx (fin:=fin) (right:=jk) ar h;obtain⟨s2,e2,h⟩:=iw (fin:=fin) h;obtain⟨s3,ha,h⟩:=h.split;obtain⟨s4,e4,h⟩:=iw (fin:=fin) h;obtain⟨s5,hb,h⟩:=h.split;obtain⟨s6,e6,h⟩:=iw (fin:=fin) h;have:=h.nil;subst this;rw[e1];dsimp only;rw[if_neg ar,if_neg ar,e2];unfold va;rw[if_neg ar,if_neg ar,if_pos rfl,Mr (ih l hf.1 hl ha) e4 (ih r hf.2 hr hb) e6]
  | or x l r=>
   simp only[dJ,dp] at hf;have hl:dv l<=n:=by unfold dv at hd;omega
   have hr:dv r<=n:=by unfold dv at hd;omega
   obtain⟨s1,e1,h⟩:=nx (fin:=fin) (right:=jk) ar h;obtain⟨s2,e2,h⟩:=iw (fin:=fin) h;obtain⟨s7,e7,h⟩:=nx (fin:=fin) (right:=gY) hf.1 h;obtain⟨s8,e8,h⟩:=iw (fin:=fin) h;obtain⟨s3,ha,h⟩:=h.split;obtain⟨s4,e4,h⟩:=iw (fin:=fin) h;obtain⟨s5,hb,h⟩:=h.split;obtain⟨s6,e6,h⟩:=iw (fin:=fin) h;have:=h.nil;subst this;rw[e1];dsimp only;rw[if_neg ar,if_neg ar,e2];unfold va;rw[if_neg ar,if_neg ar,if_neg ar,if_pos rfl,e7];dsimp only;rw[e8,Mr (ih l hf.2.1 hl ha) e4 (ih r hf.2.2 hr hb) e6]
  | scale o x=>
   simp only[dJ,dp] at hf;have hl:eS o<=n:=by unfold dv at hd;omega
   have hr:dv x<=n:=by unfold dv at hd;omega
   obtain⟨s1,e1,h⟩:=nx (fin:=fin) (right:=jk) ar h;obtain⟨s2,e2,h⟩:=iw (fin:=fin) h;obtain⟨s3,ha,h⟩:=h.split;obtain⟨s4,e4,h⟩:=iw (fin:=fin) h;obtain⟨s5,hb,h⟩:=h.split;obtain⟨s6,e6,h⟩:=iw (fin:=fin) h;have:=h.nil;subst this;rw[e1];dsimp only;rw[if_neg ar,if_neg ar,e2];unfold va;rw[if_neg ar,if_neg ar,if_neg ar,if_neg ar,if_pos rfl,EW o hf.1 hl ha];dsimp only;rw[e4,Mq (ih x hf.2 hr hb) e6]
  | when d x=>
   simp only[dJ,dp,decide_eq_true_eq] at hf;have hr:dv x<=n:=by unfold dv at hd;omega
   have hn:=RX (n:=d) ab ab;have yi:o6 (Lib.itoa d)=true:=by unfold o6;rw[hn];simp[hf.1.1,hf.1.2]
   obtain⟨s1,e1,h⟩:=nx (fin:=fin) (right:=jk) ar h;obtain⟨s2,e2,h⟩:=iw (fin:=fin) h;obtain⟨s3,e3,h⟩:=nx (fin:=fin) (right:=o6) yi h;obtain⟨s4,e4,h⟩:=iw (fin:=fin) h;obtain⟨s5,hb,h⟩:=h.split;obtain⟨s6,e6,h⟩:=iw (fin:=fin) h;have:=h.nil;subst this;rw[e1];dsimp only;rw[if_neg ar,if_neg ar,e2];unfold va;rw[if_neg ar,if_neg ar,if_neg ar,if_neg ar,if_neg ar,if_pos rfl,e3];dsimp only;rw[e4,Mq (ih x hf.2 hr hb) e6,hn]
  | cond o l r=>
   simp only[dJ,dp] at hf;have ho:eS o<=n:=by unfold dv at hd;omega
   have hl:dv l<=n:=by unfold dv at hd;omega
   have hr:dv r<=n:=by unfold dv at hd;omega
   obtain⟨s1,e1,h⟩:=nx (fin:=fin) (right:=jk) ar h;obtain⟨s2,e2,h⟩:=iw (fin:=fin) h;obtain⟨s7,hc,h⟩:=h.split;obtain⟨s8,e8,h⟩:=iw (fin:=fin) h;obtain⟨s3,ha,h⟩:=h.split;obtain⟨s4,e4,h⟩:=iw (fin:=fin) h;obtain⟨s5,hb,h⟩:=h.split;obtain⟨s6,e6,h⟩:=iw (fin:=fin) h;have:=h.nil;subst this;rw[e1];dsimp only;rw[if_neg ar,if_neg ar,e2];unfold va;rw[if_neg ar,if_neg ar,if_neg ar,if_neg ar,if_neg ar,if_neg ar,EW o hf.1 ho hc];dsimp only;rw[e8,Mr (ih l hf.2.1 hl ha) e4 (ih r hf.2.2 hr hb) e6]
theorem tZ (b:UInt8):UInt8.ofNat b.toNat=b:=UInt8.ofNat_toNat
theorem aaS (l:ai)(aL:l≠[])(h:(jT l).1≠65533):enc ((jT l).1:Int)=l.take (jT l).2:=by
 have kH:=Lg l;rw[Li _ kH];cases l with
 | nil=>exact absurd rfl aL
 | cons b0 t=>
  have wL:=b0.toNat_lt;simp only[jT,Utf8.decode,zJ,nn,fS,eP,xP,cY] at h kH ⊢
  by_cases c1:b0.toNat<128
  ·simp only[if_pos c1] at h kH ⊢
   rw[tZ];rfl
  simp only[if_neg c1] at h kH ⊢;cases t with
  | nil=>simp[Utf8.runeError] at h
  | cons b1 t=>
   have aE:=b1.toNat_lt;simp only[Ec,xP,cY] at h kH ⊢
   by_cases c2:(b0.toNat / 32==6&&(decide (1<t.length+1+1)&&b1.toNat / 64==2))=true
   ·simp only[if_pos c2] at h kH ⊢
    simp only[dp,beq_iff_eq,decide_eq_true_eq] at c2
    by_cases c3:b0.toNat % 32 * 64+b1.toNat % 64 >= 128
    ·simp only[if_pos c3] at h kH ⊢
     rw[if_neg ab,if_pos ab];rw[show 192+(b0.toNat % 32 * 64+b1.toNat % 64) / 64=b0.toNat by omega,show 128+(b0.toNat % 32 * 64+b1.toNat % 64) % 64=b1.toNat by omega,tZ,tZ];rfl
    ·simp only[if_neg c3] at h;exact absurd rfl h
   simp only[if_neg c2] at h kH ⊢;cases t with
   | nil=>simp[Utf8.runeError] at h
   | cons b2 t=>
    have ba:=b2.toNat_lt;simp only[Ec,xP,cY] at h kH ⊢
    by_cases c4:(b0.toNat / 16==14&&(decide (1<t.length+1+1+1)&&b1.toNat / 64==2)&&(decide (2<t.length+1+1+1)&&b2.toNat / 64==2))=true
    ·simp only[if_pos c4] at h kH ⊢
     simp only[dp,beq_iff_eq,decide_eq_true_eq] at c4
     by_cases c5:(decide (b0.toNat % 16 * 4096+b1.toNat % 64 * 64+b2.toNat % 64 >= 2048)&&Utf8.valid ((b0.toNat % 16 * 4096+b1.toNat % 64 * 64+b2.toNat % 64:Nat):Int))=true
     ·simp only[if_pos c5] at h kH ⊢
      simp only[dp,decide_eq_true_eq] at c5;rw[if_neg ab,if_neg ab,if_pos ab];rw[show 224+(b0.toNat % 16 * 4096+b1.toNat % 64 * 64+b2.toNat % 64) / 4096=b0.toNat by omega,show 128+(b0.toNat % 16 * 4096+b1.toNat % 64 * 64+b2.toNat % 64) / 64 % 64=b1.toNat by omega,
       show 128+(b0.toNat % 16 * 4096+b1.toNat % 64 * 64+b2.toNat % 64) % 64=b2.toNat by omega,tZ,tZ,tZ];rfl
     ·simp only[if_neg c5] at h;exact absurd rfl h
    simp only[if_neg c4] at h kH ⊢;cases t with
    | nil=>simp[Utf8.runeError] at h
    | cons b3 t=>
     have bJ:=b3.toNat_lt;simp only[xP,cY] at h kH ⊢
     by_cases c6:(b0.toNat / 8==30&&(decide (1<t.length+1+1+1+1)&&b1.toNat / 64==2)&&(decide (2<t.length+1+1+1+1)&&b2.toNat / 64==2)&&(decide (3<t.length+1+1+1+1)&&b3.toNat / 64==2))=true
     ·simp only[if_pos c6] at h kH ⊢
      simp only[dp,beq_iff_eq,decide_eq_true_eq] at c6
      by_cases c7:(decide (b0.toNat % 8 * 262144+b1.toNat % 64 * 4096+b2.toNat % 64 * 64+b3.toNat % 64 >= 65536)&&Utf8.valid ((b0.toNat % 8 * 262144+b1.toNat % 64 * 4096+b2.toNat % 64 * 64+b3.toNat % 64:Nat):Int))=true
      ·simp only[if_pos c7] at h kH ⊢
       simp only[dp,decide_eq_true_eq] at c7;rw[if_neg ab,if_neg ab,if_neg ab];rw[show 240+(b0.toNat % 8 * 262144+b1.toNat % 64 * 4096+b2.toNat % 64 * 64+b3.toNat % 64) / 262144=b0.toNat by omega,show 128+(b0.toNat % 8 * 262144+b1.toNat % 64 * 4096+b2.toNat % 64 * 64+b3.toNat % 64) / 4096 % 64=b1.toNat by omega,
        show 128+(b0.toNat % 8 * 262144+b1.toNat % 64 * 4096+b2.toNat % 64 * 64+b3.toNat % 64) / 64 % 64=b2.toNat by omega,show 128+(b0.toNat % 8 * 262144+b1.toNat % 64 * 4096+b2.toNat % 64 * 64+b3.toNat % 64) % 64=b3.toNat by omega,tZ,tZ,tZ,tZ];rfl
      ·simp only[if_neg c7] at h;exact absurd rfl h
     ·simp only[if_neg c6] at h;exact absurd rfl h
theorem Si:∀ (n:Nat) (l:ai),l.length<=n->(∀ r∈dL l,r≠65533)->gm (dL l)=l
 | 0,l,h,_=>by
  have:l=[]:=tH ab;subst this;rfl
 | n+1,l,h,hr=>by
  by_cases hl:l=[]
  ·subst hl;rfl
  ·rw[Em l hl] at hr ⊢
   have h1:=B5 l;have hd:(l.drop (jT l).2).length=l.length - (jT l).2:=kD;rw[xR,aaS l hl (λ t=>hr _ (List.mem_cons_self ..) ab),Si n _ ab (λ r hm=>hr r (BY _ hm)),Ef]
theorem aaT (l:ai)(h:∀ r∈dL l,r≠65533):gm (dL l)=l:=Si l.length l (eR _) h
theorem Sj {r:Int}(h:isLet r=true):kd r=97:=by unfold kd;rw[if_pos h]
theorem aaU {r:Int}(h:isLet r=true):r≠65533/\r≠32:=by
 refine⟨?_,?_⟩<;>(rintro rfl;exact absurd h ar)
theorem Ms {b:UInt8}(h:b.toNat<128):enc (b.toNat:Int)=[b]:=by
 rw[Li _ (by unfold mJ;omega),if_pos h,tZ]
theorem Sk:∀ (l:ai),(∀ b∈l,b.toNat<128)->gm (l.map λ b=>(b.toNat:Int))=l
 | [],_=>rfl
 | b::l,h=>by rw[gU,xR,Ms (h b bm),Sk l (λ c hc=>h c (by simp[hc]))];rfl
theorem Sm (W:List fJ)(a:Int)(X:List Int):∀ (ls:List Int) (t:ai) (at_:Int),(∀ r∈ls,kd r=97)->gK (W++[(t,a)]) at_ true (ls++X)=gK (W++[(t++gm ls,a)]) (at_+ls.length) true X
 | [],t,at_,_=>by simp[Ze]
 | r::ls,t,at_,h=>by
  have h1:=h r bm;rw[kW]
  conv=>lhs;unfold gK
  rw[h1,if_neg ar,if_pos ⟨rfl,rfl⟩,Mc,Sm W a X ls _ _ (λ x hx=>h x (by simp[hx])),xR,gI]
  congr 1
  simp only[cY];omega
theorem aaV (W:List fJ)(X:List Int)(wd:List Int)(at_:Int)(aL:wd≠[])(h:∀ r∈wd,kd r=97):gK W at_ false (wd++X)=gK (W++[(gm wd,at_+1)]) (at_+wd.length) true X:=by
 cases wd with
 | nil=>exact absurd rfl aL
 | cons r ls=>
  have h1:=h r bm;rw[kW]
  conv=>lhs;unfold gK
  rw[h1,if_neg ar,if_neg bm,if_pos ar,show((97:Int)==97)=true from rfl,Sm W _ X ls _ _ (λ x hx=>h x (by simp[hx])),xR]
  congr 1
  simp only[cY];omega
theorem aaW (W:List fJ)(X:List Int)(c:Int)(at_:Int)(run:Bool)(h:kd c=40):gK W at_ run (c::X)=gK (W++[(enc c,at_+1)]) (at_+1) false X:=by
 conv=>lhs;unfold gK
 rw[h,if_neg ar,if_neg bm,if_pos ar];rfl
def j0 (b:Bool)(bs:ai)(ts:List (ai)):Prop:=
 ∃ R:List Int,(∀ r∈R,mJ r/\r≠32)/\gm R=bs/\∀ (W:List fJ) (at_:Int),∃ (ys:List fJ) (run:Bool),ys.map Prod.fst=ts/\(b=true->run=false)/\∀ X,gK W at_ false (R++X)=gK (W++ys) (at_+R.length) run X
theorem j0.app {b:Bool}{y:ai}{s t:List (ai)}(h:j0 true x s)(k:j0 b y t):j0 b (x++y) (s++t):=by
 obtain⟨R,h1,h2,h3⟩:=h;obtain⟨Q,k1,k2,k3⟩:=k;refine⟨R++Q,λ r hr=>(kE.1 hr).elim (h1 r) (k1 r),by rw[QU,h2,k2],λ W at_=>?_⟩;obtain⟨ys,run,a1,a2,a3⟩:=h3 W at_;obtain⟨zs,aaX,b1,b2,b3⟩:=k3 (W++ys) (at_+R.length);have:=a2 rfl;subst this;refine⟨ys++zs,aaX,by rw[jG,a1,b1],b2,λ X=>?_⟩;rw[gI,a3,b3,gI,bU]
 congr 1
 omega
theorem j0.sign {b:Bool}{s:List (ai)}(h:j0 b x s){c:UInt8}(hc:c=40\/c=41\/c=44):j0 true (x++[c]) (s++[[c]]):=by
 have hk:c.toNat<128/\kd (c.toNat:Int)=40/\c.toNat≠32:=by rcases hc with rfl | rfl | rfl<;>decide
 obtain⟨R,h1,h2,h3⟩:=h;refine⟨R++[(c.toNat:Int)],λ r hr=>?_,by rw[QU,h2,Zd,Ms hk.1],λ W at_=>?_⟩
 ·rcases kE.1 hr with hr | hr
  ·exact h1 r hr
  ·have:=nR.1 hr
   subst this;exact⟨by unfold mJ;omega,by omega⟩
 ·obtain⟨ys,run,a1,a2,a3⟩:=h3 W at_
  refine⟨ys++[([c],at_+R.length+1)],false,by rw[jG,a1];rfl,λ _=>rfl,λ X=>?_⟩;rw[gI,a3,List.singleton_append,aaW _ _ _ _ _ hk.2.1,Ms hk.1,gI,bU]
  congr 1
  simp only[fZ];omega
theorem Sn (wd:List Int)(aL:wd≠[])(h:∀ r∈wd,kd r=97/\mJ r):j0 false (gm wd) [gm wd]:=
 ⟨wd,λ r hr=>⟨(h r hr).2,by rintro rfl;exact absurd (h 32 hr).1 ar⟩,rfl,λ W at_=>⟨[(gm wd,at_+1)],true,rfl,(λ t=>nomatch t),λ X=>aaV W X wd at_ aL λ r hr=>(h r hr).1⟩⟩
theorem qL (wd:ai)(aL:wd≠[])(h:∀ b∈wd,b.toNat<128/\kd (b.toNat:Int)=97):j0 false wd [wd]:=by
 have:=Sn (wd.map λ b=>(b.toNat:Int)) (by simp[aL]) λ r hr=>by
  obtain⟨b,hb,rfl⟩:=kF.1 hr;exact⟨(h b hb).2,by unfold mJ;have:=(h b hb).1;omega⟩
 rwa[Sk wd λ b hb=>(h b hb).1] at this
theorem So:∀ (rs:List Int) (n:Nat),np n rs=true->∀ r∈rs,isLet r=true
 | [],_,_,r,hr=>by cases hr
 | a::rs,n,h,r,hr=>by
  unfold np at h;split at h
  ·cases h
  rename_i ha;split at h
  ·cases h
  split at h
  ·cases h
  rcases tI.1 hr with rfl | hr
  ·simpa using ha
  ·exact So rs (n+1) h r hr
theorem Mt {s:ai}(h:gY s=true):j0 false s [s]:=by
 have hl:=So _ _ h;have aL:dL s≠[]:=λ t=>by
  have:np 0 (dL s)=true:=h;rw[t] at this;exact absurd this ar
 have:=Sn (dL s) aL λ r hr=>⟨Sj (hl r hr),Zc s r hr⟩;rwa[aaT s λ r hr=>(aaU (hl r hr)).1] at this
theorem Sp {c:UInt8}(h:jL c=true):c.toNat<128/\kd (c.toNat:Int)=97:=by
 have:=RV h;refine⟨by omega,Sj ?_⟩;unfold isLet zM;rw[decide_eq_true (show(48:Int)<=(c.toNat:Int) by omega),decide_eq_true (show(c.toNat:Int)<=57 by omega)];simp
theorem Sq (n:Int):j0 false (Lib.itoa n) [Lib.itoa n]:=by
 refine qL _ ?_ ?_
 ·unfold Lib.itoa
  split
  ·simp
  ·exact(Ct _).1
 ·unfold Lib.itoa
  split
  ·intro b hb
   rcases tI.1 hb with rfl | hb
   ·decide
   ·exact Sp ((Ct _).2.1 b hb)
  ·exact λ b hb=>Sp ((Ct _).2.1 b hb)
theorem Im {b:Bool}{wd:ai}{s:List (ai)}(hw:j0 false wd [wd])(h:j0 b x s):j0 true (jK wd [x]) (wd::[40]::(s++[[41]])):=by
 have:=((hw.sign (c:=40) (.inl rfl)).app h).sign (c:=41) (.inr (.inl rfl));unfold jK;rw[Rz];simpa using this
theorem Cv {b d:Bool}{wd y:ai}{s t:List (ai)}(hw:j0 false wd [wd])(h:j0 b x s)(k:j0 d y t):j0 true (jK wd [x,y]) (wd::[40]::(s++([44]::(t++[[41]])))):=by
 have:=((((hw.sign (c:=40) (.inl rfl)).app h).sign (c:=44) (.inr (.inr rfl))).app k).sign (c:=41) (.inr (.inl rfl));unfold jK;rw[RA];simpa using this
theorem Sr {b d f:Bool}{wd y z:ai}{s t u:List (ai)}(hw:j0 false wd [wd])(h:j0 b x s)(k:j0 d y t)(m:j0 f z u):
  j0 true (jK wd [x,y,z]) (wd::[40]::(s++([44]::(t++([44]::(u++[[41]])))))):=by
 have:=((((((hw.sign (c:=40) (.inl rfl)).app h).sign (c:=44) (.inr (.inr rfl))).app k).sign (c:=44) (.inr (.inr rfl))).app m).sign (c:=41) (.inr (.inl rfl));unfold jK;rw[RB];simpa using this
theorem wM:∀ o:Ob,eF o=true->∃ b,j0 b (iU o) (ny o)
 | .none,h=>by cases h
 | .const n,_=>⟨_,Sq n⟩
 | .fix s,h=>⟨_,Im (qL _ ar ar) (Mt h)⟩
 | .neg o,h=>by
  obtain⟨b,hb⟩:=wM o h;exact⟨_,Im (qL _ ar ar) hb⟩
 | .add l r,h=>by
  simp only[eF,dp] at h;obtain⟨b,hb⟩:=wM l h.1;obtain⟨c,hc⟩:=wM r h.2;exact⟨_,Cv (qL _ ar ar) hb hc⟩
 | .mul l r,h=>by
  simp only[eF,dp] at h;obtain⟨b,hb⟩:=wM l h.1;obtain⟨c,hc⟩:=wM r h.2;exact⟨_,Cv (qL _ ar ar) hb hc⟩
 | .max l r,h=>by
  simp only[eF,dp] at h;obtain⟨b,hb⟩:=wM l h.1;obtain⟨c,hc⟩:=wM r h.2;exact⟨_,Cv (qL _ ar ar) hb hc⟩
theorem vc:∀ t:Tm,dJ t=true->∃ b,j0 b (gi t) (lD t)/\(t≠.zero->b=true)
 | .none,h=>by cases h
 | .zero,_=>⟨_,qL _ ar ar,λ t=>absurd rfl t⟩
 | .one s,h=>⟨_,Im (qL _ ar ar) (Mt h),λ _=>rfl⟩
 | .dy t,h=>by
  obtain⟨b,hb,_⟩:=vc t h;exact⟨_,Im (qL _ ar ar) hb,λ _=>rfl⟩
 | .and l r,h=>by
  simp only[dJ,dp] at h;obtain⟨b,hb,_⟩:=vc l h.1;obtain⟨c,hc,_⟩:=vc r h.2;exact⟨_,Cv (qL _ ar ar) hb hc,λ _=>rfl⟩
 | .or s l r,h=>by
  simp only[dJ,dp] at h;obtain⟨b,hb,_⟩:=vc l h.2.1;obtain⟨c,hc,_⟩:=vc r h.2.2;exact⟨_,Sr (qL _ ar ar) (Mt h.1) hb hc,λ _=>rfl⟩
 | .scale o t,h=>by
  simp only[dJ,dp] at h;obtain⟨b,hb⟩:=wM o h.1;obtain⟨c,hc,_⟩:=vc t h.2;exact⟨_,Cv (qL _ ar ar) hb hc,λ _=>rfl⟩
 | .when d t,h=>by
  simp only[dJ,dp] at h;obtain⟨c,hc,_⟩:=vc t h.2;exact⟨_,Cv (qL _ ar ar) (Sq d) hc,λ _=>rfl⟩
 | .cond o l r,h=>by
  simp only[dJ,dp] at h;obtain⟨a,ha⟩:=wM o h.1;obtain⟨b,hb,_⟩:=vc l h.2.1;obtain⟨c,hc,_⟩:=vc r h.2.2;exact⟨_,Sr (qL _ ar ar) ha hb hc,λ _=>rfl⟩
theorem j0.aaY {b:Bool}{ts:List (ai)}(h:j0 b bs ts):∃ ys:List fJ,gK [] 0 false (dL bs)=(ys,0)/\ys.map Prod.fst=ts:=by
 obtain⟨R,h1,h2,h3⟩:=h;obtain⟨ys,run,a1,a2,a3⟩:=h3 [] 0;have hR:dL bs=R:=by rw[<- h2];exact Zi R λ r hr=>(h1 r hr).1
 refine⟨ys,?_,a1⟩;have:=a3 [];rw[dV] at this;rw[hR,this,iR];rfl
theorem aaZ {fin:Int}{s:RS}(h:s.l=[]):yh fin s=s:=by unfold yh;rw[h]
theorem aa0 {fin:Int}{s:RS}(h:(yh fin s).e=0):s.e=0/\s.l=[]/\yh fin s=s:=by
 unfold yh at h ⊢;cases hl:s.l with
 | nil=>rw[hl] at h;exact⟨h,rfl,rfl⟩
 | cons x l=>
  rw[hl] at h;dsimp only at h;unfold nX at h;split at h
  ·exact absurd (show(2:Int)=0 from h) ar
  ·contradiction
theorem aa1 {t:Tm}{ys:List fJ}(hc:mu t=0)(hl:bs.length<=1000)(hs:gK [] 0 false (dL bs)=(ys,0))(ht:ys.map Prod.fst=lD t):qK bs=(t,0,0):=by
 have hf:=L9 hc;have hb:o7 bs=⟨ys,0,0⟩:=by unfold o7;rw[if_neg ab,hs];rfl
 have hr:=Sh (qJ bs) 12 t hf.1 hf.2.2 (s:=⟨ys,0,0⟩) (s':=⟨[],0,0⟩) ⟨rfl,rfl,rfl,ys,by simp,ht⟩;unfold qK sS;rw[hb,hr];dsimp only;rw[aaZ rfl,if_neg bm,if_neg (by simpa using hc)]
theorem aa2 {t:Tm}(h:(bT t).2=0):mu t=0/\(gi t).length<=1000/\bT t=(gi t,0):=by
 unfold bT at h ⊢;split at h
 ·rename_i hc;exact absurd h hc
 rename_i hc;split at h
 ·exact absurd h ar
 rename_i hl;exact⟨by simpa using hc,by omega,by rw[if_neg hc,if_neg hl]⟩
theorem aa3 {t:Tm}(h:(bT t).2=0):qK (bT t).1=(t,0,0):=by
 obtain⟨h1,h2,h3⟩:=aa2 h;obtain⟨b,hb,_⟩:=vc t (L9 h1).1;obtain⟨ys,a1,a2⟩:=hb.aaY;rw[h3];exact aa1 h1 h2 a1 a2
def nz (l:List (ai)):Nat:=l.flatten.length
theorem Mu (a b:List (ai)):nz (a++b)=nz a+nz b:=by unfold nz;rw[List.flatten_append,bU]
theorem aa4 (l:List fJ)(x:ai):nz ((u9 l x).map Prod.fst)=nz (l.map Prod.fst)+x.length:=by
 by_cases h:l=[]
 ·subst h;unfold u9 nz;simp
 ·obtain⟨a,y,rfl⟩:=RH l h
  rw[Mc,jG,jG,Mu,Mu];simp[nz];omega
theorem Io:∀ (R:List Int) (W:List fJ) (at_:Int) (run:Bool),nz ((gK W at_ run R).1.map Prod.fst)<=nz (W.map Prod.fst)+(gm R).length
 | [],W,at_,run=>by show nz (W.map Prod.fst)<=_;omega
 | r::R,W,at_,run=>by
  unfold gK;rw[xR,bU];split
  ·simp[nz]
  split
  ·have:=Io R (u9 W (enc r)) (at_+1) true
   rw[aa4] at this;omega
  split
  ·have:=Io R (W++[(enc r,at_+1)]) (at_+1) (kd r==97)
   rw[jG,Mu] at this;have e:nz ([(enc r,at_+1)].map Prod.fst)=(enc r).length:=by simp[nz]
   omega
  ·have:=Io R W (at_+1) false
   omega
theorem aa5 (h:(o7 bs).e=0):bs.length<=1000/\¬ 0<(gK [] 0 false (dL bs)).2/\o7 bs=⟨(gK [] 0 false (dL bs)).1,0,0⟩:=by
 unfold o7 at h ⊢;split at h
 ·exact absurd (show(5:Int)=0 from h) ar
 split at h
 ·exact absurd (show(2:Int)=0 from h) ar
 rename_i h1 h2;exact⟨by omega,h2,by rw[if_neg h1,if_neg h2]⟩
abbrev bu:=Int×ai×ai×ai×ai×Int×Int×Tm
def bu.e (m:bu):fU:=(m.1,str m.2.1,str m.2.2.1,str m.2.2.2.1,str m.2.2.2.2.1,m.2.2.2.2.2.1,m.2.2.2.2.2.2.1,m.2.2.2.2.2.2.2.v,())
def bu.t (m:bu):Tm:=m.2.2.2.2.2.2.2
def bH:bu:=(0,[],[],[],[],0,0,.none)
def dZ (m:bu):ai×Int:=lA m.e (bT m.t).1 (bT m.t).2
abbrev kK:=ai×Bool
def fP (z:Bool)(n:Nat)(s:kK):ai×kK:=if s.2=true\/s.1.length<n then(if z=true then List.replicate n 0 else[],(s.1,true)) else(s.1.take n,(s.1.drop n,false))
def ix (z:Bool)(size:Nat)(s:kK):ai×kK:=fP z (iq (fP z size s).1) (fP z size s).2
def lE (z:Bool)(s:kK):Int×kK:=((jS (fP z 8 s).1).1,((fP z 8 s).2.1,(fP z 8 s).2.2||(!z&&!(jS (fP z 8 s).1).2)))
def wN (z:Bool)(s:kK):Tm×kK:=((qK (ix z 2 s).1).1,((ix z 2 s).2.1,(ix z 2 s).2.2||(!z&&((qK (ix z 2 s).1).2.2 != 0))))
def jM (z:Bool)(x:kK×bu)(c:UInt8):kK×bu:=
 if c=68 then((lE z x.1).2,(x.2.1,x.2.2.1,x.2.2.2.1,x.2.2.2.2.1,x.2.2.2.2.2.1,(lE z x.1).1,x.2.2.2.2.2.2.2.1,x.2.2.2.2.2.2.2.2))
 else if c=86 then((lE z x.1).2,(x.2.1,x.2.2.1,x.2.2.2.1,x.2.2.2.2.1,x.2.2.2.2.2.1,x.2.2.2.2.2.2.1,(lE z x.1).1,x.2.2.2.2.2.2.2.2))
 else if c=84 then((wN z x.1).2,(x.2.1,x.2.2.1,x.2.2.2.1,x.2.2.2.2.1,x.2.2.2.2.2.1,x.2.2.2.2.2.2.1,x.2.2.2.2.2.2.2.1,(wN z x.1).1))
 else if c=73 then((ix z 1 x.1).2,(x.2.1,(ix z 1 x.1).1,x.2.2.2.1,x.2.2.2.2.1,x.2.2.2.2.2.1,x.2.2.2.2.2.2.1,x.2.2.2.2.2.2.2.1,x.2.2.2.2.2.2.2.2))
 else if c=78 then((ix z 1 x.1).2,(x.2.1,x.2.2.1,(ix z 1 x.1).1,x.2.2.2.2.1,x.2.2.2.2.2.1,x.2.2.2.2.2.2.1,x.2.2.2.2.2.2.2.1,x.2.2.2.2.2.2.2.2))
 else if c=76 then((ix z 1 x.1).2,(x.2.1,x.2.2.1,x.2.2.2.1,(ix z 1 x.1).1,x.2.2.2.2.2.1,x.2.2.2.2.2.2.1,x.2.2.2.2.2.2.2.1,x.2.2.2.2.2.2.2.2))
 else((ix z 1 x.1).2,(x.2.1,x.2.2.1,x.2.2.2.1,x.2.2.2.2.1,(ix z 1 x.1).1,x.2.2.2.2.2.2.1,x.2.2.2.2.2.2.2.1,x.2.2.2.2.2.2.2.2))
def oC (z:Bool)(bs:ai):kK×bu:=
 (gJ (iq (fP z 1 (bs,false)).1:Int)).foldl (jM z) ((fP z 1 (bs,false)).2,((iq (fP z 1 (bs,false)).1:Int),[],[],[],[],0,0,.none))
def EX (z:Bool)(bs:ai):Bool:=!(oC z bs).1.2&&((dZ (oC z bs).2).2==0&&((dZ (oC z bs).2).1==bs&&(!z||(oC z bs).1.1==[])))
def iN (z:Bool)(bs:ai):bu×Int:=if EX z bs=true then((oC z bs).2,0) else(bH,2)
theorem Mv (z:Bool)(a rest:ai):fP z a.length (a++rest,false)=(a,(rest,false)):=by
 unfold fP;rw[if_neg bm];simp
theorem Ip (z:Bool){n:Nat}(a rest:ai)(h:a.length=n):fP z n (a++rest,false)=(a,(rest,false)):=by rw[<- h];exact Mv z a rest
theorem Ss (b:UInt8):iq [b]=b.toNat:=by unfold iq;simp
theorem aa6 (a b:UInt8):iq [a,b]=a.toNat * 256+b.toNat:=by unfold iq;simp
theorem EY (z:Bool)(s rest:ai)(h:s.length<=255):ix z 1 (nr s++rest,false)=(s,(rest,false)):=by
 unfold ix;have h1:fP z 1 (nr s++rest,false)=([UInt8.ofNat (s.length % 256)],(s++rest,false)):=Ip z [UInt8.ofNat (s.length % 256)] (s++rest) rfl;rw[h1];dsimp only;rw[Ss,sG (tK _ ar),oA ab];exact Mv z s rest
theorem Cw (z:Bool)(n:Int)(h0:-9223372036854775808<=n)(h1:n<=9223372036854775807)(rest:ai):lE z (dj n++rest,false)=(n,(rest,false)):=by
 unfold lE;rw[Ip z (dj n) rest (kG n)];dsimp only;rw[HC n h0 h1];simp
theorem yj (t:Tm):(bT t).1.length<=1000:=by
 unfold bT;split
 ·simp
 split
 ·simp
 ·dsimp only;omega
theorem aa7 (z:Bool)(t:Tm)(h:(bT t).2=0)(rest:ai):
  wN z (UInt8.ofNat ((bT t).1.length / 256 % 256)::UInt8.ofNat ((bT t).1.length % 256)::(bT t).1++rest,false)=(t,(rest,false)):=by
 unfold wN;have hl:=yj t;have h1:ix z 2 (UInt8.ofNat ((bT t).1.length / 256 % 256)::UInt8.ofNat ((bT t).1.length % 256)::(bT t).1++rest,false)=((bT t).1,(rest,false)):=by
  unfold ix;have h2:fP z 2 (UInt8.ofNat ((bT t).1.length / 256 % 256)::UInt8.ofNat ((bT t).1.length % 256)::(bT t).1++rest,false)=([UInt8.ofNat ((bT t).1.length / 256 % 256),UInt8.ofNat ((bT t).1.length % 256)],((bT t).1++rest,false)):=
   Ip z [UInt8.ofNat ((bT t).1.length / 256 % 256),UInt8.ofNat ((bT t).1.length % 256)] ((bT t).1++rest) rfl
  rw[h2];dsimp only;rw[aa6,sG (tK _ ar),sG (tK _ ar),show(bT t).1.length / 256 % 256 * 256+(bT t).1.length % 256=(bT t).1.length by omega];exact Mv z _ rest
 rw[h1];dsimp only;rw[aa3 h];simp
theorem Iq {e:fU}{tr:Int}(h:pN e tr=0):iS e.1≠[63]/\qB e=true/\sI e=true/\0<=e.2.2.2.2.2.1/\e.2.2.2.2.2.1<=10000/\dI e.2.2.2.2.2.2.1=true/\(e.1=2->tr=0):=by
 unfold pN at h
 by_cases c0:iS e.1=[63]
 ·rw[if_pos c0] at h;cases h
 rw[if_neg c0] at h
 by_cases c1:qB e=false
 ·rw[if_pos c1] at h;cases h
 rw[if_neg c1] at h
 by_cases c2:sI e=false
 ·rw[if_pos c2] at h;cases h
 rw[if_neg c2] at h
 by_cases c3:e.2.2.2.2.2.1<0
 ·rw[if_pos c3] at h;cases h
 rw[if_neg c3] at h
 by_cases c4:e.2.2.2.2.2.1 > 10000
 ·rw[if_pos c4] at h;cases h
 rw[if_neg c4] at h
 by_cases c5:dI e.2.2.2.2.2.2.1=false
 ·rw[if_pos c5] at h;cases h
 rw[if_neg c5] at h
 by_cases c6:e.1=4/\e.2.2.2.2.2.2.1≠0/\e.2.2.2.2.2.2.1≠1
 ·rw[if_pos c6] at h;cases h
 rw[if_neg c6] at h;refine⟨c0,by simpa using c1,by simpa using c2,by omega,by omega,by simpa using c5,λ k=>?_⟩;rw[if_pos k] at h;exact h
theorem aa8 {k:Int}(h:iS k≠[63]):k=1\/k=2\/k=3\/k=4\/k=5\/k=6:=by
 unfold iS at h
 repeat' split at h
 all_goals first | omega | exact(h rfl).elim
theorem yk (s:ai):lz (str s)=decide (s=[]):=by
 have e0:(⟨#[]⟩:ay)=str []:=rfl;unfold lz;rw[e0,ly]
theorem Ir (s:ai):tN (str s)=np 0 (dL s):=by unfold tN;rw[nn]
theorem EZ {s:ai}(h:np 0 (dL s)=true):s.length<=255:=by
 have hb:=L4 s.length s (eR _)
 rcases L5 _ _ h with t | t
 ·rw[t,kX] at hb;omega
 ·omega
theorem Cx {t:Tm}(h:jJ t.v=true):t=.none:=by cases t<;>first | rfl | (cases h)
theorem aa9 {n:Int}(h:dI n=true):-9223372036854775808<=n/\n<=9223372036854775807:=by
 unfold dI at h;simp only[dp,decide_eq_true_eq] at h;omega
theorem Cy (z:Bool)(k:Nat)(hk:k<256)(rest:ai):oC z (UInt8.ofNat k::rest)=(gJ (k:Int)).foldl (jM z) ((rest,false),((k:Int),[],[],[],[],0,0,.none)):=by
 unfold oC;have h1:fP z 1 (UInt8.ofNat k::rest,false)=([UInt8.ofNat k],(rest,false)):=Ip z [UInt8.ofNat k] rest rfl;rw[h1];dsimp only;rw[Ss,sG hk]
theorem Sw:gJ 2=[73,84]:=ar
theorem Sx:gJ 3=[78,68,86]:=ar
theorem Sz:gJ 4=[73,76,86]:=ar
theorem SA:gJ 5=[68]:=ar
theorem SB:gJ 6=[67,68,86]:=ar
theorem SC {m:bu}(h:dZ m=(bs,0)):pN m.e (bT m.t).2=0/\bs=UInt8.ofNat (m.e.1 % 256).toNat::(gJ m.e.1).flatMap (gX m.e (bT m.t).1):=by
 unfold dZ lA at h;split at h
 ·rename_i c
  injection h with _ h
  exact(c h).elim
 ·rename_i c
  injection h with h _
  exact⟨iG.1 c,h.symm⟩
theorem Cz (a:UInt8)(l r:ai):(a::l)++r=a::(l++r):=rfl
theorem aba (z:Bool)(m:bu){bs:ai}(h:dZ m=(bs,0))(rest:ai):oC z (bs++rest)=((rest,false),m):=by
 obtain⟨hc,rfl⟩:=SC h;obtain⟨hk,ho,hn,d0,d1,hv,ht⟩:=Iq hc;obtain⟨v0,v1⟩:=aa9 hv;obtain⟨k,i,n,l,c,d,v,t⟩:=m;simp only[bu.e] at hk ho hn d0 d1 hv ht v0 v1;simp only[bu.e,bu.t] at ht ⊢
 rcases aa8 hk with rfl | rfl | rfl | rfl | rfl | rfl
 ·simp[qB,dX,iS,yk] at ho
  obtain⟨⟨⟨⟨rfl,rfl⟩,rfl⟩,rfl⟩,⟨rfl,rfl⟩,hz⟩:=ho;obtain rfl:=Cx hz;rw[Cz (UInt8.ofNat ((1:Int) % 256).toNat),show((1:Int) % 256).toNat=1 by decide,Cy z 1 ar];rfl
 ·simp[qB,dX,iS,yk] at ho
  simp[sI,dX,iS,Ir] at hn;obtain⟨⟨⟨rfl,rfl⟩,rfl⟩,rfl,rfl⟩:=ho;rw[Cz (UInt8.ofNat ((2:Int) % 256).toNat),show((2:Int) % 256).toNat=2 by decide,Cy z 2 ar,Sw,show((2:Nat):Int)=2 by rfl,Sw];have aE:gX (2,str i,str [],str [],str [],0,0,t.v,()) (bT t).1 73=nr i:=by
   show nr (str i).data.toList=_;rw[nn]
  have ba:gX (2,str i,str [],str [],str [],0,0,t.v,()) (bT t).1 84=UInt8.ofNat ((bT t).1.length / 256 % 256)::UInt8.ofNat ((bT t).1.length % 256)::(bT t).1:=rfl;rw[ni,ni,zE,aE,ba,dV,gI];rw[lO,lO,List.foldl_nil];have s1:∀ x,jM z x 73=((ix z 1 x.1).2,(x.2.1,(ix z 1 x.1).1,x.2.2.2.1,x.2.2.2.2.1,x.2.2.2.2.2.1,x.2.2.2.2.2.2.1,x.2.2.2.2.2.2.2.1,x.2.2.2.2.2.2.2.2)):=λ x=>rfl;have s2:∀ x,jM z x 84=((wN z x.1).2,(x.2.1,x.2.2.1,x.2.2.2.1,x.2.2.2.2.1,x.2.2.2.2.2.1,x.2.2.2.2.2.2.1,x.2.2.2.2.2.2.2.1,(wN z x.1).1)):=λ x=>rfl;rw[s1,s2];dsimp only;rw[EY z i _ (EZ hn)];dsimp only;rw[aa7 z t (ht rfl)]
 ·simp[qB,dX,iS,yk] at ho
  simp[sI,dX,iS,Ir] at hn;obtain⟨⟨⟨rfl,rfl⟩,rfl⟩,hz⟩:=ho;obtain rfl:=Cx hz;rw[Cz (UInt8.ofNat ((3:Int) % 256).toNat),show((3:Int) % 256).toNat=3 by decide,Cy z 3 ar,Sx,show((3:Nat):Int)=3 by rfl,Sx];have aE:gX (3,str [],str n,str [],str [],d,v,Tm.none.v,()) (bT .none).1 78=nr n:=by
   show nr (str n).data.toList=_;rw[nn]
  have ba:gX (3,str [],str n,str [],str [],d,v,Tm.none.v,()) (bT .none).1 68=dj d:=rfl;have bJ:gX (3,str [],str n,str [],str [],d,v,Tm.none.v,()) (bT .none).1 86=dj v:=rfl;rw[ni,ni,ni,zE,aE,ba,bJ,dV,gI,gI];rw[lO,lO,lO,List.foldl_nil];have s1:∀ x,jM z x 78=((ix z 1 x.1).2,(x.2.1,x.2.2.1,(ix z 1 x.1).1,x.2.2.2.2.1,x.2.2.2.2.2.1,x.2.2.2.2.2.2.1,x.2.2.2.2.2.2.2.1,x.2.2.2.2.2.2.2.2)):=λ x=>rfl;have s2:∀ x,jM z x 68=((lE z x.1).2,(x.2.1,x.2.2.1,x.2.2.2.1,x.2.2.2.2.1,x.2.2.2.2.2.1,(lE z x.1).1,x.2.2.2.2.2.2.2.1,x.2.2.2.2.2.2.2.2)):=λ x=>rfl;have s3:∀ x,jM z x 86=((lE z x.1).2,(x.2.1,x.2.2.1,x.2.2.2.1,x.2.2.2.2.1,x.2.2.2.2.2.1,x.2.2.2.2.2.2.1,(lE z x.1).1,x.2.2.2.2.2.2.2.2)):=λ x=>rfl;rw[s1,s2,s3];dsimp only;rw[EY z n _ (EZ hn)];dsimp only;rw[Cw z d ab ab];dsimp only;rw[Cw z v v0 v1]
 ·simp[qB,dX,iS,yk] at ho
  simp[sI,dX,iS,Ir] at hn;obtain⟨⟨rfl,rfl⟩,rfl,hz⟩:=ho;obtain rfl:=Cx hz;rw[Cz (UInt8.ofNat ((4:Int) % 256).toNat),show((4:Int) % 256).toNat=4 by decide,Cy z 4 ar,Sz,show((4:Nat):Int)=4 by rfl,Sz];have aE:gX (4,str i,str [],str l,str [],0,v,Tm.none.v,()) (bT .none).1 73=nr i:=by
   show nr (str i).data.toList=_;rw[nn]
  have ba:gX (4,str i,str [],str l,str [],0,v,Tm.none.v,()) (bT .none).1 76=nr l:=by
   show nr (str l).data.toList=_;rw[nn]
  have bJ:gX (4,str i,str [],str l,str [],0,v,Tm.none.v,()) (bT .none).1 86=dj v:=rfl;rw[ni,ni,ni,zE,aE,ba,bJ,dV,gI,gI];rw[lO,lO,lO,List.foldl_nil];have s1:∀ x,jM z x 73=((ix z 1 x.1).2,(x.2.1,(ix z 1 x.1).1,x.2.2.2.1,x.2.2.2.2.1,x.2.2.2.2.2.1,x.2.2.2.2.2.2.1,x.2.2.2.2.2.2.2.1,x.2.2.2.2.2.2.2.2)):=λ x=>rfl;have s2:∀ x,jM z x 76=((ix z 1 x.1).2,(x.2.1,x.2.2.1,x.2.2.2.1,(ix z 1 x.1).1,x.2.2.2.2.2.1,x.2.2.2.2.2.2.1,x.2.2.2.2.2.2.2.1,x.2.2.2.2.2.2.2.2)):=λ x=>rfl;have s3:∀ x,jM z x 86=((lE z x.1).2,(x.2.1,x.2.2.1,x.2.2.2.1,x.2.2.2.2.1,x.2.2.2.2.2.1,x.2.2.2.2.2.2.1,(lE z x.1).1,x.2.2.2.2.2.2.2.2)):=λ x=>rfl;rw[s1,s2,s3];dsimp only;rw[EY z i _ (EZ hn.1)];dsimp only;rw[EY z l _ (EZ hn.2)];dsimp only;rw[Cw z v v0 v1]
 ·simp[qB,dX,iS,yk] at ho
  obtain⟨⟨⟨⟨rfl,rfl⟩,rfl⟩,rfl⟩,rfl,hz⟩:=ho;obtain rfl:=Cx hz;rw[Cz (UInt8.ofNat ((5:Int) % 256).toNat),show((5:Int) % 256).toNat=5 by decide,Cy z 5 ar,SA,show((5:Nat):Int)=5 by rfl,SA];have ba:gX (5,str [],str [],str [],str [],d,0,Tm.none.v,()) (bT .none).1 68=dj d:=rfl;rw[ni,zE,ba,dV];rw[lO,List.foldl_nil];have s2:∀ x,jM z x 68=((lE z x.1).2,(x.2.1,x.2.2.1,x.2.2.2.1,x.2.2.2.2.1,x.2.2.2.2.2.1,(lE z x.1).1,x.2.2.2.2.2.2.2.1,x.2.2.2.2.2.2.2.2)):=λ x=>rfl;rw[s2];dsimp only;rw[Cw z d ab ab]
 ·simp[qB,dX,iS,yk] at ho
  simp[sI,dX,iS,Ir] at hn;obtain⟨⟨⟨rfl,rfl⟩,rfl⟩,hz⟩:=ho;obtain rfl:=Cx hz;rw[Cz (UInt8.ofNat ((6:Int) % 256).toNat),show((6:Int) % 256).toNat=6 by decide,Cy z 6 ar,SB,show((6:Nat):Int)=6 by rfl,SB];have aE:gX (6,str [],str [],str [],str c,d,v,Tm.none.v,()) (bT .none).1 67=nr c:=by
   show nr (str c).data.toList=_;rw[nn]
  have ba:gX (6,str [],str [],str [],str c,d,v,Tm.none.v,()) (bT .none).1 68=dj d:=rfl;have bJ:gX (6,str [],str [],str [],str c,d,v,Tm.none.v,()) (bT .none).1 86=dj v:=rfl;rw[ni,ni,ni,zE,aE,ba,bJ,dV,gI,gI];rw[lO,lO,lO,List.foldl_nil];have s1:∀ x,jM z x 67=((ix z 1 x.1).2,(x.2.1,x.2.2.1,x.2.2.2.1,x.2.2.2.2.1,(ix z 1 x.1).1,x.2.2.2.2.2.2.1,x.2.2.2.2.2.2.2.1,x.2.2.2.2.2.2.2.2)):=λ x=>rfl;have s2:∀ x,jM z x 68=((lE z x.1).2,(x.2.1,x.2.2.1,x.2.2.2.1,x.2.2.2.2.1,x.2.2.2.2.2.1,(lE z x.1).1,x.2.2.2.2.2.2.2.1,x.2.2.2.2.2.2.2.2)):=λ x=>rfl;have s3:∀ x,jM z x 86=((lE z x.1).2,(x.2.1,x.2.2.1,x.2.2.2.1,x.2.2.2.2.1,x.2.2.2.2.2.1,x.2.2.2.2.2.2.1,(lE z x.1).1,x.2.2.2.2.2.2.2.2)):=λ x=>rfl;rw[s1,s2,s3];dsimp only;rw[EY z c _ (EZ hn)];dsimp only;rw[Cw z d ab ab];dsimp only;rw[Cw z v v0 v1]
theorem abb (z:Bool)(m:bu){bs:ai}(h:dZ m=(bs,0)):oC z bs=(([],false),m):=by
 have:=aba z m h [];rwa[dV] at this
theorem SD (z:Bool){m:bu}{bs:ai}(h:dZ m=(bs,0)):iN z bs=(m,0):=by
 unfold iN EX;rw[abb z m h];dsimp only;rw[h];simp
structure eH where
 fx:List ((ai×Int)×Int)
 ch:List ((ai×ai)×Int×Int)
def cg {κ ν:Type}[DecidableEq κ](k:κ):List (κ×ν)->Option ν
 | []=>none
 | (a,v)::l=>if a=k then some v else cg k l
def mw {κ ν:Type}[DecidableEq κ](k:κ)(v:ν):List (κ×ν)->List (κ×ν)
 | []=>[(k,v)]
 | (a,u)::l=>if a=k then(a,v)::l else(a,u)::mw k v l
theorem SE {κ ν:Type}[DecidableEq κ](k:κ):∀ (l m:List (κ×ν)),cg k (l++m)=(cg k l).or (cg k m)
 | [],m=>by simp[cg]
 | (a,v)::l,m=>by
  simp only[kW,cg];split
  ·rfl
  ·exact SE k l m
theorem Is {κ ν:Type}[DecidableEq κ](k:κ)(v:ν):∀ (l:List (κ×ν)),cg k l=none->mw k v l=l++[(k,v)]
 | [],_=>rfl
 | (a,u)::l,h=>by
  unfold cg at h;split at h
  ·cases h
  ·rename_i aL
   rw[mw,if_neg aL,Is k v l h];rfl
theorem SF {κ ν:Type}[DecidableEq κ](k k':κ)(v:ν):∀ (l:List (κ×ν)),cg k' (mw k v l)=if k=k' then some v else cg k' l
 | []=>rfl
 | (a,u)::l=>by
  unfold mw
  by_cases h:a=k
  ·subst h
   rw[if_pos rfl];unfold cg;split
   ·rfl
   ·rfl
  ·rw[if_neg h]
   unfold cg
   by_cases h2:a=k'
   ·subst h2
    rw[if_pos rfl,if_neg (λ t=>h t.symm),if_pos rfl]
   ·rw[if_neg h2,if_neg h2,SF k k' v l]
def Ar (a b:Int):Int×Bool:=if(dI a&&dI b)&&dI (a+b) then(a+b,true) else(0,false)
def nZ (a b:Int):Int×Bool:=if(dI a&&dI b)&&dI (a * b) then(a * b,true) else(0,false)
def As (a b:Int):Int×Bool:=(max a b,true)
def sU (r:Int×Bool):Int×Bool×Int:=if r.2=true then(r.1,true,0) else(0,false,6)
def E0 (a b:Int×Bool×Int)(f:Int->Int->Int×Bool):Int×Bool×Int:=
 if a.2.2≠0 then(0,false,a.2.2) else if b.2.2≠0\/a.2.1=false\/b.2.1=false then(0,false,b.2.2) else sU (f a.1 b.1)
def Mw (a:Int×Bool×Int):Int×Bool×Int:=
 if a.2.2≠0\/a.2.1=false then(0,false,a.2.2) else sU (if dI a.1 then(-a.1,true) else(0,false))
def gz (w:eH)(d:Int):Ob->Int×Bool×Int
 | .none=>(0,false,0)
 | .const n=>(n,true,0)
 | .fix s=>match cg (s,d) w.fx with | some v=>(v,true,0) | none=>(0,false,0)
 | .add l r=>E0 (gz w d l) (gz w d r) Ar
 | .mul l r=>E0 (gz w d l) (gz w d r) nZ
 | .max l r=>E0 (gz w d l) (gz w d r) As
 | .neg o=>Mw (gz w d o)
def hU (w:eH)(d:Int)(o:Ob):Int×Bool×Int:=if zY o≠0 then(0,false,2) else gz w d o
def jm (out:List (ai))(s:ai):List (ai):=if s∈out then out else out++[s]
def dm:Ob->List (ai)
 | .none=>[]
 | .const _=>[]
 | .fix s=>[s]
 | .add l r=>(dm r).foldl jm ((dm l).foldl jm [])
 | .mul l r=>(dm r).foldl jm ((dm l).foldl jm [])
 | .max l r=>(dm r).foldl jm ((dm l).foldl jm [])
 | .neg o=>(dm o).foldl jm []
def qM (w:eH)(d:Int)(o:Ob):List (ai):=if zY o≠0 then[] else(dm o).filter λ s=>(cg (s,d) w.fx).isNone
abbrev oD:=Int×ai×Int
abbrev jn:=Bool×ai×ai×Int×Int
abbrev kL:=List oD×List jn
def oE (d:Int)(names:List (ai))(ws:List jn):List jn:=
 names.foldl (λ ws s=>if(false,s,[],d,0)∈ws then ws else ws++[(false,s,[],d,0)]) ws
def dw (id:ai)(w:eH):Tm->Int->Int->kL->kL×Int
 | .none,_,_,x=>(x,0)
 | .zero,_,_,x=>(x,0)
 | .one s,d,k,x=>((x.1++[(d,s,k)],x.2),0)
 | .dy t,d,k,x=>dw id w t d (-k) x
 | .and l r,d,k,x=>if(dw id w l d k x).2≠0 then dw id w l d k x else dw id w r d k (dw id w l d k x).1
 | .when n t,d,k,x=>dw id w t (max d n) k x
 | .scale o t,d,k,x=>
  if(hU w d o).2.2≠0 then(x,(hU w d o).2.2) else if(hU w d o).2.1=false then((x.1,oE d (qM w d o) x.2),0)
  else if(nZ k (hU w d o).1).2=false then(x,6) else if(nZ k (hU w d o).1).1=0 then(x,0) else dw id w t d (nZ k (hU w d o).1).1 x
 | .cond o l r,d,k,x=>
  if(hU w d o).2.2≠0 then(x,(hU w d o).2.2) else if(hU w d o).2.1=false then((x.1,oE d (qM w d o) x.2),0)
  else if 0<(hU w d o).1 then dw id w l d k x else dw id w r d k x
 | .or s l r,d,k,x=>match cg (id,s) w.ch with
  | none=>((x.1,x.2++[(true,[],s,d,if 0<k then 0 else 1)]),0)
  | some (p,since)=>if p=0 then dw id w l (max d since) k x else dw id w r (max d since) k x
def iy (id:ai)(t:Tm)(day:Int)(w:eH):kL×Int:=
 if mu t≠0\/day<0\/10000<day then(([],[]),1) else
 if(dw id w t day 1 ([],[])).2≠0 then(([],[]),(dw id w t day 1 ([],[])).2) else((dw id w t day 1 ([],[])).1,0)
abbrev mP:=ai×Int×Tm
structure fE where
 day:Int
 dT:List mP
 w:eH
 iW:List ((Int×ai)×Int)
variable {l:fE}
def bu.kind (m:bu):Int:=m.1
def bu.id (m:bu):ai:=m.2.1
def bu.name (m:bu):ai:=m.2.2.1
def bu.label (m:bu):ai:=m.2.2.2.1
def bu.cur (m:bu):ai:=m.2.2.2.2.1
def bu.day (m:bu):Int:=m.2.2.2.2.2.1
def bu.val (m:bu):Int:=m.2.2.2.2.2.2.1
def ik (m:bu):Int:=pN m.e (bT m.t).2
def rK (w:eH):List mP->kL->kL×Int
 | [],x=>(x,0)
 | d::l,x=>if(iy d.1 d.2.2 d.2.1 w).2≠0 then(([],[]),(iy d.1 d.2.2 d.2.1 w).2) else rK w l (x.1++(iy d.1 d.2.2 d.2.1 w).1.1,x.2++(iy d.1 d.2.2 d.2.1 w).1.2)
def fE.all (l:fE):kL×Int:=rK l.w l.dT ([],[])
def fE.mQ (l:fE)(d:Int)(c:ai):Int:=(cg (d,c) l.iW).getD 0
def nA (d:Int)(c:ai)(n:Int)(fs:List oD):Int:=fs.foldl (λ n f=>if f.1=d/\f.2.1=c then n+f.2.2 else n) n
def fE.rL (l:fE)(d:Int)(c:ai):Int:=nA d c (-l.mQ d c) l.all.1.1
def yl (d:Int):Bool:=decide (0<=d)&&decide (d<=10000)
def vd (w:eH)(s:ai)(d v:Int):eH×Int:=
 if gY s=false\/yl d=false\/dI v=false then(w,1) else if(cg (s,d) w.fx).isSome then(w,4) else if 32<=w.fx.length then(w,5) else({ w with fx:=mw (s,d) v w.fx },0)
def oF (w:eH)(id label:ai)(side day:Int):eH×Int:=
 if gY id=false\/gY label=false\/(side≠0/\side≠1)\/yl day=false then(w,1) else if(cg (id,label) w.ch).isSome then(w,4) else({ w with ch:=mw (id,label) (side,day) w.ch },0)
def ym (l:fE)(m:bu):fE×Int:=
 if l.dT.any (λ d=>d.1==m.id)=true then(l,4) else if 8<=l.dT.length then(l,5) else
 if(iy m.id m.t l.day l.w).2≠0 then(l,(iy m.id m.t l.day l.w).2) else({ l with dT:=l.dT++[(m.id,l.day,m.t)] },0)
def wO (l:fE)(m:bu):fE×Int:=
 if l.day<m.day then(l,7) else if(vd l.w m.name m.day m.val).2≠0 then(l,(vd l.w m.name m.day m.val).2) else
 if(({ l with w:=(vd l.w m.name m.day m.val).1 }:fE).all).2≠0 then(l,(({ l with w:=(vd l.w m.name m.day m.val).1 }:fE).all).2) else({ l with w:=(vd l.w m.name m.day m.val).1 },0)
def wP (l:fE)(m:bu)(gE:Int):fE×Int:=
 match l.dT.find? (λ d=>d.1==m.id) with
 | none=>(l,3)
 | some d=>match (iy d.1 d.2.2 d.2.1 l.w).1.2.find? (λ x=>x.1&&x.2.2.1==m.label) with
  | none=>(l,3)
  | some x=>if l.day<x.2.2.2.1 then(l,7) else if x.2.2.2.2≠gE then(l,8) else
   if(oF l.w m.id m.label m.val l.day).2≠0 then(l,(oF l.w m.id m.label m.val l.day).2) else
   if(iy d.1 d.2.2 d.2.1 (oF l.w m.id m.label m.val l.day).1).2≠0 then(l,(iy d.1 d.2.2 d.2.1 (oF l.w m.id m.label m.val l.day).1).2) else
   ({ l with w:=(oF l.w m.id m.label m.val l.day).1 },0)
def yn (l:fE)(m:bu):fE×Int:=
 if l.day<m.day then(l,7) else if l.rL m.day m.cur=0 then(l,3) else if l.rL m.day m.cur≠m.val then(l,1) else
 ({ l with iW:=mw (m.day,m.cur) (l.mQ m.day m.cur+l.rL m.day m.cur) l.iW },0)
def jo (l:fE)(m:bu)(gE:Int):fE×Int:=
 if gE≠0/\gE≠1 then(l,1) else if ik m≠0 then(l,ik m) else
 if m.kind=2 then ym l m else if m.kind=3 then wO l m else if m.kind=4 then wP l m gE else if m.kind=6 then yn l m else
 if m.kind=5 then(if m.day<=l.day then(l,7) else({ l with day:=m.day },0)) else(l,0)
def gT (l:fE)(m:bu)(gE:Int):Int:=(jo l m gE).2
def Au:fE:=⟨0,[],⟨[],[]⟩,[]⟩
theorem abc {m:bu}{b:Int}:(jo l m b).2≠0->(jo l m b).1=l:=by
 have ht:(ym l m).2≠0->(ym l m).1=l:=by
  unfold ym
  repeat' split
  all_goals first | (intro _;rfl) | (intro h;exact absurd rfl h)
 have hf:(wO l m).2≠0->(wO l m).1=l:=by
  unfold wO
  repeat' split
  all_goals first | (intro _;rfl) | (intro h;exact absurd rfl h)
 have hc:(wP l m b).2≠0->(wP l m b).1=l:=by
  unfold wP
  repeat' split
  all_goals first | (intro _;rfl) | (intro h;exact absurd rfl h)
 have hs:(yn l m).2≠0->(yn l m).1=l:=by
  unfold yn
  repeat' split
  all_goals first | (intro _;rfl) | (intro h;exact absurd rfl h)
 unfold jo;split
 ·intro _;rfl
 split
 ·intro _;rfl
 split
 ·exact ht
 split
 ·exact hf
 split
 ·exact hc
 split
 ·exact hs
 split
 ·split
  ·intro _;rfl
  ·intro h;exact absurd rfl h
 ·intro _;rfl
def gA (a b:Int):Int:=IntKind.u64.wrap (a+b)
def fW (a b:Int):Int:=IntKind.u64.wrap ((BitVec.ofInt 64 a ^^^ BitVec.ofInt 64 b).toNat:Int)
def iX (x:Int)(k:Nat):Int:=IntKind.u64.wrap ((BitVec.ofInt 64 (IntKind.u64.wrap (x * 2 ^ (min k 64))) ||| BitVec.ofInt 64 (Int.fdiv x (2 ^ (min (64 - k) 64)))).toNat:Int)
abbrev oc:=Int×Int×Int×Int
def Mx (s:oc):oc:=
 let a0:=gA s.1 s.2.1
 let a1:=fW (iX s.2.1 13) a0
 let a0:=iX a0 32
 let a2:=gA s.2.2.1 s.2.2.2
 let a3:=fW (iX s.2.2.2 16) a2
 let a0:=gA a0 a3
 let a3:=fW (iX a3 21) a0
 let a2:=gA a2 a1
 let a1:=fW (iX a1 17) a2
 let a2:=iX a2 32
 (a0,a1,a2,a3)
def ua:Nat->oc->oc
 | 0,s=>s
 | n+1,s=>Mx (ua n s)
def E1 (m:Int)(s:oc):oc:=(fW (ua 2 (s.1,s.2.1,s.2.2.1,fW s.2.2.2 m)).1 m,(ua 2 (s.1,s.2.1,s.2.2.1,fW s.2.2.2 m)).2)
def jz (bs:ai):Nat:=bs.foldr (λ b n=>n * 256+b.toNat) 0
def My (kb:ai):oc:=(fW (jz (kb.take 8):Int) 8317987319222330741,fW (jz (kb.drop 8):Int) 7237128888997146477,fW (jz (kb.take 8):Int) 7816392313619706465,fW (jz (kb.drop 8):Int) 8387220255154660723)
def abd (bs:ai)(j:Nat):Nat:=jz ((bs.drop (8 * j)).take 8)
def It (bs:ai)(s:oc):Nat->oc
 | 0=>s
 | n+1=>E1 (abd bs n:Int) (It bs s n)
def Iu (bs:ai):Nat:=jz (bs.drop (8 * (bs.length / 8)))+bs.length % 256 * 72057594037927936
def SG (s:oc):Int:=fW (fW (fW (ua 4 (s.1,s.2.1,fW s.2.2.1 255,s.2.2.2)).1 (ua 4 (s.1,s.2.1,fW s.2.2.1 255,s.2.2.2)).2.1) (ua 4 (s.1,s.2.1,fW s.2.2.1 255,s.2.2.2)).2.2.1) (ua 4 (s.1,s.2.1,fW s.2.2.1 255,s.2.2.2)).2.2.2
def qN (kb bs:ai):Int:=SG (E1 (Iu bs:Int) (It bs (My kb) (bs.length / 8)))
theorem abe:jz []=0:=rfl
theorem Iv (b:UInt8)(bs:ai):jz (b::bs)=jz bs * 256+b.toNat:=rfl
theorem SH:∀ a b:ai,jz (a++b)=jz a+256 ^ a.length * jz b
 | [],b=>by rw[iR,abe,kX,Nat.pow_zero];omega
 | x::a,b=>by
  rw[kW,Iv,Iv,SH a b,cY,vX,Nat.add_mul,Nat.mul_assoc,Nat.mul_comm (jz b) 256,<- Nat.mul_assoc];omega
theorem Iw:∀ bs:ai,jz bs<256 ^ bs.length
 | []=>by decide
 | b::bs=>by
  have h:=Iw bs;have hb:=b.toNat_lt;rw[Iv,cY,vX];omega
theorem abf (bs:ai)(i:Nat)(h:i<bs.length):jz (bs.take (i+1))=jz (bs.take i)+256 ^ i * (bs.getD i 0).toNat:=by
 rw[oz,cV h,dB,cV h,SH,ga,Nat.min_eq_left ab];simp[jz]
def sV:Nat->Nat->ai
 | 0,_=>[]
 | k+1,m=>UInt8.ofNat (m % 256)::sV k (m / 256)
theorem Mz:∀ k m,(sV k m).length=k
 | 0,_=>rfl
 | k+1,m=>by unfold sV;rw[cY,Mz k]
theorem SI:∀ k m,jz (sV k m)=m % 256 ^ k
 | 0,m=>by rw[Nat.pow_zero,Nat.mod_one];rfl
 | k+1,m=>by
  unfold sV;rw[Iv,SI k,sG (tK _ ar),vX,Nat.mul_comm (256 ^ k) 256,Nat.mod_mul,Nat.mul_comm];omega
theorem SJ:∀ (k m i:Nat),i<k->(sV k m)[i]? = some (UInt8.ofNat (m / 256 ^ i % 256))
 | 0,_,_,h=>by omega
 | k+1,m,0,_=>by unfold sV;simp
 | k+1,m,i+1,h=>by
  unfold sV;rw[List.getElem?_cons_succ,SJ k (m / 256) i ab,Nat.div_div_eq_div_mul,vX,Nat.mul_comm 256]
def jA (n:Int):ai:=sV 8 (n % 18446744073709551616).toNat
theorem sW (n:Int):(jA n).length=8:=Mz _ _
theorem abg (n:Int)(h0:0<=n)(h1:n<18446744073709551616):(jz (jA n):Int)=n:=by
 unfold jA;rw[SI,show 256 ^ 8=18446744073709551616 by decide];omega
theorem abh (a b:Int):0<=fW a b/\fW a b<18446744073709551616:=by
 unfold fW;rw[K8];exact⟨Int.emod_nonneg _ ar,Int.emod_lt_of_pos _ ar⟩
theorem MA (kb bs:ai):0<=qN kb bs/\qN kb bs<18446744073709551616:=abh _ _
namespace Vc
theorem aF.pre {cks:List Ck}{K:Cs cks->Prop}{cs:Array av}{fr:Nat×Nat}{x:Cs cks}(hb:w.heap[b]? = some (.cells cs T fr))(hx:∀ j,j<(Cs.vals cks x).length->cs[j]? = (Cs.vals cks x)[j]?)(h:K x):aF cks ((⟨b,0,none⟩:Addr).add 0) w K:=
 ⟨x,by rw[eN];exact qt hb _ 0 λ j hj=>by rw[eP];exact hx j hj,h⟩
end Vc
theorem MB {v:Sl}(h:bO w v bs):(convert 22 9 (.slice v.1 v.2.1 v.2.2)).run Tryz.prog w=.ok (.string (str bs)) w:=by
 show _=Result.ok (Value.string ⟨bs.toArray⟩) w;rw[run_convert_bytes_string w _ _ 5 v.1 v.2.1 v.2.2 Tryz.underlying22 Tryz.underlying5 Tryz.underlying9];have hl:=h.len;obtain⟨h1,h2,h3⟩:=h;cases hv:v.1 with
 | none=>
  have:bs=[]:=by have:=(h2 hv).2.2;simpa using this
  subst this;rfl
 | some a=>
  have hc:=h3 a hv;have abi:(loadCells a v.2.1).run Tryz.prog w=.ok ((bs.map λ b=>(b.toNat:Int)).map (Value.int .u8)).toArray w:=by
   have:=zl (P:=Tryz.prog) (bs.map bc) hc;rw[eI,<- hl] at this;rw[this]
   congr 1
   rw[List.map_map];rfl
  rw[run_bytesToString w a v.2.1 v.2.2 _ abi,foldl_push_bytes];have e:((bs.map λ b=>(b.toNat:Int)).map λ n=>UInt8.ofNat n.toNat)=bs:=by
   rw[List.map_map]
   conv=>rhs;rw[<- List.map_id bs]
   refine BX λ b _=>?_;simp
  rw[e]
  congr 2
  simp
abbrev SK:=Int×ay×ay×ay×ay×Int×Int×av×Bool×Unit
def od (e:fU)(r:Bool):SK:=(e.1,e.2.1,e.2.2.1,e.2.2.2.1,e.2.2.2.2.1,e.2.2.2.2.2.1,e.2.2.2.2.2.2.1,e.2.2.2.2.2.2.2.1,r,())
def MC (e:fU)(r:Bool):av:=.agg #[aa e.1,.string e.2.1,.string e.2.2.1,.string e.2.2.2.1,.string e.2.2.2.2.1,aa e.2.2.2.2.2.1,aa e.2.2.2.2.2.2.1,e.2.2.2.2.2.2.2.1,.bool r]
def yo (e:fU)(ts:ai)(tr:Int)(r:Bool):ai×Int:=if(lA e ts tr).2≠0 then([],(lA e ts tr).2) else((if r=true then 1 else 0)::(lA e ts tr).1,0)
theorem E3 (e:fU)(hz:tQ e)(ts:ai)(lR:ts.length<=1000000)(tr:Int):(lA e ts tr).1.length<=10000000:=by
 unfold lA;split
 ·simp
 have HK:(gJ e.1).length<=7:=by unfold gJ;exact ez (Ed _ _) ar
 have hbound:∀ l:ai,(l.flatMap (gX e ts)).length<=l.length * 1000010:=by
  intro l
  induction l with
  | nil=>simp
  | cons a l ih=>rw[ni,bU,cY];have:=Lw e hz ts lR a;omega
 have:=hbound (gJ e.1);simp only[cY];omega
theorem SL (e:fU)(r:Bool)(hT:tO e.2.2.2.2.2.2.2.1)(hz:tQ e)(ts:ai)(lR:ts.length<=1000000)(tr:Int)(w:ah)
  (ht:e.1=2->∀ w1,Fr none1 w w1->au 209 #[e.2.2.2.2.2.2.2.1] w1 λ r w'=>r=.tuple #[.string (str ts),aa tr]/\Fr none1 w1 w') :
  au 149 #[MC e r] w λ q w'=>∃ v:Sl,q=.tuple #[.slice v.1 v.2.1 v.2.2,aa (yo e ts tr r).2]/\cT w' v (yo e ts tr r).1/\Fr none1 w w'/\∀ k,aH v k->w.heap.size<=k:=by
 refine c149 (od e r) w _ ?_;unfold C149;refine aC.of λ g w1 hg hb f1 _=>?_;refine aF.pre (x:=e) hb (λ j hj=>?_) ?_
 ·match j,hj with
  | 0,_=>rfl
  | 1,_=>rfl
  | 2,_=>rfl
  | 3,_=>rfl
  | 4,_=>rfl
  | 5,_=>rfl
  | 6,_=>rfl
  | 7,_=>rfl
  | j+8,h=>exact absurd h (by show ¬ j+8<8;omega)
 refine an.of (Lx e hT hz ts lR tr w1 (λ h w' f=>ht h w' (f1.trans f))) ?_;rintro _ w2 ⟨v,rfl,hv,f2,vf⟩;refine⟨(v,(lA e ts tr).2,()),rfl,?_⟩;have f12:=f1.trans f2;have hlen:=E3 e hz ts lR tr;have hsz:=f1.size;unfold yo;dsimp only;refine ae.ne (λ aL=>?_) (λ he=>?_)
 ·simp only[if_pos aL]
  exact⟨(none,0,0),rfl,.inl ⟨rfl,rfl⟩,f12,λ k ⟨a,ha,_⟩=>by cases ha⟩
 simp only[if_neg (show ¬ (lA e ts tr).2≠0 from λ t=>t he)];refine af.aw (f2.ag hb) (x:=r) rfl ?_;have fin:∀ (c:UInt8),aT (Instr.buildSlice 22 1 #[(0,bc c)]) w2 aM (λ(x7:aS×Nat×Nat) w8=>aT (Builtin.append_ #[22,22] 22 #[.slice x7.1 x7.2.1 x7.2.2,.slice v.1 v.2.1 v.2.2]) w8 aM (λ(x9:aS×Nat×Nat) aX=>
   ∃ u:Sl,(Value.tuple #[.slice x9.1 x9.2.1 x9.2.2,aa 0])=.tuple #[.slice u.1 u.2.1 u.2.2,aa 0]/\cT aX u (c::(lA e ts tr).1)/\Fr none1 w aX/\∀ k,aH u k->w.heap.size<=k)):=by
  intro c;obtain⟨x,w3,Ly,hx,nU,f3,xf⟩:=vR (P:=Tryz.prog) (w:=w2) qu [bc c] (by simp[bc,Value.cells]) bm;refine⟨x,w3,Ly,?_⟩;have Eh:cT w3 x [c]:=hx;obtain⟨y,w4,EF,hy,f4,yf⟩:=vS Eh (cT.ag hv f3).rd (by simp only[fZ];omega);have s2:=f12.size;have s3:=f3.size;refine⟨y,w4,EF,y,rfl,hy,(f12.trans f3).comp f4 (λ k hk t=>by have:=xf k t;omega),λ k hk=>?_⟩
  rcases yf k hk with t | t
  ·have:=xf k t;omega
  ·omega
 refine ae.by (λ h=>?_) (λ h=>?_)
 ·rw[if_pos h];exact fin 1
 ·rw[if_neg (by rw[h];decide)];exact fin 0
namespace Vc
open Go.ChangeShapes Go.WideShapes
variable {P:Program}
def IsNest (k:IntKind)(w:ah)(a:aS)(len cap:Nat)(us:List (Sl×List Int)):Prop:=
 (a=none/\len=0/\cap=0/\us=[]) \/
 ∃ x,a=some x/\len<=cap/\cap<=maxLen/\us.length=len/\∀ i u,us[i]? = some u->w.cell? (x.add i)=some (.slice u.1.1 u.1.2.1 u.1.2.2)/\IsInts k w u.1.1 u.1.2.1 u.1.2.2 u.2
theorem SM {α:Type}{Q:Nat->α->Prop}:∀ (n:Nat),(∀ i,i<n->∃ u,Q i u)->∃ us:List α,us.length=n/\∀ i u,us[i]? = some u->Q i u
 | 0,_=>⟨[],rfl,λ i u h=>by simp at h⟩
 | n+1,h=>by
  obtain⟨us,hl,hu⟩:=SM n (λ i hi=>h i ab);obtain⟨u,hq⟩:=h n ab;refine⟨us++[u],by simp[hl],λ i x hx=>?_⟩
  by_cases hi:i<us.length
  ·rw[oV hi] at hx;exact hu i x hx
  ·rw[qw ab] at hx
   have:i=n:=by
    have:=(nj.1 hx).1;simp at this;omega
   subst this;rw[<- hl,Nat.sub_self] at hx;simp at hx;subst hx;exact hq
theorem open_nest {H:Type}{enc:TypeId×av->H}{base:Nat}{held:Bool}{t e ee:TypeId}{k:IntKind}{fuel:Nat}{cs:List av}{x:DataW H×List MemPlace}
  (ht:P.underlying t=some (.slice e)) (he:P.underlying e=some (.slice ee)) (MD:P.underlying ee=some (.int k)) (hc:P.cellsOf e=1) (wK:P.cellsOf ee=1)
  (h:DataW.trod enc P w base (λ _=>true) held fuel t cs=some x):∃ a len cap us,cs=[.slice a len cap]/\IsNest k w a len cap us:=by
 rcases DataW.trod_slice ht h with⟨h0,_⟩ | ⟨a,len,cap,elems,rest,n,_,hcs,_,hb,hl,hm,hlen,Ht,_,_⟩
 ·exact⟨none,0,0,[],h0,.inl ⟨rfl,rfl,rfl,rfl⟩⟩
 obtain⟨us,ul,hu⟩:=SM (α:=Sl×List Int) (Q:=λ i u=>w.cell? (a.add i)=some (.slice u.1.1 u.1.2.1 u.1.2.2)/\IsInts k w u.1.1 u.1.2.1 u.1.2.2 u.2) len λ i hi=>by
  have jF:=Ht i hi;rw[cV ab,hc,jg,Option.bind_eq_some_iff] at jF;obtain⟨mH,SN,hy'⟩:=jF
  rcases open_ints he MD wK hy' with⟨rfl,_⟩ | ⟨y,l,c,zs,rfl,_,Av,hm',ME,_,hcell,hwz⟩
  ·exact⟨((none,0,0),[]),cell_of_cells?_one SN,.inl ⟨rfl,rfl,rfl,rfl⟩⟩
  ·exact⟨((some y,l,c),zs),cell_of_cells?_one SN,.inr ⟨y,rfl,Av,hm',by simpa using ME,hcell,hwz⟩⟩
 exact⟨some a,len,cap,us,hcs,.inr ⟨a,rfl,hl,hm,ul,hu⟩⟩
theorem add_add (a:Addr)(m n:Nat):(a.add m).add n=a.add (m+n):=by
 unfold Addr.add
 by_cases hm:m=0
 ·subst hm;simp
 ·by_cases hn:n=0
  ·subst hn;simp[hm]
  ·simp[hm,hn,Nat.add_assoc]
theorem CA {a:Addr}{m:Nat}:∀ (vs:List av) (i:Nat),ma w a (m+i) vs->ma w (a.add m) i vs
 | [],_,_=>trivial
 | v::vs,i,⟨h1,h2⟩=>⟨by rw[add_add];exact h1,CA vs (i+1) h2⟩
theorem E4 {a:Addr}:∀ (m:Nat) (vs:List av) (i:Nat),ma w a i vs->ma w a (i+m) (vs.drop m)
 | 0,vs,i,h=>h
 | m+1,[],i,_=>trivial
 | m+1,v::vs,i,⟨_,h2⟩=>by
  have:=E4 m vs (i+1) h2;rw[show i+1+m=i+(m+1) by omega] at this;exact this
theorem eW.my {v:Sl}{xs:List av}(h:eW w 1 v xs){lo hi:Int}(h0:0<=lo)(h1:lo<=hi)(h2:hi<=v.2.1)(hc:v.2.1<=v.2.2){K:aS->Nat->Nat->Prop}
  (k:∀ u:Sl,eW w 1 u ((xs.drop lo.toNat).take (hi - lo).toNat)->u.2.1<=u.2.2->u.2.1=(hi - lo).toNat->(∀ k,aH u k->aH v k)->K u.1 u.2.1 u.2.2):gQ v.1 v.2.2 lo hi v.2.2 1 K:=by
 refine⟨h0,h1,by omega,by omega,?_⟩;obtain⟨a,b,c⟩:=h;obtain⟨B,hB⟩:∃ B:aS,(if(v.2.2:Int)=lo then v.1 else v.1.map (·.add (lo.toNat * 1)))=B:=⟨_,rfl⟩;obtain⟨n,hn⟩:∃ n:Nat,(hi - lo).toNat=n:=⟨_,rfl⟩;obtain⟨m,hm⟩:∃ m:Nat,((v.2.2:Int) - lo).toNat=m:=⟨_,rfl⟩;rw[hn] at k;rw[hB,hn,hm];refine k (B,n,m) ⟨?_,λ hN=>?_,λ y hy=>?_⟩ (by dsimp only;omega) rfl ?_
 ·dsimp only
  simp only[ga,kD];omega
 ·dsimp only at hN ⊢
  have hv:v.1=none:=by
   rw[hN] at hB;split at hB
   ·exact hB
   ·cases hv:v.1 with
    | none=>rfl
    | some x=>rw[hv] at hB;cases hB
  obtain⟨e1,e2,e3⟩:=b hv;subst e3;exact⟨by omega,by omega,by simp⟩
 ·dsimp only at hy
  rw[hy] at hB;split at hB
  ·rename_i he
   have:n=0:=ab;rw[this,List.take_zero];exact trivial
  ·cases hv:v.1 with
   | none=>rw[hv] at hB;cases hB
   | some x=>
    rw[hv] at hB;injection hB with hB
    subst hB;rw[jg];refine BQ _ _ _ (CA _ 0 ?_);have:=E4 lo.toNat xs 0 (c x hv);rw[eP] at this;exact this
 ·rintro j ⟨y,hy,hj⟩
  dsimp only at hy;rw[hy] at hB;split at hB
  ·exact⟨y,hB,hj⟩
  ·cases hv:v.1 with
   | none=>rw[hv] at hB;cases hB
   | some x=>
    rw[hv] at hB;injection hB with hB
    refine⟨x,hv,?_⟩;rw[hj,<- hB];unfold Addr.add;split<;>rfl
def qO (w:ah):(Nat->Bool)->ah->Prop:=λ _ w'=>Fr none1 w w'
theorem su.qO {w:World}{body:((Nat->Bool)->World->Prop)->Prop}(h:body (Vc.qO w)):su w body:=⟨Vc.qO w,⟨rfl,rfl,rfl,eR _,λ _ _ _=>rfl⟩,h⟩
theorem iZ.qO {w:World}{i:Nat}{pr:List Nat}{k:Rk}{op:World->(Value->World->Prop)->Prop}{next:k.C->Prop}(x:k.C)
  (h:∀ w1,Fr none1 w w1->op w1 λ v w'=>v=k.val x/\Vc.qO w (λ _=>true) w') (hn:next x):iZ (Vc.qO w) i pr k op next:=
 ⟨x,λ _ w1 _ _ hC=>h w1 hC,hn⟩
end Vc
namespace Vc
variable {P:Program}
theorem SO (off:Nat):∀ (l:List av) (j:Nat) (cur:Array av),off+j+l.length<=cur.size ->
  ((l.zipIdx j).foldl (λ(cs:Array av) (x:av×Nat)=>cs.setIfInBounds (off+x.2) x.1) cur).toList=cur.toList.take (off+j)++l++cur.toList.drop (off+j+l.length)
 | [],j,cur,_=>by simp
 | c::l,j,cur,h=>by
  simp only[cY] at h;rw[List.zipIdx_cons,lO,SO off l (j+1) _ (by simp;omega)];rw[Eb];have bI:off+j<cur.toList.length:=by simp;omega
  rw[show off+(j+1)=off+j+1 by omega,zG (by rw[List.length_set];exact bI),List.take_set_of_le (eR _),List.getElem_set_self,List.drop_set_of_lt ab];simp only[gI,kW,iR,cY]
  congr 4
  omega
theorem SP (s n:Nat):∀ (vs:List (List av)) (k:Nat) (cur:Array av),(∀ l∈vs,l.length=s)->k+vs.length=n->cur.size=n * s ->
  ∃ out,Instr.fill (λ i=>some (i * s,s)) cur ((vs.zipIdx k).map λ(l,i)=>(i,.agg l.toArray))=some out/\out.toList=cur.toList.take (k * s)++vs.flatten
 | [],k,cur,_,hk,hc=>by
  simp only[kX,tJ] at hk;subst hk;exact⟨cur,rfl,by rw[gV (by simp[hc])];simp⟩
 | l::vs,k,cur,hl,hk,hc=>by
  simp only[cY] at hk;have hls:=hl l bm;have hb:k * s+s<=n * s:=by rw[<- Nat.succ_mul];exact Nat.mul_le_mul_right _ ab
  have SQ:(l.toArray.zipIdx.foldl (λ cs (x:av×Nat)=>cs.setIfInBounds (k * s+x.2) x.1) cur).toList=cur.toList.take (k * s)++l++cur.toList.drop (k * s+l.length):=by
   rw[<- Array.foldl_toList,Array.toList_zipIdx];have:=SO (k * s) l 0 cur ab;simpa using this
  have hsz:(l.toArray.zipIdx.foldl (λ cs (x:av×Nat)=>cs.setIfInBounds (k * s+x.2) x.1) cur).size=n * s:=by
   rw[<- vT,SQ];simp only[bU,ga,kD,vT];omega
  obtain⟨out,ho,E5⟩:=SP s n vs (k+1) _ (λ x hx=>hl x (by simp[hx])) ab hsz;refine⟨out,?_,?_⟩
  ·have rJ:(Value.agg l.toArray).cells.size=s:=by show l.toArray.size=s;simp[hls]
   simp only[List.zipIdx_cons,gU,Instr.fill];rw[if_neg (by simp[rJ];omega)];exact ho
  ·have hlen:(cur.toList.take (k * s)++l).length=(k+1) * s:=by
    rw[bU,ga,vT,Nat.succ_mul];omega
   rw[E5,SQ,List.take_left' hlen,vV,gI]
theorem SR {t E s bytes:Nat}{z:av}(he:jR P t E s z bytes)(vs:List (List av))(hl:∀ l∈vs,l.length=s)(hn:vs.length * s<=2 ^ 24):
  ∃ (v:Sl) (w':ah),(Instr.buildSlice t vs.length ((vs.zipIdx.map λ(l,i)=>(i,Value.agg l.toArray)).toArray)).run P w=.ok (.slice v.1 v.2.1 v.2.2) w'/\aV w' E s v vs.flatten/\v.2.1=vs.length/\Fr none1 w w'/\(∀ k,aH v k->w.heap.size<=k):=by
 obtain⟨out,ho,E5⟩:=SP s vs.length vs 0 ((Array.range (vs.length * s)).map (z.cells[· % z.cells.size]!)) hl bm bm;rw[Nat.zero_mul,List.take_zero,iR] at E5;have mq:∀ vs:List (List av),(∀ l∈vs,l.length=s)->vs.flatten.length=vs.length * s:=by
  intro vs
  induction vs with
  | nil=>intro _;simp
  | cons l vs ih=>
   intro h;rw[vV,bU,h l bm,ih (λ x hx=>h x (by simp[hx])),cY,Nat.succ_mul];omega
 obtain⟨v,w',a,b,c⟩:=K5 (w:=w) he vs.length ((vs.zipIdx.map λ(l,i)=>(i,Value.agg l.toArray)).toArray) out hn (by simpa using ho) (by rw[<- vT,E5,mq vs hl]);rw[E5] at b;exact⟨v,w',a,b,c⟩
theorem MF {α:Type}{s:Nat}:∀ (vs:List (List α)) (i:Nat),(∀ l∈vs,l.length=s)->vs.flatten.drop (i * s)=(vs.drop i).flatten
 | vs,0,_=>by simp
 | [],i+1,_=>by simp
 | l::vs,i+1,h=>by
  rw[vV,List.drop_succ_cons,Nat.succ_mul,Nat.add_comm,<- h l bm,<- List.drop_drop,List.drop_left,h l bm,MF vs i λ x hx=>h x (by simp[hx])]
theorem eW.yp {v:Sl}{vs:List (List av)}{s:Nat}(h:eW w s v vs.flatten)(hs:∀ l∈vs,l.length=s){cks:List Ck}{x:Cs cks}{i:Nat}(hx:vs[i]? = some (Cs.vals cks x))(hi:i<v.2.1){K:Cs cks->Prop}(k:K x){p:Addr}(hp:v.1=some p):
  aF cks (p.add (i * s)) w K:=by
 obtain⟨h1,h2,h3⟩:=h;have hc:=E4 (i * s) _ 0 (h3 p hp);rw[eP,MF vs i hs] at hc;refine⟨x,?_,k⟩;have hlen:=hs _ (mI hx);have hd:vs.drop i=Cs.vals cks x::vs.drop (i+1):=by
  obtain⟨bI,he⟩:=nj.1 hx;rw[zD bI,he]
 rw[hd,vV] at hc;have ht:=BQ _ _ s (CA (m:=i * s) _ 0 hc);rw[<- hlen,List.take_left] at ht;rw[hlen] at ht;exact ht
end Vc
inductive Tr where
 | mk (kind:Int) (s:ai) (n:Int) (ks:List Tr)
abbrev TV:=Int×ay×Int×(aS×Nat×Nat)×Unit
def SS (v:TV):List av:=[aa v.1,.string v.2.1,aa v.2.2.1,.slice v.2.2.2.1.1 v.2.2.2.1.2.1 v.2.2.2.1.2.2]
mutual
def mR (w:ah)(S:bz):Tr->TV->Prop
 | .mk k s n ks,v=>v.1=k/\v.2.1=str s/\v.2.2.1=n/\∃ vs:List TV,eW w 4 v.2.2.2.1 (vs.map SS).flatten/\vs.length=v.2.2.2.1.2.1/\(∀ b,aH v.2.2.2.1 b->S b)/\lF w S ks vs
def lF (w:ah)(S:bz):List Tr->List TV->Prop
 | [],vs=>vs=[]
 | t::ts,vs=>∃ v wQ,vs=v::wQ/\mR w S t v/\lF w S ts wQ
end
mutual
theorem mR.ao {T:bz}(f:Fr T w w')(hn:∀ k,S k->¬ T k):∀ (t:Tr) (v:TV),mR w S t v->mR w' S t v
 | .mk k s n ks,v,h=>by
  unfold mR at h ⊢;obtain⟨a,b,c,vs,d,e,g,h⟩:=h;exact⟨a,b,c,vs,d.ao f (λ k hk=>hn k (g k hk)),e,g,lF.ao f hn ks vs h⟩
theorem lF.ao {T:bz}(f:Fr T w w')(hn:∀ k,S k->¬ T k):∀ (ts:List Tr) (vs:List TV),lF w S ts vs->lF w' S ts vs
 | [],vs,h=>by unfold lF at h ⊢;exact h
 | t::ts,vs,h=>by
  unfold lF at h ⊢;obtain⟨v,wQ,rfl,h1,h2⟩:=h;exact⟨v,wQ,rfl,mR.ao f hn t v h1,lF.ao f hn ts wQ h2⟩
end
mutual
theorem mR.mono {T:bz}(E6:∀ k,S k->T k):∀ (t:Tr) (v:TV),mR w S t v->mR w T t v
 | .mk k s n ks,v,h=>by
  unfold mR at h ⊢;obtain⟨a,b,c,vs,d,e,g,h⟩:=h;exact⟨a,b,c,vs,d,e,λ k hk=>E6 k (g k hk),lF.mono E6 ks vs h⟩
theorem lF.mono {T:bz}(E6:∀ k,S k->T k):∀ (ts:List Tr) (vs:List TV),lF w S ts vs->lF w T ts vs
 | [],vs,h=>by unfold lF at h ⊢;exact h
 | t::ts,vs,h=>by
  unfold lF at h ⊢;obtain⟨v,wQ,rfl,h1,h2⟩:=h;exact⟨v,wQ,rfl,mR.mono E6 t v h1,lF.mono E6 ts wQ h2⟩
end
theorem lF.len:∀ {ts:List Tr} {vs:List TV},lF w S ts vs->vs.length=ts.length
 | [],vs,h=>by unfold lF at h;subst h;rfl
 | t::ts,vs,h=>by
  unfold lF at h;obtain⟨v,wQ,rfl,h1,h2⟩:=h;simp[h2.len]
theorem mR.len {k:Int}{s:ai}{n:Int}{ks:List Tr}{v:TV}(h:mR w S (.mk k s n ks) v):v.2.2.2.1.2.1=ks.length:=by
 unfold mR at h;obtain⟨_,_,_,vs,hr,hl,_,lR⟩:=h;rw[<- hl,lR.len]
theorem mR.kind {k:Int}{s:ai}{n:Int}{ks:List Tr}{v:TV}(h:mR w S (.mk k s n ks) v):v.1=k:=by unfold mR at h;exact h.1
def wR:Ob->Tr
 | .none=>.mk 0 [] 0 []
 | .const n=>.mk 11 [] n []
 | .fix s=>.mk 12 s 0 []
 | .add l r=>.mk 13 [] 0 [wR l,wR r]
 | .neg o=>.mk 14 [] 0 [wR o]
 | .mul l r=>.mk 15 [] 0 [wR l,wR r]
 | .max l r=>.mk 16 [] 0 [wR l,wR r]
def ve:Tm->Tr
 | .none=>.mk 0 [] 0 []
 | .zero=>.mk 1 [] 0 []
 | .one s=>.mk 2 s 0 []
 | .dy t=>.mk 3 [] 0 [ve t]
 | .and l r=>.mk 4 [] 0 [ve l,ve r]
 | .or s l r=>.mk 5 s 0 [ve l,ve r]
 | .scale o t=>.mk 6 [] 0 [wR o,ve t]
 | .when d t=>.mk 7 [] d [ve t]
 | .cond o l r=>.mk 8 [] 0 [wR o,ve l,ve r]
def E7:Ob->Prop
 | .none=>True
 | .const _=>True
 | .fix s=>s.length<=1000
 | .add l r | .mul l r | .max l r=>E7 l/\E7 r
 | .neg o=>E7 o
def vg:Tm->Prop
 | .none=>True
 | .zero=>True
 | .one s=>s.length<=1000
 | .dy t=>vg t
 | .and l r=>vg l/\vg r
 | .or s l r=>s.length<=1000/\vg l/\vg r
 | .scale o t=>E7 o/\vg t
 | .when _ t=>vg t
 | .cond o l r=>E7 o/\vg l/\vg r
def C8 (p0:Int)(p1:Int)(w:ah)(K:aP):Prop:=
 ae (decide (p1<1))
 (K (aa 0) w)
 (y9 p1 (ae (decide ((Int.tmod p0 p1)<0))
 (K (aa (IntKind.i64.wrap ((Int.tmod p0 p1)+p1))) w)
 (K (aa (Int.tmod p0 p1)) w)))
def pl8:aN:=.auto
theorem c8 (p0 p1 w K)(h:C8 p0 p1 w K):au 8 #[aa p0,aa p1] w K:=aQ Tryz.func8 (p:=pl8) aA h
def within (v n:Int):Int:=if n<1 then 0 else v % n
theorem abj (v n:Int):0<=within v n:=by unfold within;split;omega;exact Int.emod_nonneg _ ab
theorem abk (v:Int){n:Int}(h:1<=n):within v n<n:=by unfold within;rw[if_neg ab];exact Int.emod_lt_of_pos _ ab
theorem abl (v n:Int)(w:ah)(hn:n<=9223372036854775807):
  au 8 #[aa v,aa n] w λ r w'=>r=aa (within v n)/\w=w':=by
 refine c8 v n w _ ?_;unfold C8 within;refine ae.dec (λ h=>?_) (λ h=>⟨by omega,?_⟩)
 ·rw[if_pos h];exact⟨rfl,rfl⟩
 ·rw[if_neg h]
  have e:v.tmod n=if 0<=v\/n ∣ v then v % n else v % n - n:=by
   rw[Int.tmod_eq_emod];split<;>omega
  have b0:=Int.emod_nonneg v (show n≠0 by omega);have b1:=Int.emod_lt_of_pos v (show 0<n by omega);refine ae.dec (λ h2=>⟨?_,rfl⟩) (λ h2=>⟨?_,rfl⟩)
  ·split at e
   ·omega
   ·rw[wI ab ab];congr 1;omega
  ·split at e
   ·rw[e]
   ·omega
theorem IsInts.ao {k:IntKind}{v:Sl}{zs:List Int}(h:IsInts k w v.1 v.2.1 v.2.2 zs){S:bz}(f:Fr S w w')(hn:∀ b,0<v.2.2->aH v b->¬ S b):IsInts k w' v.1 v.2.1 v.2.2 zs:=by
 rcases h with h | ⟨x,hx,hl,hc,hz,hcell,hw⟩
 ·exact .inl h
 ·exact .inr ⟨x,hx,hl,hc,hz,λ i hi=>f.cell (hcell i hi) (by rw[show(x.add i).block=x.block by unfold Addr.add;split<;>rfl];exact hn _ ab ⟨x,hx,rfl⟩),hw⟩
theorem IsStrs.ao {v:Sl}{zs:List ay}(h:IsStrs w v.1 v.2.1 v.2.2 zs){S:bz}(f:Fr S w w')(hn:∀ b,0<v.2.2->aH v b->¬ S b):IsStrs w' v.1 v.2.1 v.2.2 zs:=by
 rcases h with h | ⟨x,hx,hl,hc,hz,hcell,hw⟩
 ·exact .inl h
 ·exact .inr ⟨x,hx,hl,hc,hz,λ i hi=>f.cell (hcell i hi) (by rw[show(x.add i).block=x.block by unfold Addr.add;split<;>rfl];exact hn _ ab ⟨x,hx,rfl⟩),hw⟩
structure Ix (w:ah)(m b:Nat)(i:Int):Prop where
 out:∃ (sn sw:Sl) (l lb:Int) (ns:List Int) (ws:List ay),w.heap[b]? = some (.cells #[.slice sn.1 sn.2.1 sn.2.2,.slice sw.1 sw.2.1 sw.2.2,aa i,aa l,aa lb] 196 (0,0)) /\
  IsInts .i64 w sn.1 sn.2.1 sn.2.2 ns/\IsStrs w sw.1 sw.2.1 sw.2.2 ws/\(∀ k,0<sn.2.2->aH sn k->k<m/\k≠b)/\(∀ k,0<sw.2.2->aH sw k->k<m/\k≠b)
 lt:b<m
 le:m<=w.heap.size
structure At (w0:ah)(m b:Nat)(i0:Int)(n:Nat)(w:ah)(i:Int):Prop where
 abm:Ix w m b i
 lo:i0<=i
 hi:i<=i0+n
 fr:Fr (only b) w0 w
 le:m<=w0.heap.size
theorem Ix.ao {m:Nat}{i:Int}(h:Ix w m b i){S:bz}(f:Fr S w w')(hn:∀ k,k<m->¬ S k):Ix w' m b i:=by
 obtain⟨⟨sn,sw,l,lb,ns,ws,hb,h1,h2,h3,h4⟩,bI,hle⟩:=h;exact⟨⟨sn,sw,l,lb,ns,ws,f.ao hb (hn _ bI),IsInts.ao h1 f λ k hc hk=>hn k (h3 k hc hk).1,IsStrs.ao h2 f λ k hc hk=>hn k (h4 k hc hk).1,h3,h4⟩,bI,by have:=f.size;omega⟩
theorem At.ao {w0:ah}{m n:Nat}{i0 i:Int}(h:At w0 m b i0 n w i){S:bz}(f:Fr S w w')(hn:∀ k,k<w0.heap.size->¬ S k):At w0 m b i0 n w' i:=
 ⟨h.abm.ao f (λ k hk=>hn k (by have:=h.le;omega)),h.lo,h.hi,h.fr.comp f (λ x hx t=>(hn x hx t).elim),h.le⟩
def since (w w':ah):bz:=λ k=>w.heap.size<=k/\k<w'.heap.size
def TB (w:ah)(g:Nat)(v:TV):Prop:=w.heap[g]? = some (.cells (SS v).toArray 52 (0,0))
theorem TB.ao {v:TV}(h:TB w g v){S:bz}(f:Fr S w w')(hn:¬ S g):TB w' g v:=f.ao h hn
theorem TB.k {v:TV}(h:TB w g v)(x:Int){K:ah->Prop}(k:∀ w',TB w' g (x,v.2)->Fr (only g) w w'->K w'):aK ((⟨g,0,none⟩:Addr).add 0) (aa x) w K:=
 aK.aw h (by show 0+0<4;omega) rfl λ w' hb f _=>k w' hb f
theorem TB.s {v:TV}(h:TB w g v)(x:ay){K:ah->Prop}(k:∀ w',TB w' g (v.1,x,v.2.2)->Fr (only g) w w'->K w'):aK ((⟨g,0,none⟩:Addr).add 1) (.string x) w K:=
 aK.aw h (by show 0+1<4;omega) rfl λ w' hb f _=>k w' hb f
theorem TB.n {v:TV}(h:TB w g v)(x:Int){K:ah->Prop}(k:∀ w',TB w' g (v.1,v.2.1,x,v.2.2.2)->Fr (only g) w w'->K w'):aK ((⟨g,0,none⟩:Addr).add 2) (aa x) w K:=
 aK.aw h (by show 0+2<4;omega) rfl λ w' hb f _=>k w' hb f
theorem TB.u {v:TV}(h:TB w g v)(x:Sl){K:ah->Prop}(k:∀ w',TB w' g (v.1,v.2.1,v.2.2.1,x,())->Fr (only g) w w'->K w'):aK ((⟨g,0,none⟩:Addr).add 3) (.slice x.1 x.2.1 x.2.2) w K:=
 aK.aw h (by show 0+3<4;omega) rfl λ w' hb f _=>k w' hb f
def CB (w w':ah)(ts:List Tr)(vs:List TV):Prop:=lF w' (since w w') ts vs
theorem CB.ao {w1 w2:ah}{t:List Tr}{v:List TV}(h:CB w w1 t v){S:bz}(f:Fr S w1 w2)(hn:∀ k,w.heap.size<=k->k<w1.heap.size->¬ S k):CB w w2 t v:=
 lF.mono (λ k hk=>⟨hk.1,by have:=f.size;have:=hk.2;omega⟩) t v (lF.ao f (λ k hk=>hn k hk.1 hk.2) t v h)
structure Iy (w wB wc:ah)(m b g1 g2:Nat)(i:Int)(n:Nat)(i':Int)(v:TV):Prop where
 at_:At w m b i n wc i'
 t1:TB wc g1 (0,str [],0,(none,0,0),())
 t2:TB wc g2 v
 wg1:w.heap.size<=g1
 SU:w.heap.size<=g2
 ne:g1≠g2
 Bg1:g1<wB.heap.size
 SV:g2<wB.heap.size
 B:wB.heap.size<=wc.heap.size
theorem Iy.set {wB wc wd:ah}{m g2 n:Nat}{i i':Int}{v u:TV}(s:Iy w wB wc m b g1 g2 i n i' v)(f:Fr (only g2) wc wd)(t:TB wd g2 u):Iy w wB wd m b g1 g2 i n i' u:=
 ⟨s.at_.ao f (λ k hk t=>by have:k=g2:=t;have:=s.SU;omega),s.t1.ao f (λ t=>s.ne t),t,s.wg1,s.SU,s.ne,s.Bg1,s.SV,ez s.B f.size⟩
theorem CB.set {wB wc wd:ah}{m g2 n:Nat}{i i':Int}{v:TV}(s:Iy w wB wc m b g1 g2 i n i' v){ts:List Tr}{vs:List TV}(h:CB wB wc ts vs)(f:Fr (only g2) wc wd):CB wB wd ts vs:=
 h.ao f λ k hk _ t=>by have:k=g2:=t;have:=s.SV;omega
namespace Vc
variable {P:Program}
abbrev PlV:=(aS×Nat×Nat)×(aS×Nat×Nat)×Unit
def IsPl (w:ah)(p:PlV):Prop:=(∃ ns,IsInts .i64 w p.1.1 p.1.2.1 p.1.2.2 ns)/\∃ ws,IsStrs w p.2.1.1 p.2.1.2.1 p.2.1.2.2 ws
theorem abn {H:Type}{enc:TypeId×av->H}{base:Nat}{held:Bool}{t e:TypeId}{fuel:Nat}{cs:List av}{x:DataW H×List MemPlace}(ht:P.underlying t=some (.slice e))(he:P.underlying e=some (.int .i64))(hc:P.cellsOf e=1)
  (h:DataW.trod enc P w base (λ _=>true) held fuel t cs=some x):∃ (u:aS×Nat×Nat),cs=[.slice u.1 u.2.1 u.2.2]/\∃ ns,IsInts .i64 w u.1 u.2.1 u.2.2 ns:=by
 rcases Go.ChangeShapes.open_ints ht he hc h with⟨hcs,_⟩ | ⟨a,l,c,zs,hcs,_,hl,hm,hz,_,hcell,hwz⟩
 ·exact⟨(none,0,0),hcs,[],.inl ⟨rfl,rfl,rfl,rfl⟩⟩
 ·exact⟨(some a,l,c),hcs,zs,.inr ⟨a,rfl,hl,hm,by simpa using hz,hcell,hwz⟩⟩
theorem abo {H:Type}{enc:TypeId×av->H}{base:Nat}{held:Bool}{t e:TypeId}{fuel:Nat}{cs:List av}{x:DataW H×List MemPlace}(ht:P.underlying t=some (.slice e))(he:P.underlying e=some .string)(hc:P.cellsOf e=1)
  (h:DataW.trod enc P w base (λ _=>true) held fuel t cs=some x):∃ (u:aS×Nat×Nat),cs=[.slice u.1 u.2.1 u.2.2]/\∃ ws,IsStrs w u.1 u.2.1 u.2.2 ws:=by
 rcases Go.ChangeShapes.open_strings ht he hc h with⟨hcs,_⟩ | ⟨a,l,c,zs,hcs,_,hl,hm,hz,_,hcell,hwz⟩
 ·exact⟨(none,0,0),hcs,[],.inl ⟨rfl,rfl,rfl,rfl⟩⟩
 ·exact⟨(some a,l,c),hcs,zs,.inr ⟨a,rfl,hl,hm,by simpa using hz,hcell,hwz⟩⟩
theorem open_plan {H:Type}{enc:TypeId×av->H}{base:Nat}{held:Bool}{t t0 t1 e0 e1:TypeId}{f0 f1:Field}{fuel:Nat}{cs:List av}{x:DataW H×List MemPlace}
  (ht:P.underlying t=some (.struct #[f0,f1])) (hf0:f0.type=t0) (Ch:f1.type=t1) (MG:f0.offset=0) (MH:f1.offset=1) (hc:P.cellsOf t=2) (CC:P.cellsOf t0=1) (rJ:P.cellsOf t1=1)
  (h0:P.underlying t0=some (.slice e0)) (h1:P.underlying t1=some (.slice e1)) (k0:P.underlying e0=some (.int .i64)) (k1:P.underlying e1=some .string) (d0:P.cellsOf e0=1) (d1:P.cellsOf e1=1)
  (h:DataW.trod enc P w base (λ _=>true) held fuel t cs=some x):∃ p:PlV,cs=[.slice p.1.1 p.1.2.1 p.1.2.2,.slice p.2.1.1 p.2.1.2.1 p.2.1.2.2]/\IsPl w p:=by
 obtain⟨y0,y1,n,_,hlen,g0,g1⟩:=Go.ChangeShapes.trod_struct2 ht h;rw[hf0,MG,CC] at g0;rw[Ch,MH,rJ] at g1;obtain⟨u,hu,hi⟩:=abn h0 k0 d0 g0;obtain⟨v,hv,hs⟩:=abo h1 k1 d1 g1;rw[hc] at hlen
 match cs,hlen with
 | [a,b],_=>
  simp only[List.drop_zero,List.drop_succ_cons,List.take_succ_cons,List.take_zero,List.cons.injEq,and_true] at hu hv;exact⟨(u,v,()),by rw[hu,hv],hi,hs⟩
end Vc
abbrev ub:=Int×ay×ay×ay×ay×Int×Int×Int×ay×Int×(aS×Nat×Nat)×Unit
def CD (e:fU)(v:TV):ub:=(e.1,e.2.1,e.2.2.1,e.2.2.2.1,e.2.2.2.2.1,e.2.2.2.2.2.1,e.2.2.2.2.2.2.1,v.1,v.2.1,v.2.2.1,v.2.2.2.1,())
def Aw (x:ub):List av:=[aa x.1,.string x.2.1,.string x.2.2.1,.string x.2.2.2.1,.string x.2.2.2.2.1,aa x.2.2.2.2.2.1,aa x.2.2.2.2.2.2.1,aa x.2.2.2.2.2.2.2.1,.string x.2.2.2.2.2.2.2.2.1,aa x.2.2.2.2.2.2.2.2.2.1,.slice x.2.2.2.2.2.2.2.2.2.2.1.1 x.2.2.2.2.2.2.2.2.2.2.1.2.1 x.2.2.2.2.2.2.2.2.2.2.1.2.2]
def SW (x:ub):av:=.agg #[aa x.1,.string x.2.1,.string x.2.2.1,.string x.2.2.2.1,.string x.2.2.2.2.1,aa x.2.2.2.2.2.1,aa x.2.2.2.2.2.2.1,aa x.2.2.2.2.2.2.2.1,.string x.2.2.2.2.2.2.2.2.1,aa x.2.2.2.2.2.2.2.2.2.1,.slice x.2.2.2.2.2.2.2.2.2.2.1.1 x.2.2.2.2.2.2.2.2.2.2.1.2.1 x.2.2.2.2.2.2.2.2.2.2.1.2.2]
abbrev EK:List Ck:=[.int .i64,.str,.str,.str,.str,.int .i64,.int .i64,.raw]
abbrev Iz:List Ck:=[.int .i64,.str,.str,.str,.str,.int .i64,.int .i64,.int .i64,.str,.int .i64,.bE]
def kj (e:fU):List av:=[aa e.1,.string e.2.1,.string e.2.2.1,.string e.2.2.2.1,.string e.2.2.2.2.1,aa e.2.2.2.2.2.1,aa e.2.2.2.2.2.2.1,e.2.2.2.2.2.2.2.1]
theorem MI {e:fU}(h:cG e.2.2.2.2.2.2.2.1=true):(kj e).all cG=true:=by
 show(cG (aa _)&&(cG (.string _)&&(cG (.string _)&&(cG (.string _)&&(cG (.string _)&&(cG (aa _)&&(cG (aa _)&&(cG e.2.2.2.2.2.2.2.1&&true))))))))=true;rw[h];rfl
def C283 (p0:Addr)(w:ah)(K:aP):Prop:=
 af .bE (p0.add 0) w (λ(x1:aB)=>ae (decide ((x1.2.1:Int) > 0))
 (af .bE (p0.add 0) w (λ(x2:aB)=>cz x2.1 x2.2.1 0 2 (λ a3=>af (.int .i64) (a3.add 1) w (λ(x4:Int)=>K (aa x4) w))))
 (af (.int .i64) (p0.add 1) w (λ(x5:Int)=>K (aa x5) w)))
def pl283:aN:=.auto
theorem c283 (p0 w K)(h:C283 p0 w K):au 283 #[aI p0] w K:=aQ Tryz.func283 (p:=pl283) aA h
def C266 (p0:Addr)(p1:Int)(w:ah)(K:aP):Prop:=
 af (.int .i64) (p0.add 3) w (λ(x1:Int)=>ae (x1==0)
 (ak 283 #[aI p0] w bN (λ(x2:Int) w3=>aK (p0.add 3) (aa p1) w3 (λ w4=>aK (p0.add 2) (aa x2) w4 (λ w5=>K (.tuple #[]) w5))))
 (K (.tuple #[]) w))
def pl266:aN:=.auto
theorem c266 (p0 p1 w K)(h:C266 p0 p1 w K):au 266 #[aI p0,aa p1] w K:=aQ Tryz.func266 (p:=pl266) aA h
def C258 (p0:Addr)(p1:av)(w:ah)(K:aP):Prop:=
 dc (Bool×Unit) (λ J1=>af (.int .i64) (p0.add 3) w (λ(x4:Int)=>ae (x4==0)
 (af .bE (p0.add 0) w (λ(x5:aB)=>ae ((x5.2.1:Int)==0)
 (J1 (true,()) w)
 (af .bE (p0.add 0) w (λ(x6:aB)=>cz x6.1 x6.2.1 0 2 (λ a7=>af .str (a7.add 0) w (λ(x8:ay)=>nH Tryz.prog p1 [.string x8] bK w (λ(x9:Bool) aX=>J1 ((!x9),()) aX)))))))
 (J1 (false,()) w)))
 (λ _ s2 w3=>ae s2.1
 (ak 266 #[aI p0,aa 2] w3 gR (λ(bQ:Unit) br=>af (.int .i64) (p0.add 3) br (λ(cA:Int)=>ae (cA != 0)
 (K (aj) br)
 (af .bE (p0.add 0) br (λ(cj:aB)=>cz cj.1 cj.2.1 0 2 (λ zT=>af .str (zT.add 0) br (λ(bP:ay)=>af .bE (p0.add 0) br (λ(bZ:aB)=>gQ bZ.1 bZ.2.2 1 bZ.2.1 bZ.2.2 2 (λ wF MJ c20=>aK (p0.add 0) (.slice wF MJ c20) br (λ cr=>K (.string bP) cr))))))))))
 (af (.int .i64) (p0.add 3) w3 (λ(cW:Int)=>ae (cW != 0)
 (K (aj) w3)
 (af .bE (p0.add 0) w3 (λ(eB:aB)=>cz eB.1 eB.2.1 0 2 (λ a24=>af .str (a24.add 0) w3 (λ(cR:ay)=>af .bE (p0.add 0) w3 (λ(eX:aB)=>gQ eX.1 eX.2.2 1 eX.2.1 eX.2.2 2 (λ E8 E9 c29=>aK (p0.add 0) (.slice E8 E9 c29) w3 (λ cN=>K (.string cR) cN))))))))))
def pl258:aN:=(.seq .auto (.seq (.join [(30,.one .bool)] .auto .auto) .auto))
theorem c258 (p0 p1 w K)(h:C258 p0 p1 w K):au 258 #[aI p0,p1] w K:=aQ Tryz.func258 (p:=pl258) aA h
def C260 (p0:Addr)(p1:ay)(w:ah)(K:aP):Prop:=
 aC (.cells #[.string p1] 9) w (λ g1 w2=>ak 258 #[aI p0,.func (.func 278) #[] #[.pointer (some (ad g1))]] w2 eu (λ(x3:ay) w4=>K (.tuple #[]) w4))
def pl260:aN:=.auto
theorem c260 (p0 p1 w K)(h:C260 p0 p1 w K):au 260 #[aI p0,.string p1] w K:=aQ Tryz.func260 (p:=pl260) aA h
def C278 (p0:ay)(c0:Addr)(w:ah)(K:aP):Prop:=
 af .str c0 w (λ(x1:ay)=>K (.bool (p0.toList==x1.toList)) w)
def pl278:aN:=.auto
theorem c278 (p0 c0 w K)(h:C278 p0 c0 w K):au 278 #[.string p0,aI c0] w K:=aQ Tryz.func278 (p:=pl278) aA h
def C261 (p0:Addr)(w:ah)(K:aP):Prop:=
 ak 258 #[aI p0,.func (.func 194) #[] #[]] w eu (λ(x1:ay) w2=>K (.string x1) w2)
def pl261:aN:=.auto
theorem c261 (p0 w K)(h:C261 p0 w K):au 261 #[aI p0] w K:=aQ Tryz.func261 (p:=pl261) aA h
def C257 (p0:Addr)(p1:Int)(w:ah)(K:aP):Prop:=
 ae (decide (p1 >= 12))
 (ak 266 #[aI p0,aa 5] w gR (λ(x1:Unit) w2=>af (.int .i64) (p0.add 3) w2 (λ(x3:Int)=>K (.bool (x3 != 0)) w2)))
 (af (.int .i64) (p0.add 3) w (λ(x4:Int)=>K (.bool (x4 != 0)) w))
def pl257:aN:=.auto
theorem c257 (p0 p1 w K)(h:C257 p0 p1 w K):au 257 #[aI p0,aa p1] w K:=aQ Tryz.func257 (p:=pl257) aA h
def C280 (p0:Addr)(p1:Int)(w:ah)(K:aP):Prop:=
 ak 260 #[aI p0,.string (⟨#[40]⟩:ay)] w gR (λ(x1:Unit) w2=>ak 264 #[aI p0,aa p1] w2 (.v (.one .raw)) (λ(x3:av) w4=>ak 260 #[aI p0,.string (⟨#[44]⟩:ay)] w4 gR (λ(x5:Unit) w6=>ak 264 #[aI p0,aa p1] w6 (.v (.one .raw)) (λ(x7:av) w8=>ak 260 #[aI p0,.string (⟨#[41]⟩:ay)] w8 gR (λ(x9:Unit) aX=>K (.tuple #[x3,x7]) aX)))))
def pl280:aN:=.auto
theorem c280 (p0 p1 w K)(h:C280 p0 p1 w K):au 280 #[aI p0,aa p1] w K:=aQ Tryz.func280 (p:=pl280) aA h
def C264 (p0:Addr)(p1:Int)(w:ah)(K:aP):Prop:=
 ak 257 #[aI p0,aa p1] w bK (λ(x1:Bool) w2=>ae x1
 (K .nilIface w2)
 (ak 258 #[aI p0,.func (.func 279) #[] #[]] w2 eu (λ(x3:ay) w4=>ae (x3.toList==(⟨#[]⟩:ay).toList)
 (K .nilIface w4)
 (ae (x3.toList==(⟨#[102,105,120]⟩:ay).toList)
 (ak 260 #[aI p0,.string (⟨#[40]⟩:ay)] w4 gR (λ(x5:Unit) w6=>ak 261 #[aI p0] w6 eu (λ(x7:ay) w8=>aC (.cells #[aj] 243) w8 (λ g9 aX=>aG (ad g9) [.string x7] aX (λ bt=>ak 260 #[aI p0,.string (⟨#[41]⟩:ay)] bt gR (λ(cn:Unit) bM=>aF [.str] (ad g9) bM (λ(cj:ay×Unit)=>K (.iface 243 (.agg #[.string cj.1])) bM)))))))
 (ae (x3.toList==(⟨#[110,101,103]⟩:ay).toList)
 (ak 260 #[aI p0,.string (⟨#[40]⟩:ay)] w4 gR (λ(cm:Unit) bV=>ak 264 #[aI p0,aa (IntKind.i64.wrap (p1+1))] bV (.v (.one .raw)) (λ(bZ:av) b9=>lu bZ (aC (.cells #[.nilIface] 247) b9 (λ g19 bW=>aG (ad g19) [bZ] bW (λ cr=>ak 260 #[aI p0,.string (⟨#[41]⟩:ay)] cr gR (λ(cW:Unit) dM=>aF [.raw] (ad g19) dM (λ(dr:av×Unit)=>K (.iface 247 (.agg #[dr.1])) dM))))))))
 (ae (x3.toList==(⟨#[97,100,100]⟩:ay).toList)
 (ak 280 #[aI p0,aa (IntKind.i64.wrap (p1+1))] w4 (.bR [.one .raw,.one .raw]) (λ(cR:av×av×Unit) de=>lu cR.1 (lu cR.2.1 (K (.iface 245 (.agg #[cR.1,cR.2.1])) de))))
 (ae (x3.toList==(⟨#[109,117,108]⟩:ay).toList)
 (ak 280 #[aI p0,aa (IntKind.i64.wrap (p1+1))] w4 (.bR [.one .raw,.one .raw]) (λ(eD:av×av×Unit) cS=>lu eD.1 (lu eD.2.1 (K (.iface 248 (.agg #[eD.1,eD.2.1])) cS))))
 (ae (x3.toList==(⟨#[109,97,120]⟩:ay).toList)
 (ak 280 #[aI p0,aa (IntKind.i64.wrap (p1+1))] w4 (.bR [.one .raw,.one .raw]) (λ(eQ:av×av×Unit) cN=>lu eQ.1 (lu eQ.2.1 (K (.iface 249 (.agg #[eQ.1,eQ.2.1])) cN))))
 (ak 281 #[.string x3] w4 (.bR [.one (.int .i64),.one .bool]) (λ(dt:Int×Bool×Unit) dQ=>K (.iface 241 (.agg #[aa dt.1])) dQ))))))))))
def pl264:aN:=.auto
theorem c264 (p0 p1 w K)(h:C264 p0 p1 w K):au 264 #[aI p0,aa p1] w K:=aQ Tryz.func264 (p:=pl264) aA h
def C265 (p0:Addr)(w:ah)(K:aP):Prop:=
 ak 258 #[aI p0,.func (.func 282) #[] #[]] w eu (λ(x1:ay) w2=>ak 281 #[.string x1] w2 (.bR [.one (.int .i64),.one .bool]) (λ(x3:Int×Bool×Unit) w4=>K (aa x3.1) w4))
def pl265:aN:=.auto
theorem c265 (p0 w K)(h:C265 p0 w K):au 265 #[aI p0] w K:=aQ Tryz.func265 (p:=pl265) aA h
def C282 (p0:ay)(w:ah)(K:aP):Prop:=
 ak 281 #[.string p0] w (.bR [.one (.int .i64),.one .bool]) (λ(x1:Int×Bool×Unit) w2=>ae x1.2.1
 (ae (decide (x1.1 >= 0))
 (K (.bool (decide (x1.1<=10000))) w2)
 (K (.bool false) w2))
 (K (.bool false) w2))
def pl282:aN:=.auto
theorem c282 (p0 w K)(h:C282 p0 w K):au 282 #[.string p0] w K:=aQ Tryz.func282 (p:=pl282) aA h
def C263 (p0:Addr)(p1:Int)(w:ah)(K:aP):Prop:=
 ak 240 #[aI p0,aa p1] w (.v (.one .raw)) (λ(x1:av) w2=>ak 260 #[aI p0,.string (⟨#[44]⟩:ay)] w2 gR (λ(x3:Unit) w4=>ak 240 #[aI p0,aa p1] w4 (.v (.one .raw)) (λ(x5:av) w6=>ak 260 #[aI p0,.string (⟨#[41]⟩:ay)] w6 gR (λ(x7:Unit) w8=>K (.tuple #[x1,x5]) w8))))
def pl263:aN:=.auto
theorem c263 (p0 p1 w K)(h:C263 p0 p1 w K):au 263 #[aI p0,aa p1] w K:=aQ Tryz.func263 (p:=pl263) aA h
def C262 (p0:Addr)(p1:Int)(w:ah)(K:aP):Prop:=
 ak 240 #[aI p0,aa p1] w (.v (.one .raw)) (λ(x1:av) w2=>ak 260 #[aI p0,.string (⟨#[41]⟩:ay)] w2 gR (λ(x3:Unit) w4=>K x1 w4))
def pl262:aN:=.auto
theorem c262 (p0 p1 w K)(h:C262 p0 p1 w K):au 262 #[aI p0,aa p1] w K:=aQ Tryz.func262 (p:=pl262) aA h
def C240 (p0:Addr)(p1:Int)(w:ah)(K:aP):Prop:=
 ak 257 #[aI p0,aa p1] w bK (λ(x1:Bool) w2=>ae x1
 (K .nilIface w2)
 (ak 258 #[aI p0,.func (.func 259) #[] #[]] w2 eu (λ(x3:ay) w4=>ae (x3.toList==(⟨#[]⟩:ay).toList)
 (K (.iface 176 (.agg #[])) w4)
 (ae (x3.toList==(⟨#[122,101,114,111]⟩:ay).toList)
 (K (.iface 176 (.agg #[])) w4)
 (ak 260 #[aI p0,.string (⟨#[40]⟩:ay)] w4 gR (λ(x5:Unit) w6=>ae (x3.toList==(⟨#[111,110,101]⟩:ay).toList)
 (ak 261 #[aI p0] w6 eu (λ(x7:ay) w8=>aC (.cells #[aj] 178) w8 (λ g9 aX=>aG (ad g9) [.string x7] aX (λ bt=>ak 260 #[aI p0,.string (⟨#[41]⟩:ay)] bt gR (λ(cn:Unit) bM=>aF [.str] (ad g9) bM (λ(cj:ay×Unit)=>K (.iface 178 (.agg #[.string cj.1])) bM))))))
 (ae (x3.toList==(⟨#[103,105,118,101]⟩:ay).toList)
 (ak 262 #[aI p0,aa (IntKind.i64.wrap (p1+1))] w6 (.v (.one .raw)) (λ(cm:av) bV=>lu cm (K (.iface 180 (.agg #[cm])) bV)))
 (ae (x3.toList==(⟨#[97,110,100]⟩:ay).toList)
 (ak 263 #[aI p0,aa (IntKind.i64.wrap (p1+1))] w6 (.bR [.one .raw,.one .raw]) (λ(bZ:av×av×Unit) b9=>lu bZ.1 (lu bZ.2.1 (K (.iface 182 (.agg #[bZ.1,bZ.2.1])) b9))))
 (ae (x3.toList==(⟨#[111,114]⟩:ay).toList)
 (ak 261 #[aI p0] w6 eu (λ(cJ:ay) bW=>aC (.cells #[aj,.nilIface,.nilIface] 184) bW (λ g21 cH=>aG (ad g21) [.string cJ,.nilIface,.nilIface] cH (λ dM=>ak 260 #[aI p0,.string (⟨#[44]⟩:ay)] dM gR (λ(dr:Unit) eJ=>ak 263 #[aI p0,aa (IntKind.i64.wrap (p1+1))] eJ (.bR [.one .raw,.one .raw]) (λ(eX:av×av×Unit) gD=>lu eX.1 (aG ((ad g21).add 1) [eX.1] gD (λ cS=>lu eX.2.1 (aG ((ad g21).add 2) [eX.2.1] cS (λ gr=>aF [.str,.raw,.raw] (ad g21) gr (λ(gB:ay×av×av×Unit)=>K (.iface 184 (.agg #[.string gB.1,gB.2.1,gB.2.2.1])) gr)))))))))))
 (ae (x3.toList==(⟨#[115,99,97,108,101]⟩:ay).toList)
 (ak 264 #[aI p0,aa (IntKind.i64.wrap (p1+1))] w6 (.v (.one .raw)) (λ(dt:av) dQ=>lu dt (aC (.cells #[.nilIface,.nilIface] 188) dQ (λ MK jc=>aG (ad MK) [dt,.nilIface] jc (λ gh=>ak 260 #[aI p0,.string (⟨#[44]⟩:ay)] gh gR (λ(gW:Unit) fI=>ak 262 #[aI p0,aa (IntKind.i64.wrap (p1+1))] fI (.v (.one .raw)) (λ(gn:av) gq=>lu gn (aG ((ad MK).add 1) [gn] gq (λ fw=>aF [.raw,.raw] (ad MK) fw (λ(gC:av×av×Unit)=>K (.iface 188 (.agg #[gC.1,gC.2.1])) fw))))))))))
 (ae (x3.toList==(⟨#[119,104,101,110]⟩:ay).toList)
 (ak 265 #[aI p0] w6 bN (λ(kY:Int) nv=>aC (.cells #[aa 0,.nilIface] 190) nv (λ Ci jH=>aG (ad Ci) [aa kY,.nilIface] jH (λ kf=>ak 260 #[aI p0,.string (⟨#[44]⟩:ay)] kf gR (λ(fu:Unit) jv=>ak 262 #[aI p0,aa (IntKind.i64.wrap (p1+1))] jv (.v (.one .raw)) (λ(iJ:av) pT=>lu iJ (aG ((ad Ci).add 1) [iJ] pT (λ mO=>aF [.int .i64,.raw] (ad Ci) mO (λ(sO:Int×av×Unit)=>K (.iface 190 (.agg #[aa sO.1,sO.2.1])) mO)))))))))
 (ak 264 #[aI p0,aa (IntKind.i64.wrap (p1+1))] w6 (.v (.one .raw)) (λ(kc:av) kn=>lu kc (aC (.cells #[.nilIface,.nilIface,.nilIface] 192) kn (λ IA wj=>aG (ad IA) [kc,.nilIface,.nilIface] wj (λ rE=>ak 260 #[aI p0,.string (⟨#[44]⟩:ay)] rE gR (λ(rC:Unit) oZ=>ak 263 #[aI p0,aa (IntKind.i64.wrap (p1+1))] oZ (.bR [.one .raw,.one .raw]) (λ(ry:av×av×Unit) zR=>lu ry.1 (aG ((ad IA).add 1) [ry.1] zR (λ lT=>lu ry.2.1 (aG ((ad IA).add 2) [ry.2.1] lT (λ xY=>aF [.raw,.raw,.raw] (ad IA) xY (λ(EI:av×av×av×Unit)=>K (.iface 192 (.agg #[EI.1,EI.2.1,EI.2.2.1])) xY)))))))))))))))))))))))
def pl240:aN:=.auto
theorem c240 (p0 p1 w K)(h:C240 p0 p1 w K):au 240 #[aI p0,aa p1] w K:=aQ Tryz.func240 (p:=pl240) aA h
def C241 (p0:Addr)(w:ah)(K:aP):Prop:=
 af .bE (p0.add 0) w (λ(x1:aB)=>ae (decide ((x1.2.1:Int) > 0))
 (ak 266 #[aI p0,aa 2] w gR (λ(x2:Unit) w3=>K (.tuple #[]) w3))
 (K (.tuple #[]) w))
def pl241:aN:=.auto
theorem c241 (p0 w K)(h:C241 p0 w K):au 241 #[aI p0] w K:=aQ Tryz.func241 (p:=pl241) aA h
def C279 (p0:ay)(w:ah)(K:aP):Prop:=
 ak 281 #[.string p0] w (.bR [.one (.int .i64),.one .bool]) (λ(x1:Int×Bool×Unit) w2=>ae x1.2.1
 (K (.bool true) w2)
 (ae (p0.toList==(⟨#[102,105,120]⟩:ay).toList)
 (K (.bool true) w2)
 (ae (p0.toList==(⟨#[97,100,100]⟩:ay).toList)
 (K (.bool true) w2)
 (ae (p0.toList==(⟨#[110,101,103]⟩:ay).toList)
 (K (.bool true) w2)
 (ae (p0.toList==(⟨#[109,117,108]⟩:ay).toList)
 (K (.bool true) w2)
 (K (.bool (p0.toList==(⟨#[109,97,120]⟩:ay).toList)) w2))))))
def pl279:aN:=.auto
theorem c279 (p0 w K)(h:C279 p0 w K):au 279 #[.string p0] w K:=aQ Tryz.func279 (p:=pl279) aA h
def C259 (p0:ay)(w:ah)(K:aP):Prop:=
 ae (p0.toList==(⟨#[122,101,114,111]⟩:ay).toList)
 (ae (p0.toList==(⟨#[122,101,114,111]⟩:ay).toList)
 (K (.bool true) w)
 (K (.bool false) w))
 (ae (p0.toList==(⟨#[111,110,101]⟩:ay).toList)
 (ae (p0.toList==(⟨#[111,110,101]⟩:ay).toList)
 (K (.bool true) w)
 (K (.bool false) w))
 (ae (p0.toList==(⟨#[103,105,118,101]⟩:ay).toList)
 (ae (p0.toList==(⟨#[103,105,118,101]⟩:ay).toList)
 (K (.bool true) w)
 (K (.bool false) w))
 (ae (p0.toList==(⟨#[97,110,100]⟩:ay).toList)
 (ae (p0.toList==(⟨#[97,110,100]⟩:ay).toList)
 (K (.bool true) w)
 (K (.bool false) w))
 (ae (p0.toList==(⟨#[111,114]⟩:ay).toList)
 (ae (p0.toList==(⟨#[111,114]⟩:ay).toList)
 (K (.bool true) w)
 (K (.bool false) w))
 (ae (p0.toList==(⟨#[115,99,97,108,101]⟩:ay).toList)
 (ae (p0.toList==(⟨#[115,99,97,108,101]⟩:ay).toList)
 (K (.bool true) w)
 (K (.bool false) w))
 (ae (p0.toList==(⟨#[119,104,101,110]⟩:ay).toList)
 (ae (p0.toList==(⟨#[119,104,101,110]⟩:ay).toList)
 (K (.bool true) w)
 (K (.bool false) w))
 (ae (p0.toList==(⟨#[105,102]⟩:ay).toList)
 (K (.bool true) w)
 (K (.bool false) w))))))))
def pl259:aN:=.auto
theorem c259 (p0 w K)(h:C259 p0 w K):au 259 #[.string p0] w K:=aQ Tryz.func259 (p:=pl259) aA h
def C239 (p0:ay)(w:ah)(K:aP):Prop:=
 ak 255 #[.string p0] w bN (λ(x1:Int) w2=>aC (.cells #[.slice none 0 0,aa (IntKind.i64.wrap (x1+1)),aa 0,aa 0] 382) w2 (λ g3 w4=>ae (decide ((p0.size:Int) > 1000))
 (aK ((ad g3).add 3) (aa 5) w4 (λ w5=>K (.pointer (some (ad g3))) w5))
 (ak 256 #[.string p0] w4 pI (λ(x6:aB×Int×Unit) w7=>ae (decide (x6.2.1 > 0))
 (aK ((ad g3).add 3) (aa 2) w7 (λ w8=>aK ((ad g3).add 2) (aa x6.2.1) w8 (λ w9=>aK ((ad g3).add 0) (.slice x6.1.1 x6.1.2.1 x6.1.2.2) w9 (λ aX=>K (.pointer (some (ad g3))) aX))))
 (aK ((ad g3).add 0) (.slice x6.1.1 x6.1.2.1 x6.1.2.2) w7 (λ bt=>K (.pointer (some (ad g3))) bt))))))
def pl239:aN:=.auto
theorem c239 (p0 w K)(h:C239 p0 w K):au 239 #[.string p0] w K:=aQ Tryz.func239 (p:=pl239) aA h
def C212 (p0:ay)(w:ah)(K:aP):Prop:=
 ak 239 #[.string p0] w gH (λ(x1:aS) w2=>ak 240 #[.pointer x1,aa 0] w2 (.v (.one .raw)) (λ(x3:av) w4=>ak 241 #[.pointer x1] w4 gR (λ(x5:Unit) w6=>ie x1 (λ a7=>af (.int .i64) (a7.add 3) w6 (λ(x8:Int)=>ae (x8==0)
 (ak 126 #[x3] w6 bN (λ(x9:Int) aX=>ie x1 (λ ML=>aK (ML.add 3) (aa x9) aX (λ br=>ie x1 (λ MM=>af (.int .i64) (MM.add 3) br (λ(cj:Int)=>ae (cj != 0)
 (aU br (λ cB=>ie x1 (λ zL=>af (.int .i64) (zL.add 2) cB (λ(bZ:Int)=>ie x1 (λ wF=>af (.int .i64) (wF.add 3) cB (λ(cJ:Int)=>K (.tuple #[.nilIface,aa bZ,aa cJ]) cB))))))
 (K (.tuple #[x3,aa 0,aa 0]) br)))))))
 (ie x1 (λ a20=>af (.int .i64) (a20.add 3) w6 (λ(du:Int)=>ae (du != 0)
 (aU w6 (λ cH=>ie x1 (λ a23=>af (.int .i64) (a23.add 2) cH (λ(dr:Int)=>ie x1 (λ a25=>af (.int .i64) (a25.add 3) cH (λ(eX:Int)=>K (.tuple #[.nilIface,aa dr,aa eX]) cH))))))
 (K (.tuple #[x3,aa 0,aa 0]) w6)))))))))
def pl212:aN:=(.seq .auto (.seq .auto (.seq .auto (.seq .auto (.seq .auto (.seq (.seq .auto (.cond (.seq .still .auto) .auto)) .auto))))))
theorem c212 (p0 w K)(h:C212 p0 w K):au 212 #[.string p0] w K:=aQ Tryz.func212 (p:=pl212) aA h
theorem IB:∀ (R:List Int) (acc:List fJ) (at_:Int) (run:Bool),(gK acc at_ run R).1.length<=acc.length+1+R.length
 | [],acc,at_,run=>by show acc.length<=_;simp only[kX];omega
 | r::R,acc,at_,run=>by
  have h1:=IB R (u9 acc (enc r)) (at_+1) true;have h2:=IB R (acc++[(enc r,at_+1)]) (at_+1) (kd r==97);have h3:=IB R acc (at_+1) false;have e1:(u9 acc (enc r)).length<=acc.length+1:=by unfold u9;simp
  simp only[bU,cY,kX] at h2 ⊢;unfold gK;split
  ·simp
  split
  ·omega
  split
  ·omega
  ·omega
theorem MN (o:Ob):cv o<=(ny o).length:=by
 induction o<;>simp_all [cv,ny]<;>omega
theorem abp (t:Tm):bj t<=(lD t).length:=by
 induction t<;>simp_all [bj,lD]<;>(try have:=MN)<;>first | omega | (rename_i o _ _;have:=MN o;omega) | (rename_i o _ _ _ _;have:=MN o;omega)
theorem abq {x:fJ}{l:List fJ}(h:x∈l):x.1.length<=nz (l.map Prod.fst):=by
 induction l with
 | nil=>cases h
 | cons y l ih=>
  have e:nz ((y::l).map Prod.fst)=y.1.length+nz (l.map Prod.fst):=by simp[nz]
  rw[e]
  rcases tI.1 h with rfl | h
  ·omega
  ·have:=ih h;omega
theorem abr (h:bs.length<=1000):∀ x∈(gK [] 0 false (dL bs)).1,x.1.length<=10000:=λ x hx=>by
 have h1:=abq hx;have h2:=Io (dL bs) [] 0 false;have h3:=Zj (dL bs);have h4:=Lh bs;have h5:nz ((([]:List fJ)).map Prod.fst)=0:=rfl;omega
theorem abt (R:List Int):reads R<=R.length:=by unfold reads;exact(List.takeWhile_sublist _).length_le
theorem SX (s:ay):∀ (fuel pos:Nat),s.size - pos<=fuel->Lib.runeCountFrom s fuel pos=(dL (s.data.toList.drop pos)).length
 | 0,pos,h=>by
  have:s.data.toList.drop pos=[]:=List.drop_eq_nil_of_le (by rw[El];omega);rw[this];rfl
 | f+1,pos,h=>by
  unfold Lib.runeCountFrom
  by_cases hp:pos<s.size
  ·rw[if_pos hp]
   have aL:s.data.toList.drop pos≠[]:=λ t=>by
    have:=congrArg List.length t;rw[kD,El,kX] at this;omega
   have hw:=B5 (s.data.toList.drop pos);rw[Em _ aL,Lf,SX s f _ ab,cY,List.drop_drop];omega
  ·rw[if_neg hp]
   have:s.data.toList.drop pos=[]:=List.drop_eq_nil_of_le (by rw[El];omega);rw[this];rfl
namespace Vc
theorem aG.one {i:Nat}{v:av}{K:ah->Prop}{cs:Array av}(hb:w.heap[b]? = some (.cells cs T (0,0)))(hi:i<cs.size)(h1:cG v=true)
  (h:∀ w1,w1.heap[b]? = some (.cells (cs.setIfInBounds i v) T (0,0))->Fr (only b) w w1->w1.heap.size=w.heap.size->K w1):aG ((⟨b,0,none⟩:Addr).add i) [v] w K:=by
 have e:((⟨b,0,none⟩:Addr).add i).add 0=⟨b,i,none⟩:=by rw[eN,eN,eP,tJ]
 refine⟨⟨h1,by rw[e,rr hb];simp[hi],by rw[e];exact D5 hb,trivial⟩,?_⟩;show K (w.setCell (((⟨b,0,none⟩:Addr).add i).add 0) v);rw[e];exact h _ (heap_setCell_same hb) (D4 _ _ _ _) (by simp[World.setCell])
end Vc
theorem abu (x y:ai):((str x).toList==(str y).toList)=(x==y):=by
 rw[ly]
 by_cases h:x=y<;>simp[h]
theorem ae.str {y z:ai}{A B:Prop}(h:y=z->A)(k:y≠z->B):ae ((str y).toList==(str z).toList) A B:=by
 rw[ly];exact ae.dec h k
def abv (sl:Sl)(fin a e:Int):Obj:=.cells #[.slice sl.1 sl.2.1 sl.2.2,aa fin,aa a,aa e] 382 (0,0)
def fQ (w:ah)(m b:Nat)(fin:Int)(s:RS):Prop:=∃ sl:Sl,w.heap[b]? = some (abv sl fin s.at_ s.e)/\qH w sl s.l/\(¬ aH sl b/\b<m/\m<=w.heap.size/\∀ k,aH sl k->k<m)/\∀ x∈s.l,x.1.length<=10000
theorem fQ.lt {m:Nat}{fin:Int}{s:RS}(h:fQ w m b fin s):b<m/\m<=w.heap.size:=by
 obtain⟨sl,hb,_,⟨_,h1,h2,_⟩,_⟩:=h;exact⟨h1,h2⟩
theorem fQ.ao {m:Nat}{fin:Int}{s:RS}(h:fQ w m b fin s){S:bz}(f:Fr S w w')(hn:∀ k,k<m->¬ S k):fQ w' m b fin s:=by
 obtain⟨sl,hb,hs,⟨h1,h2,h3,h4⟩,h5⟩:=h;exact⟨sl,f.ao hb (hn b h2),hs.ao f (λ k hk=>hn k (h4 k hk)),⟨h1,h2,ez h3 f.size,h4⟩,h5⟩
theorem fQ.ag {m:Nat}{fin:Int}{s:RS}(h:fQ w m b fin s)(f:Fr none1 w w'):fQ w' m b fin s:=h.ao f (λ _ _ t=>t)
theorem abw {v:Sl}{x:fJ}{l:List fJ}(h:qH w v (x::l)){K:aS->Nat->Nat->Prop}(k:∀ u:Sl,qH w u l->(∀ j,aH u j->aH v j)->K u.1 u.2.1 u.2.2):gQ v.1 v.2.2 1 (v.2.1:Int) (v.2.2:Int) 2 K:=by
 obtain⟨hs,hl⟩:=h;simp only[cY] at hl;have e:qG (x::l)=[.string (str x.1),aa x.2]++qG l:=rfl
 rcases hs with⟨rfl,mh⟩ | ⟨g,off,cs,hv,hb,hle,hc,hn,he⟩
 ·dsimp only at hl;omega
 ·refine⟨by omega,by omega,by omega,by omega,?_⟩
  rw[hv];have hlen:=An l;have Lu:=An (x::l);simp only[cY] at Lu
  by_cases h1:(v.2.2:Int)=1
  ·rw[if_pos h1]
   have:l=[]:=tH ab;subst this;refine k (some ⟨g,off,none⟩,((v.2.1:Int) - 1).toNat,((v.2.2:Int) - 1).toNat) ⟨.inr ⟨g,off,cs,rfl,hb,by dsimp only;omega,by dsimp only;omega,?_,λ i hi=>?_⟩,?_⟩ (λ j hj=>?_)
   ·dsimp only;rw[hlen,kX];omega
   ·rw[hlen,kX] at hi;omega
   ·dsimp only;rw[kX];omega
   ·obtain⟨a,ha,rfl⟩:=hj;injection ha with ha;subst ha;exact⟨_,hv,rfl⟩
  ·rw[if_neg h1]
   have ea:(some (⟨g,off,none⟩:Addr)).map (·.add (Int.toNat 1 * 2))=some ⟨g,off+2,none⟩:=by
    show some ((⟨g,off,none⟩:Addr).add (1 * 2))=_;rw[eN]
   rw[ea];refine k (some ⟨g,off+2,none⟩,((v.2.1:Int) - 1).toNat,((v.2.2:Int) - 1).toNat) ⟨.inr ⟨g,off+2,cs,rfl,hb,by dsimp only;omega,by dsimp only;omega,?_,λ i hi=>?_⟩,?_⟩ (λ j hj=>?_)
   ·dsimp only;rw[hlen];omega
   ·rw[hlen] at hi
    have:=he (i+2) ab;rw[show off+2+i=off+(i+2) by omega,this,e];rfl
   ·dsimp only;omega
   ·obtain⟨a,ha,rfl⟩:=hj;injection ha with ha;subst ha;exact⟨_,hv,rfl⟩
theorem abx {m:Nat}{fin:Int}{s:RS}(h:fQ w m b fin s):au 283 #[aZ b] w λ r w'=>r=aa (Mj fin s)/\w=w':=by
 refine c283 _ w _ ?_;obtain⟨sl,hb,hs,_⟩:=h;have hl:=hs.len;refine af.aw hb (x:=sl) rfl ?_;unfold Mj;cases jW:s.l with
 | nil=>
  rw[jW] at hl;refine ae.no (by rw[hl];decide) (af.aw hb (x:=fin) rfl ⟨rfl,rfl⟩)
 | cons x l=>
  rw[jW] at hl hs;simp only[cY] at hl;refine ae.yes ab (af.aw hb (x:=sl) rfl ?_);exact Ia hs (i:=0) ab ab (x:=x) rfl λ a _ k2 _=>k2 _ ⟨rfl,rfl⟩
theorem MO {m:Nat}{fin:Int}{s:RS}(h:fQ w m b fin s)(c:Int):au 266 #[aZ b,aa c] w λ r w'=>r=.tuple #[]/\fQ w' m b fin (nX fin c s)/\Fr (only b) w w':=by
 refine c266 _ c w _ ?_;obtain⟨sl,hb,hs,pF,hsz⟩:=id h;refine af.aw hb (x:=s.e) rfl ?_;unfold nX;refine ae.eq (λ he=>?_) (λ he=>?_)
 ·rw[if_pos he]
  refine an.of (abx h) ?_;rintro _ _ ⟨rfl,rfl⟩;refine⟨_,rfl,?_⟩;refine aK.aw hb (by show 0+3<4;omega) rfl λ w1 aE f1 _=>?_;refine aK.aw aE (by show 0+2<4;omega) rfl λ w2 ba f2 _=>?_;have f:=f1.trans f2;exact⟨rfl,⟨sl,ba,hs.ao f (λ k hk t=>pF.1 (by have:k=b:=t;rw[<- this];exact hk)),⟨pF.1,pF.2.1,ez pF.2.2.1 f.size,pF.2.2.2⟩,hsz⟩,f⟩
 ·rw[if_neg he]
  exact⟨rfl,h,Fr.refl _ _⟩
theorem Fa {m:Nat}{fin:Int}{s:RS}(h:fQ w m b fin s)(v:av)(right:ai->Bool)
  (hr:∀ x:ai,x.length<=10000->∀ K:Bool->ah->Prop,(∀ w1,Fr none1 w w1->K (right x) w1)->nH Tryz.prog v [.string (str x)] bK w K) :
  au 258 #[aZ b,v] w λ r w'=>r=.string (str (dd fin right s).1)/\fQ w' m b fin (dd fin right s).2/\Fr (only b) w w':=by
 refine c258 _ v w _ ?_;obtain⟨sl,hb,hs,pF,hsz⟩:=id h;have hl:=hs.len
 rcases s with⟨l,a,e⟩
 dsimp only at hb hs hsz hl;refine dc.of (λ c w'=>c.1=(decide (e=0)&&match l with | []=>true | x::_=>!right x.1)/\Fr none1 w w') ?_ ?_
 ·refine af.aw hb (x:=e) rfl ?_
  refine ae.eq (λ he=>af.aw hb (x:=sl) rfl ?_) (λ he=>⟨by simp[he],Fr.refl _ _⟩);cases l with
  | nil=>exact ae.t (by rw[hl];rfl) ⟨by simp[he],Fr.refl _ _⟩
  | cons x l=>
   simp only[cY] at hl;refine ae.f (by rw[hl];exact beq_eq_false_iff_ne.2 ab) (af.aw hb (x:=sl) rfl ?_);refine Ia hs (i:=0) ab ab (x:=x) rfl λ q k1 _ _=>k1 _ ?_;exact hr x.1 (hsz x bm) _ λ w1 f1=>⟨by simp[he],f1⟩
 rintro _ ⟨c,_⟩ w3 ⟨hc,f3⟩;dsimp only at hc ⊢;have h3:=h.ag f3;refine ae.by (λ e1=>?_) (λ e1=>?_)
 ·rw[e1] at hc
  have wK:=Bool.and_eq_true_iff.1 hc.symm;have he:e=0:=of_decide_eq_true wK.1;subst he;refine an.of (MO h3 2) ?_;rintro _ w4 ⟨rfl,h4,f4⟩;refine⟨(),rfl,?_⟩;have ht:dd fin right ⟨l,a,0⟩=([],nX fin 2 ⟨l,a,0⟩):=by
   cases l with
   | nil=>exact R7
   | cons x l=>exact R6 (by simpa using wK.2)
  rw[ht];obtain⟨sl4,df,SY⟩:=id h4;refine af.aw df (x:=2) rfl (ae.t rfl ?_);exact⟨rfl,h4,Fr.fN f3 f4⟩
 ·obtain⟨S1,bJ,sX,IC,_⟩:=id h3
  refine af.aw bJ (x:=e) rfl ?_;refine ae.ne (λ he=>?_) (λ he=>?_)
  ·rw[R8 (s:=⟨l,a,e⟩) he]
   exact⟨rfl,h3,Fr.fN f3 (Fr.refl _ _)⟩
  ·subst he
   rw[e1] at hc;cases l with
   | nil=>simp at hc
   | cons x l=>
    have hx:right x.1=true:=by simpa using hc
    rw[Mk hx];have hl3:=sX.len;simp only[cY] at hl3;refine af.aw bJ (x:=S1) rfl ?_;refine Ia sX (i:=0) ab ab (x:=x) rfl λ q k1 _ _=>k1 _ ?_;refine af.aw bJ (x:=S1) rfl ?_;refine abw sX λ u hu pU=>?_;refine aK.aw bJ (by show 0+0<4;omega) rfl λ w4 df f4 _=>?_;have Ta:¬ aH u b:=λ t=>IC.1 (pU b t);exact⟨rfl,⟨u,df,hu.ao f4 (λ k hk t=>Ta (by have:k=b:=t;rw[<- this];exact hk)),⟨Ta,IC.2.1,ez IC.2.2.1 f4.size,λ k hk=>IC.2.2.2 k (pU k hk)⟩,λ y hy=>hsz y (by simp[hy])⟩,Fr.fN f3 f4⟩
theorem qP {m:Nat}{fin:Int}{s:RS}(h:fQ w m b fin s)(x:ai):au 260 #[aZ b,.string (str x)] w λ r w'=>r=.tuple #[]/\fQ w' m b fin (fo fin x s)/\Fr (only b) w w':=by
 refine c260 _ (str x) w _ ?_;refine aC.of λ g w1 hg aE f1 _=>?_;refine an.of (Fa (h.ag f1) _ (λ y=>decide (y=x)) λ y _ K hK=>?_) ?_
 ·have hf:au 278 #[.string (str y),aZ g] w1 λ r w'=>r=.bool (decide (y=x))/\w1=w':=by
   refine c278 (str y) _ w1 _ ?_;refine af.of aE (x:=str x) rfl ?_;rw[ly];exact⟨rfl,rfl⟩
  refine pC aA Tryz.func278 aA (hf.mono ?_);rintro _ _ ⟨rfl,rfl⟩;exact⟨_,rfl,hK _ (Fr.refl _ _)⟩
 ·rintro _ w2 ⟨rfl,h2,f2⟩
  exact⟨_,rfl,rfl,h2,Fr.fN f1 f2⟩
theorem MP {m:Nat}{fin:Int}{s:RS}(h:fQ w m b fin s):au 261 #[aZ b] w λ r w'=>r=.string (str (dd fin gY s).1)/\fQ w' m b fin (dd fin gY s).2/\Fr (only b) w w':=by
 refine c261 _ w _ ?_;refine an.of (Fa h _ gY λ y _ K hK=>?_) ?_
 ·refine pC aA Tryz.func194 aA ((zN y w).mono ?_)
  rintro _ w1 ⟨rfl,f1⟩;exact⟨_,rfl,hK w1 f1⟩
 ·rintro _ w2 ⟨rfl,h2,f2⟩
  exact⟨_,rfl,rfl,h2,f2⟩
theorem aby (y:ai)(hl:y.length<=10000)(w:ah):au 279 #[.string (str y)] w λ r w'=>r=.bool (jX y)/\Fr none1 w w':=by
 refine c279 (str y) w _ ?_;refine an.of (Ik y ab w) ?_;rintro _ w1 ⟨rfl,f1⟩;refine⟨(_,_,()),rfl,?_⟩;unfold jX;refine ae.by (λ e=>?_) (λ e=>?_)
 ·have e:(iV y).2=true:=e
  rw[e];exact⟨rfl,f1⟩
 have e:(iV y).2=false:=e;rw[e,lv];refine ae.str (z:=[102,105,120]) (λ e=>⟨by rw[e];rfl,f1⟩) (λ e=>?_);rw[beq_eq_false_iff_ne.2 e,lv];refine ae.str (z:=[97,100,100]) (λ e=>⟨by rw[e];rfl,f1⟩) (λ e=>?_);rw[beq_eq_false_iff_ne.2 e,lv];refine ae.str (z:=[110,101,103]) (λ e=>⟨by rw[e];rfl,f1⟩) (λ e=>?_);rw[beq_eq_false_iff_ne.2 e,lv];refine ae.str (z:=[109,117,108]) (λ e=>⟨by rw[e];rfl,f1⟩) (λ e=>?_);rw[beq_eq_false_iff_ne.2 e,lv,<- abu y [109,97,120]];exact⟨rfl,f1⟩
theorem abz (y:ai)(w:ah):au 259 #[.string (str y)] w λ r w'=>r=.bool (jk y)/\w=w':=by
 refine c259 (str y) w _ ?_;unfold jk;refine ae.str (z:=[122,101,114,111]) (λ e=>ae.str (z:=[122,101,114,111]) (λ _=>⟨by rw[e];rfl,rfl⟩) (λ k=>absurd e k)) (λ e=>?_);rw[beq_eq_false_iff_ne.2 e,lv];refine ae.str (z:=[111,110,101]) (λ e=>ae.str (z:=[111,110,101]) (λ _=>⟨by rw[e];rfl,rfl⟩) (λ k=>absurd e k)) (λ e=>?_);rw[beq_eq_false_iff_ne.2 e,lv];refine ae.str (z:=[103,105,118,101]) (λ e=>ae.str (z:=[103,105,118,101]) (λ _=>⟨by rw[e];rfl,rfl⟩) (λ k=>absurd e k)) (λ e=>?_);rw[beq_eq_false_iff_ne.2 e,lv];refine ae.str (z:=[97,110,100]) (λ e=>ae.str (z:=[97,110,100]) (λ _=>⟨by rw[e];rfl,rfl⟩) (λ k=>absurd e k)) (λ e=>?_);rw[beq_eq_false_iff_ne.2 e,lv];refine ae.str (z:=[111,114]) (λ e=>ae.str (z:=[111,114]) (λ _=>⟨by rw[e];rfl,rfl⟩) (λ k=>absurd e k)) (λ e=>?_);rw[beq_eq_false_iff_ne.2 e,lv];refine ae.str (z:=[115,99,97,108,101]) (λ e=>ae.str (z:=[115,99,97,108,101]) (λ _=>⟨by rw[e];rfl,rfl⟩) (λ k=>absurd e k)) (λ e=>?_);rw[beq_eq_false_iff_ne.2 e,lv];refine ae.str (z:=[119,104,101,110]) (λ e=>ae.str (z:=[119,104,101,110]) (λ _=>⟨by rw[e];rfl,rfl⟩) (λ k=>absurd e k)) (λ e=>?_);rw[beq_eq_false_iff_ne.2 e,lv];refine ae.str (z:=[105,102]) (λ e=>⟨by rw[e];rfl,rfl⟩) (λ e=>?_);rw[beq_eq_false_iff_ne.2 e];exact⟨rfl,rfl⟩
theorem abA (y:ai)(hl:y.length<=10000)(w:ah):au 282 #[.string (str y)] w λ r w'=>r=.bool (o6 y)/\Fr none1 w w':=by
 refine c282 (str y) w _ ?_;refine an.of (Ik y ab w) ?_;rintro _ w1 ⟨rfl,f1⟩;refine⟨(_,_,()),rfl,?_⟩;unfold o6;refine ae.by (λ e=>?_) (λ e=>?_)
 ·have e:(iV y).2=true:=e
  rw[e,iF];refine ae.dec (λ h=>?_) (λ h=>?_)
  ·have h:0<=(iV y).1:=h
   rw[decide_eq_true h,iF];exact⟨rfl,f1⟩
  ·have h:¬ 0<=(iV y).1:=h
   rw[decide_eq_false h];exact⟨rfl,f1⟩
 ·have e:(iV y).2=false:=e
  rw[e];exact⟨rfl,f1⟩
theorem abB {m:Nat}{fin:Int}{s:RS}(h:fQ w m b fin s):au 265 #[aZ b] w λ r w'=>r=aa (iV (dd fin o6 s).1).1/\fQ w' m b fin (dd fin o6 s).2/\Fr (only b) w w':=by
 refine c265 _ w _ ?_;refine an.of (Fa h _ o6 λ y hy K hK=>?_) ?_
 ·refine pC aA Tryz.func282 aA ((abA y hy w).mono ?_)
  rintro _ w1 ⟨rfl,f1⟩;exact⟨_,rfl,hK w1 f1⟩
 ·rintro _ w2 ⟨rfl,h2,f2⟩
  refine⟨_,rfl,?_⟩;have hsz:(dd fin o6 s).1.length<=100000:=by
   obtain⟨_,_,_,_,hz⟩:=h;unfold dd;split
   ·split
    ·simp
    ·rename_i x l hl
     split
     ·have:=hz x (by rw[hl];simp);dsimp only;omega
     ·simp
   ·simp
  refine an.of (Ik _ hsz w2) ?_;rintro _ w3 ⟨rfl,f3⟩;exact⟨(_,_,()),rfl,rfl,h2.ag f3,f2.et f3⟩
theorem abC {m:Nat}{fin:Int}{s:RS}(h:fQ w m b fin s)(right:ai->Bool):(dd fin right s).1.length<=10000:=by
 obtain⟨_,_,_,_,hz⟩:=h;unfold dd;split
 ·split
  ·simp
  ·rename_i x l hl
   split
   ·have:=hz x (by rw[hl];simp);dsimp only;omega
   ·simp
 ·simp
theorem ID {m:Nat}{fin:Int}{s:RS}(h:fQ w m b fin s)(n:Nat)(hn:n<=12):au 257 #[aZ b,aa (12 - (n:Int))] w λ r w'=>
  r=.bool (decide (n=0)||decide (s.e≠0))/\fQ w' m b fin (if n=0 then nX fin 5 s else s)/\Fr (only b) w w':=by
 refine c257 _ _ w _ ?_;refine ae.dec (λ h0=>?_) (λ h0=>?_)
 ·have:n=0:=ab
  subst this;refine an.of (MO h 5) ?_;rintro _ w1 ⟨rfl,h1,f1⟩;refine⟨(),rfl,?_⟩;obtain⟨sl,hb,_⟩:=id h1;refine af.aw hb (x:=(nX fin 5 s).e) rfl ?_;refine⟨?_,h1,f1⟩;have:(nX fin 5 s).e≠0:=by
   unfold nX;split
   ·show(5:Int)≠0;decide
   ·assumption
  rw[show((nX fin 5 s).e != 0)=true from by simp[this]];rfl
 ·have Tb:n≠0:=ab
  obtain⟨sl,hb,_⟩:=id h;refine af.aw hb (x:=s.e) rfl ?_;refine⟨?_,by rw[if_neg Tb];exact h,Fr.refl _ _⟩;rw[decide_eq_false Tb,lv]
  congr 1
  by_cases he:s.e=0<;>simp[he]
theorem MQ {m:Nat}{fin:Int}{s:RS}(h:fQ w m b fin s)(x:ai){T:TypeId}{zs:List av}{cks:List Ck}(c:Cs cks)(hl:zs.length=(Cs.vals cks c).length)(h1:(Cs.vals cks c).all cG=true){K:Cs cks->ah->Prop}
  (k:∀ w',fQ w' m b fin (fo fin x s)->Fr (only b) w w'->K c w') :
  aC (.cells zs.toArray T) w λ g w1=>aG ⟨g,0,none⟩ (Cs.vals cks c) w1 λ w2=>ak 260 #[aZ b,.string (str x)] w2 gR λ(_:Unit) w3=>aF cks ⟨g,0,none⟩ w3 λ y=>K y w3:=by
 refine dO hl h1 λ g w4 hg hb f=>?_;have bI:=h.lt;refine an.of (qP (h.ag f) x) ?_;rintro _ w5 ⟨rfl,h5,f5⟩;refine⟨(),rfl,?_⟩;refine aF.aR (f5.ao hb (λ t=>by have:g=b:=t;omega)) ?_;exact k w5 h5 (Fr.fN f f5)
theorem Tc (n:Nat)(hn:n+1<=12):IntKind.i64.wrap (12 - ((n+1:Nat):Int)+1)=12 - (n:Int):=by
 rw[wI ab ab];omega
theorem MR:∀ (n:Nat) (hn:n<=12) {w:ah} {m b:Nat} {fin:Int} {s:RS} (h:fQ w m b fin s),au 264 #[aZ b,aa (12 - (n:Int))] w λ r w'=>r=(lC fin n s).1.v/\fQ w' m b fin (lC fin n s).2/\Fr (only b) w w'
 | 0,hn,w,m,b,fin,s,h=>by
  refine c264 _ _ w _ ?_;refine an.of (ID h 0 hn) ?_;rintro _ w1 ⟨rfl,h1,f1⟩;exact⟨_,rfl,ae.t rfl ⟨rfl,h1,f1⟩⟩
 | n+1,hn,w,m,b,fin,s,h=>by
  have ih:=λ{w:ah} {s:RS} (h:fQ w m b fin s)=>MR n ab h;refine c264 _ _ w _ ?_;refine an.of (ID h (n+1) hn) ?_;rintro _ w1 ⟨rfl,h1,f1⟩;rw[if_neg ab] at h1;refine⟨_,rfl,?_⟩;dsimp only;rw[Tc n hn];unfold lC
  by_cases he:s.e=0
  case neg=>
   rw[if_pos he];exact ae.t (by simp[he]) ⟨rfl,h1,f1⟩
  rw[if_neg (by simpa using he)];refine ae.f (by simp[he]) ?_;refine an.of (Fa h1 _ jX λ y hy K hK=>?_) ?_
  ·refine pC aA Tryz.func279 aA ((aby y hy w1).mono ?_)
   rintro _ w2 ⟨rfl,f2⟩;exact⟨_,rfl,hK w2 f2⟩
  rintro _ w2 ⟨rfl,h2,f2⟩;have uc:=abC h1 jX;refine⟨_,rfl,?_⟩;generalize(dd fin jX s).1=x at uc ⊢;generalize(dd fin jX s).2=s2 at h2 ⊢;have f12:=f1.trans f2;have pair:∀ {K:av×av×Unit->ah->Prop},(∀ w',fQ w' m b fin (jY fin (lC fin n) s2).2.2->Fr (only b) w w'->K ((jY fin (lC fin n) s2).1.v,(jY fin (lC fin n) s2).2.1.v,()) w') ->
    ak 280 #[aZ b,aa (12 - (n:Int))] w2 (.bR [.one .raw,.one .raw]) K:=λ{K} hK=>by
   have hp:au 280 #[aZ b,aa (12 - (n:Int))] w2 λ r w'=>r=.tuple #[(jY fin (lC fin n) s2).1.v,(jY fin (lC fin n) s2).2.1.v]/\fQ w' m b fin (jY fin (lC fin n) s2).2.2/\Fr (only b) w2 w':=by
    refine c280 _ _ w2 _ ?_;refine an.of (qP h2 [40]) ?_;rintro _ w3 ⟨rfl,h3,f3⟩;refine⟨(),rfl,?_⟩;refine an.of (ih h3) ?_;rintro _ w4 ⟨rfl,h4,f4⟩;refine⟨_,rfl,?_⟩;refine an.of (qP h4 [44]) ?_;rintro _ w5 ⟨rfl,h5,f5⟩;refine⟨(),rfl,?_⟩;refine an.of (ih h5) ?_;rintro _ w6 ⟨rfl,h6,f6⟩;refine⟨_,rfl,?_⟩;refine an.of (qP h6 [41]) ?_;rintro _ w7 ⟨rfl,h7,f7⟩;exact⟨(),rfl,rfl,h7,(((f3.trans f4).trans f5).trans f6).trans f7⟩
   refine an.of hp ?_;rintro _ w3 ⟨rfl,h3,f3⟩;exact⟨(_,_,()),rfl,hK w3 h3 (f12.trans f3)⟩
  refine ae.str (z:=[]) (λ e=>?_) (λ e=>?_)
  ·rw[if_pos e];exact⟨rfl,h2,f12⟩
  rw[if_neg e];unfold wH;refine ae.str (z:=[102,105,120]) (λ e=>?_) (λ e=>?_)
  ·rw[if_pos e]
   refine an.of (qP h2 [40]) ?_;rintro _ w3 ⟨rfl,h3,f3⟩;refine⟨(),rfl,?_⟩;refine an.of (MP h3) ?_;rintro _ w4 ⟨rfl,h4,f4⟩;refine⟨_,rfl,?_⟩;exact MQ h4 [41] (zs:=[aj]) (cks:=[.str]) (str (dd fin gY (fo fin [40] s2)).1,()) rfl rfl λ w5 h5 f5=>⟨rfl,h5,((f12.trans f3).trans f4).trans f5⟩
  rw[if_neg e];refine ae.str (z:=[110,101,103]) (λ e=>?_) (λ e=>?_)
  ·rw[if_pos e]
   refine an.of (qP h2 [40]) ?_;rintro _ w3 ⟨rfl,h3,f3⟩;refine⟨(),rfl,?_⟩;refine an.of (ih h3) ?_;rintro _ w4 ⟨rfl,h4,f4⟩;refine⟨_,rfl,⟨Ob.iK _,?_⟩⟩;exact MQ h4 [41] (zs:=[.nilIface]) (cks:=[.raw]) ((lC fin n (fo fin [40] s2)).1.v,()) rfl (by simp[Cs.vals,Ck.val,Ob.cU]) λ w5 h5 f5=>⟨rfl,h5,((f12.trans f3).trans f4).trans f5⟩
  rw[if_neg e];refine ae.str (z:=[97,100,100]) (λ e=>?_) (λ e=>?_)
  ·rw[if_pos e]
   exact pair λ w3 h3 f3=>⟨Ob.iK _,⟨Ob.iK _,rfl,h3,f3⟩⟩
  rw[if_neg e];refine ae.str (z:=[109,117,108]) (λ e=>?_) (λ e=>?_)
  ·rw[if_pos e]
   exact pair λ w3 h3 f3=>⟨Ob.iK _,⟨Ob.iK _,rfl,h3,f3⟩⟩
  rw[if_neg e];refine ae.str (z:=[109,97,120]) (λ e=>?_) (λ e=>?_)
  ·rw[if_pos e]
   exact pair λ w3 h3 f3=>⟨Ob.iK _,⟨Ob.iK _,rfl,h3,f3⟩⟩
  rw[if_neg e];refine an.of (Ik x ab w2) ?_;rintro _ w3 ⟨rfl,f3⟩;exact⟨(_,_,()),rfl,rfl,h2.ag f3,f12.et f3⟩
theorem Td:cG .nilIface=true:=rfl
theorem MS {n:Nat}(ih:∀ {w:ah} {m b:Nat} {fin:Int} {s:RS},fQ w m b fin s->au 240 #[aZ b,aa (12 - (n:Int))] w λ r w'=>r=(iv fin n s).1.v/\fQ w' m b fin (iv fin n s).2/\Fr (only b) w w')
  {w:ah} {m b:Nat} {fin:Int} {s:RS} (h:fQ w m b fin s):au 262 #[aZ b,aa (12 - (n:Int))] w λ r w'=>r=(nY fin (iv fin n) s).1.v/\fQ w' m b fin (nY fin (iv fin n) s).2/\Fr (only b) w w':=by
 refine c262 _ _ w _ ?_;refine an.of (ih h) ?_;rintro _ w1 ⟨rfl,h1,f1⟩;refine⟨_,rfl,?_⟩;refine an.of (qP h1 [41]) ?_;rintro _ w2 ⟨rfl,h2,f2⟩;exact⟨(),rfl,rfl,h2,f1.trans f2⟩
theorem MT {n:Nat}(ih:∀ {w:ah} {m b:Nat} {fin:Int} {s:RS},fQ w m b fin s->au 240 #[aZ b,aa (12 - (n:Int))] w λ r w'=>r=(iv fin n s).1.v/\fQ w' m b fin (iv fin n s).2/\Fr (only b) w w')
  {w:ah} {m b:Nat} {fin:Int} {s:RS} (h:fQ w m b fin s):au 263 #[aZ b,aa (12 - (n:Int))] w λ r w'=>
   r=.tuple #[(jZ fin (iv fin n) s).1.v,(jZ fin (iv fin n) s).2.1.v]/\fQ w' m b fin (jZ fin (iv fin n) s).2.2/\Fr (only b) w w':=by
 refine c263 _ _ w _ ?_;refine an.of (ih h) ?_;rintro _ w1 ⟨rfl,h1,f1⟩;refine⟨_,rfl,?_⟩;refine an.of (qP h1 [44]) ?_;rintro _ w2 ⟨rfl,h2,f2⟩;refine⟨(),rfl,?_⟩;refine an.of (ih h2) ?_;rintro _ w3 ⟨rfl,h3,f3⟩;refine⟨_,rfl,?_⟩;refine an.of (qP h3 [41]) ?_;rintro _ w4 ⟨rfl,h4,f4⟩;exact⟨(),rfl,rfl,h4,((f1.trans f2).trans f3).trans f4⟩
theorem Te:∀ (n:Nat) (hn:n<=12) {w:ah} {m b:Nat} {fin:Int} {s:RS} (h:fQ w m b fin s),au 240 #[aZ b,aa (12 - (n:Int))] w λ r w'=>r=(iv fin n s).1.v/\fQ w' m b fin (iv fin n s).2/\Fr (only b) w w'
 | 0,hn,w,m,b,fin,s,h=>by
  refine c240 _ _ w _ ?_;refine an.of (ID h 0 hn) ?_;rintro _ w1 ⟨rfl,h1,f1⟩;exact⟨_,rfl,ae.t rfl ⟨rfl,h1,f1⟩⟩
 | n+1,hn,w,m,b,fin,s,h=>by
  have ih:=λ{w:ah} {m b:Nat} {fin:Int} {s:RS} (h:fQ w m b fin s)=>Te n ab h;refine c240 _ _ w _ ?_;refine an.of (ID h (n+1) hn) ?_;rintro _ w1 ⟨rfl,h1,f1⟩;rw[if_neg ab] at h1;refine⟨_,rfl,?_⟩;dsimp only;rw[Tc n hn];unfold iv
  by_cases he:s.e=0
  case neg=>
   rw[if_pos he];exact ae.t (by simp[he]) ⟨rfl,h1,f1⟩
  rw[if_neg (by simpa using he)];refine ae.f (by simp[he]) ?_;refine an.of (Fa h1 _ jk λ y hy K hK=>?_) ?_
  ·refine pC aA Tryz.func259 aA ((abz y w1).mono ?_)
   rintro _ _ ⟨rfl,rfl⟩;exact⟨_,rfl,hK w1 (Fr.refl _ _)⟩
  rintro _ w2 ⟨rfl,h2,f2⟩;refine⟨_,rfl,?_⟩;generalize(dd fin jk s).1=x;generalize(dd fin jk s).2=s1 at h2 ⊢;have f12:=f1.trans f2;refine ae.str (z:=[]) (λ e=>?_) (λ e=>?_)
  ·rw[if_pos e];exact⟨rfl,h2,f12⟩
  rw[if_neg e];refine ae.str (z:=[122,101,114,111]) (λ e=>?_) (λ e=>?_)
  ·rw[if_pos e];exact⟨rfl,h2,f12⟩
  rw[if_neg e];refine an.of (qP h2 [40]) ?_;rintro _ w3 ⟨rfl,h3,f3⟩;refine⟨(),rfl,?_⟩;have f13:=f12.trans f3;generalize fo fin [40] s1=s2 at h3 ⊢;have bI:=h.lt;unfold va;refine ae.str (z:=[111,110,101]) (λ e=>?_) (λ e=>?_)
  ·rw[if_pos e]
   refine an.of (MP h3) ?_;rintro _ w4 ⟨rfl,h4,f4⟩;refine⟨_,rfl,?_⟩;exact MQ h4 [41] (zs:=[aj]) (cks:=[.str]) (str (dd fin gY s2).1,()) rfl rfl λ w5 h5 f5=>⟨rfl,h5,(f13.trans f4).trans f5⟩
  rw[if_neg e];refine ae.str (z:=[103,105,118,101]) (λ e=>?_) (λ e=>?_)
  ·rw[if_pos e]
   refine an.of (MS ih h3) ?_;rintro _ w4 ⟨rfl,h4,f4⟩;exact⟨_,rfl,⟨Tm.iK _,rfl,h4,f13.trans f4⟩⟩
  rw[if_neg e];refine ae.str (z:=[97,110,100]) (λ e=>?_) (λ e=>?_)
  ·rw[if_pos e]
   refine an.of (MT ih h3) ?_;rintro _ w4 ⟨rfl,h4,f4⟩;exact⟨(_,_,()),rfl,⟨Tm.iK _,⟨Tm.iK _,rfl,h4,f13.trans f4⟩⟩⟩
  rw[if_neg e];refine ae.str (z:=[111,114]) (λ e=>?_) (λ e=>?_)
  ·rw[if_pos e]
   refine an.of (MP h3) ?_;rintro _ w4 ⟨rfl,h4,f4⟩;refine⟨_,rfl,?_⟩;generalize(dd fin gY s2).1=y;generalize(dd fin gY s2).2=s3 at h4 ⊢;refine dO (zs:=[aj,.nilIface,.nilIface]) (vs:=[.string (str y),.nilIface,.nilIface]) rfl rfl λ g w5 hg hb f5=>?_;have MU:m<=g:=by have:=h4.lt;omega
   have mM:g≠b:=by have:=h4.lt;omega
   refine an.of (qP (h4.ag f5) [44]) ?_;rintro _ w6 ⟨rfl,h6,f6⟩;refine⟨(),rfl,?_⟩;refine an.of (MT ih h6) ?_;rintro _ w7 ⟨rfl,h7,f7⟩;refine⟨(_,_,()),rfl,⟨Tm.iK _,?_⟩⟩;have gL:=f7.me (f6.me hb mM) mM;refine aG.one gL (by show 1<3;omega) (Tm.cU _) λ w8 lU f8 _=>⟨Tm.iK _,?_⟩;refine aG.one lU (by show 2<3;omega) (Tm.cU _) λ w9 oG f9 _=>?_;refine aF.aR (x:=(str y,(jZ fin (iv fin n) (fo fin [44] s3)).1.v,(jZ fin (iv fin n) (fo fin [44] s3)).2.1.v,())) oG ?_;have f89:=f8.trans f9;exact⟨rfl,h7.ao f89 (λ k hk t=>by have:k=g:=t;omega),(f13.trans f4).trans ((Fr.fN f5 (f6.trans f7)).comp f89 λ x hx t=>by have:x=g:=t;omega)⟩
  rw[if_neg e];refine ae.str (z:=[115,99,97,108,101]) (λ e=>?_) (λ e=>?_)
  ·rw[if_pos e]
   refine an.of (MR n ab h3) ?_;rintro _ w4 ⟨rfl,h4,f4⟩;refine⟨_,rfl,⟨Ob.iK _,?_⟩⟩;generalize(lC fin n s2).1=y;generalize(lC fin n s2).2=s3 at h4 ⊢;refine dO (zs:=[.nilIface,.nilIface]) (vs:=[y.v,.nilIface]) rfl (by simp[Ob.cU,Td]) λ g w5 hg hb f5=>?_;have MU:m<=g:=by have:=h4.lt;omega
   have mM:g≠b:=by have:=h4.lt;omega
   refine an.of (qP (h4.ag f5) [44]) ?_;rintro _ w6 ⟨rfl,h6,f6⟩;refine⟨(),rfl,?_⟩;refine an.of (MS ih h6) ?_;rintro _ w7 ⟨rfl,h7,f7⟩;refine⟨_,rfl,⟨Tm.iK _,?_⟩⟩;have gL:=f7.me (f6.me hb mM) mM;refine aG.one gL (by show 1<2;omega) (Tm.cU _) λ w8 lU f8 _=>?_;refine aF.aR (x:=(y.v,(nY fin (iv fin n) (fo fin [44] s3)).1.v,())) lU ?_;exact⟨rfl,h7.ao f8 (λ k hk t=>by have:k=g:=t;omega),(f13.trans f4).trans ((Fr.fN f5 (f6.trans f7)).comp f8 λ x hx t=>by have:x=g:=t;omega)⟩
  rw[if_neg e];refine ae.str (z:=[119,104,101,110]) (λ e=>?_) (λ e=>?_)
  ·rw[if_pos e]
   refine an.of (abB h3) ?_;rintro _ w4 ⟨rfl,h4,f4⟩;refine⟨_,rfl,?_⟩;generalize(iV (dd fin o6 s2).1).1=y;generalize(dd fin o6 s2).2=s3 at h4 ⊢;refine dO (zs:=[aa 0,.nilIface]) (vs:=[aa y,.nilIface]) rfl rfl λ g w5 hg hb f5=>?_;have MU:m<=g:=by have:=h4.lt;omega
   have mM:g≠b:=by have:=h4.lt;omega
   refine an.of (qP (h4.ag f5) [44]) ?_;rintro _ w6 ⟨rfl,h6,f6⟩;refine⟨(),rfl,?_⟩;refine an.of (MS ih h6) ?_;rintro _ w7 ⟨rfl,h7,f7⟩;refine⟨_,rfl,⟨Tm.iK _,?_⟩⟩;have gL:=f7.me (f6.me hb mM) mM;refine aG.one gL (by show 1<2;omega) (Tm.cU _) λ w8 lU f8 _=>?_;refine aF.aR (x:=(y,(nY fin (iv fin n) (fo fin [44] s3)).1.v,())) lU ?_;exact⟨rfl,h7.ao f8 (λ k hk t=>by have:k=g:=t;omega),(f13.trans f4).trans ((Fr.fN f5 (f6.trans f7)).comp f8 λ x hx t=>by have:x=g:=t;omega)⟩
  rw[if_neg e];refine an.of (MR n ab h3) ?_;rintro _ w4 ⟨rfl,h4,f4⟩;refine⟨_,rfl,⟨Ob.iK _,?_⟩⟩;generalize(lC fin n s2).1=y;generalize(lC fin n s2).2=s3 at h4 ⊢;refine dO (zs:=[.nilIface,.nilIface,.nilIface]) (vs:=[y.v,.nilIface,.nilIface]) rfl (by simp[Ob.cU,Td]) λ g w5 hg hb f5=>?_;have MU:m<=g:=by have:=h4.lt;omega
  have mM:g≠b:=by have:=h4.lt;omega
  refine an.of (qP (h4.ag f5) [44]) ?_;rintro _ w6 ⟨rfl,h6,f6⟩;refine⟨(),rfl,?_⟩;refine an.of (MT ih h6) ?_;rintro _ w7 ⟨rfl,h7,f7⟩;refine⟨(_,_,()),rfl,⟨Tm.iK _,?_⟩⟩;have gL:=f7.me (f6.me hb mM) mM;refine aG.one gL (by show 1<3;omega) (Tm.cU _) λ w8 lU f8 _=>⟨Tm.iK _,?_⟩;refine aG.one lU (by show 2<3;omega) (Tm.cU _) λ w9 oG f9 _=>?_;refine aF.aR (x:=(y.v,(jZ fin (iv fin n) (fo fin [44] s3)).1.v,(jZ fin (iv fin n) (fo fin [44] s3)).2.1.v,())) oG ?_;have f89:=f8.trans f9;exact⟨rfl,h7.ao f89 (λ k hk t=>by have:k=g:=t;omega),(f13.trans f4).trans ((Fr.fN f5 (f6.trans f7)).comp f89 λ x hx t=>by have:x=g:=t;omega)⟩
theorem abD (bs:ai)(hl:bs.length<9223372036854775807)(w:ah):au 255 #[.string (str bs)] w λ r w'=>r=aa ((dL bs).length:Int)/\Fr none1 w w':=by
 refine(Tryz.utf8_RuneCountInString (str bs) w (by rw[fS];exact hl)).mono ?_;rintro e w' ⟨rfl,pos,rfl⟩;refine⟨_,rfl,?_,pG _ _⟩;unfold Lib.runeCount;rw[SX _ _ _ ab,nn,List.drop_zero]
theorem abE (bs:ai)(hl:bs.length<=1000000000000)(w:ah):au 239 #[.string (str bs)] w λ r w'=>∃ m g:Nat,r=aZ g/\fQ w' m g (qJ bs) (o7 bs)/\Fr none1 w w'/\w.heap.size<=g:=by
 refine c239 (str bs) w _ ?_;refine an.of (abD bs ab w) ?_;rintro _ w1 ⟨rfl,f1⟩;refine⟨_,rfl,?_⟩;have Fb:=Lh bs;have abF:IntKind.i64.wrap (((dL bs).length:Int)+1)=qJ bs:=wI ab ab;refine aC.of λ g w2 hg hb f2 iQ=>?_;rw[abF] at hb;have Ax:w.heap.size<=g:=by have:=f1.size;omega
 unfold o7;rw[fS];refine ae.dec (λ h=>?_) (λ h=>?_)
 ·rw[if_pos ab]
  refine aK.aw hb (by show 0+3<4;omega) rfl λ w3 bJ f3 sX=>?_;exact⟨g+1,g,rfl,⟨(none,0,0),bJ,Mb _,⟨nt _,by omega,by omega,λ k t=>(nt k t).elim⟩,λ x hx=>by cases hx⟩,f1.trans (f2.fresh f3 ab),Ax⟩
 ·rw[if_neg ab]
  refine an.of (aau bs w2 (by have:=abt (dL bs);omega)) ?_;rintro _ w3 ⟨sl,rfl,jW,f3,hf⟩;refine⟨((sl.1,sl.2.1,sl.2.2),_,()),rfl,?_⟩;have bJ:=f3.ag hb;have hz:=abr (bs:=bs) ab;have Ay:¬ aH sl g:=λ t=>by have:=hf g t;omega
  have Tf:∀ k,aH sl k->k<w3.heap.size:=λ k hk=>jW.sl.lt hk;refine ae.dec (λ hp=>?_) (λ hp=>?_)
  ·rw[if_pos (show 0<(gK [] 0 false (dL bs)).2 from hp)]
   refine aK.aw bJ (by show 0+3<4;omega) rfl λ w4 df f4 wS=>?_;refine aK.aw df (by show 0+2<4;omega) rfl λ w5 dN f5 Fe=>?_;refine aK.aw dN (by show 0+0<4;omega) rfl λ w6 gM f6 Tg=>?_;have f46:=(f4.trans f5).trans f6;exact⟨w3.heap.size,g,rfl,⟨sl,gM,jW.ao f46 (λ k hk t=>Ay (by have:k=g:=t;rw[<- this];exact hk)),⟨Ay,cQ bJ,by omega,Tf⟩,hz⟩,f1.trans ((f2.trans f3).fresh f46 ab),Ax⟩
  ·rw[if_neg (show ¬ 0<(gK [] 0 false (dL bs)).2 from hp)]
   refine aK.aw bJ (by show 0+0<4;omega) rfl λ w4 df f4 wS=>?_;exact⟨w3.heap.size,g,rfl,⟨sl,df,jW.ao f4 (λ k hk t=>Ay (by have:k=g:=t;rw[<- this];exact hk)),⟨Ay,cQ bJ,by omega,Tf⟩,hz⟩,f1.trans ((f2.trans f3).fresh f4 ab),Ax⟩
theorem abG {m:Nat}{fin:Int}{s:RS}(h:fQ w m b fin s):au 241 #[aZ b] w λ r w'=>r=.tuple #[]/\fQ w' m b fin (yh fin s)/\Fr (only b) w w':=by
 refine c241 _ w _ ?_;obtain⟨sl,hb,hs,_⟩:=id h;have hl:=hs.len;refine af.aw hb (x:=sl) rfl ?_;unfold yh;cases jW:s.l with
 | nil=>
  rw[jW] at hl;exact ae.no (by rw[hl];decide) ⟨rfl,h,Fr.refl _ _⟩
 | cons x l=>
  rw[jW] at hl;simp only[cY] at hl;refine ae.yes ab ?_;refine an.of (MO h 2) ?_;rintro _ w1 ⟨rfl,h1,f1⟩;exact⟨(),rfl,rfl,h1,f1⟩
theorem Th (h:(sS bs).e=0):bj (iv (qJ bs) 12 (o7 bs)).1<=1000000:=by
 obtain⟨h1,h2,_⟩:=aa0 h;obtain⟨i1,_,_⟩:=Sf (qJ bs) 12 (o7 bs) h1;obtain⟨b1,_,b3⟩:=aa5 i1.e;obtain⟨xs,hx,sT⟩:=i1.Cu;have h3:=abp (iv (qJ bs) 12 (o7 bs)).1;rw[<- sT,eI] at h3;rw[h2,dV,b3] at hx;have h4:=IB (dL bs) [] 0 false;have h5:=Lh bs;have hx:(gK [] 0 false (dL bs)).1=xs:=hx;rw[hx,kX] at h4;omega
theorem abH (bs:ai)(hl:bs.length<=1000000000000)(w:ah):au 212 #[.string (str bs)] w λ r w'=>r=.tuple #[(qK bs).1.v,aa (qK bs).2.1,aa (qK bs).2.2]/\Fr none1 w w':=by
 refine c212 (str bs) w _ ?_;refine an.of (abE bs hl w) ?_;rintro _ w1 ⟨m,g,rfl,h1,f1,hg⟩;refine⟨_,rfl,?_⟩;refine an.of (Te 12 (eR _) h1) ?_;rintro _ w2 ⟨rfl,h2,f2⟩;refine⟨_,rfl,?_⟩;refine an.of (abG h2) ?_;rintro _ w3 ⟨rfl,h3,f3⟩;refine⟨(),rfl,?_⟩;have f13:Fr none1 w w3:=f1.fresh (f2.trans f3) hg;have h3:fQ w3 m g (qJ bs) (sS bs):=h3;obtain⟨sl,hb,_⟩:=id h3;unfold qK;refine af.aw hb (x:=(sS bs).e) rfl ?_;refine ae.eq (λ he=>?_) (λ he=>?_)
 ·rw[if_neg (λ t=>t he)]
  refine an.of (LN _ (Th he) w3) ?_;rintro _ w4 ⟨rfl,f4⟩;refine⟨_,rfl,?_⟩;refine aK.aw (f4.ag hb) (by show 0+3<4;omega) rfl λ w5 dN f5 _=>?_;refine af.aw dN (x:=mu (iv (qJ bs) 12 (o7 bs)).1) rfl ?_;have f15:Fr none1 w w5:=(f13.trans f4).fresh f5 ab;refine ae.ne (λ hc=>?_) (λ hc=>?_)
  ·rw[if_pos hc]
   refine aU.of λ w6 _ f6=>?_;refine af.aw (f6.ag dN) (x:=(sS bs).at_) rfl (af.aw (f6.ag dN) (x:=mu (iv (qJ bs) 12 (o7 bs)).1) rfl ?_);exact⟨rfl,f15.trans f6⟩
  ·rw[if_neg (λ t=>t hc)]
   exact⟨rfl,f15⟩
 ·rw[if_pos he]
  refine af.aw hb (x:=(sS bs).e) rfl ?_;refine ae.ne (λ _=>?_) (λ hc=>absurd hc he);refine aU.of λ w6 _ f6=>?_;refine af.aw (f6.ag hb) (x:=(sS bs).at_) rfl (af.aw (f6.ag hb) (x:=(sS bs).e) rfl ?_);exact⟨rfl,f13.trans f6⟩
theorem IE {α:Type}(a b:List α)(d:α){i:Nat}(h:i<a.length):(a++b).getD i d=a.getD i d:=by
 rw[dB,dB,oV h]
theorem IF {α:Type}(a:List α)(x d:α):(a++[x]).getD a.length d=x:=by
 rw[dB];simp
theorem bO.my {v:Sl}(h:bO w v bs){lo hi:Int}(h0:0<=lo)(h1:lo<=hi)(h2:hi<=v.2.1)(hc:v.2.1<=v.2.2){K:aS->Nat->Nat->Prop}
  (k:∀ u:Sl,bO w u ((bs.drop lo.toNat).take (hi - lo).toNat)->u.2.1<=u.2.2->u.2.1=(hi - lo).toNat->(∀ k,aH u k->aH v k)->K u.1 u.2.1 u.2.2):gQ v.1 v.2.2 lo hi v.2.2 1 K:=by
 refine eW.my h h0 h1 h2 hc λ u hu=>k u ?_;unfold bO;rw[uR,List.map_drop];exact hu
theorem bO.yr {v:Sl}(h:bO w v bs){S:bz}(f:Fr S w w')(hn:bs≠[]->∀ k,aH v k->¬ S k):bO w' v bs:=by
 by_cases e:bs=[]
 ·subst e
  obtain⟨h1,h2,h3⟩:=h;exact⟨h1,h2,λ a ha=>trivial⟩
 ·exact h.ao f (hn e)
theorem bO.MV {v:Sl}(h:bO w v bs)(hn:bs≠[]){k:Nat}(hk:aH v k):k<w.heap.size:=by
 obtain⟨a,ha,rfl⟩:=hk;obtain⟨_,_,h3⟩:=h;have:=h3 a ha;cases bs with
 | nil=>exact(hn rfl).elim
 | cons b bs=>exact Qv this.1
theorem abI {n m:Int}(h0:0<=n)(h1:n<=m)(hb:m<=281474976710656):
  ∃ w',(Instr.makeSlice 22 (aa n) (aa m)).run Tryz.prog w=.ok (.slice (some ⟨w.heap.size,0,none⟩) n.toNat m.toNat) w'/\cT w' (some ⟨w.heap.size,0,none⟩,m.toNat,m.toNat) (List.replicate m.toNat 0)/\Fr none1 w w':=by
 obtain⟨hu,⟨i,hi,hs,hz,uN⟩,hc,sE⟩:=qu;have rv:∀ w,(typeInfo 5).run Tryz.prog w=.ok i w:=λ w=>by simp[typeInfo,hi]
 have pH:∀ w,(sizeOf 5).run Tryz.prog w=.ok 1 w:=λ w=>by rw[mZ hi,hs]
 have ha:∀ (k:IntKind) (n:Int) w,(asInt (.int k n)).run Tryz.prog w=.ok n w:=λ _ _ _=>rfl;unfold Instr.makeSlice;simp only[Sem.run_bind,under hu,Result.andThen_ok,ha,rv,wI (x:=n) ab ab,wI (x:=m) ab ab];have YT:¬ ((i.bytes:Int) * m > 2 ^ 48):=by rw[uN];omega
 rw[if_neg (by simp;omega)];have zC:∀ zc:Array av,(m.toNat * 1≠0->zc=#[.int .u8 0])->(Array.range (m.toNat * 1)).map (zc[· % zc.size]!)=Array.replicate m.toNat (.int .u8 0):=λ zc zB=>by
  by_cases h:m.toNat * 1=0
  ·have:m.toNat=0:=ab
   rw[this];simp
  ·rw[zB h]
   apply Array.ext
   ·simp
   ·intro j h1 h2
    have:j % 1=0:=Nat.mod_one _;simp[this]
 have fin:∀ cs:Array av,cs=Array.replicate m.toNat (.int .u8 0) ->
   ∃ w',(do pure (Value.slice (some (<- newRow 5 cs)) n.toNat m.toNat):Sem av).run Tryz.prog w=.ok (.slice (some ⟨w.heap.size,0,none⟩) n.toNat m.toNat) w'/\cT w' (some ⟨w.heap.size,0,none⟩,m.toNat,m.toNat) (List.replicate m.toNat 0)/\Fr none1 w w':=λ cs hcs=>by
  subst hcs;simp only[newRow,Sem.run_bind,run_newObj,Result.andThen_ok,Sem.run_pure];refine⟨_,rfl,.inr ⟨w.heap.size,0,_,rfl,D9 ..,eR _,by simp,by simp,λ j hj=>?_⟩,pG _ _⟩;simp at hj;rw[List.map_replicate,Array.getElem?_replicate,List.getElem?_replicate,if_pos (show 0+j<m.toNat by omega),if_pos (show j<m.toNat by omega)];rfl
 by_cases h:m.toNat * 1=0
 ·simp only[Sem.run_bind,run_askRoom,Result.andThen_ok,pH,if_pos h,Sem.run_pure]
  exact fin _ (zC #[] (λ hh=>absurd h hh))
 ·simp only[Sem.run_bind,run_askRoom,Result.andThen_ok,pH,if_neg h,uG hi hz,Sem.run_pure]
  exact fin _ (zC _ (λ _=>rfl))
theorem Ti:∀ (vs:List av) (w:ah) (cs mH:Array av) (off i:Nat),w.heap[g]? = some (.cells cs T (0,0))->(setCells w ⟨g,off,none⟩ i vs).heap[g]? = some (.cells mH T (0,0))->∀ j,off+i+vs.length<=j->mH[j]? = cs[j]?
 | [],w,cs,mH,off,i,hb,jF,j,_=>by
  have:some (Obj.cells cs T (0,0))=some (.cells mH T (0,0)):=by rw[<- hb,<- jF];rfl
  injection this with this
  injection this with this
  rw[this]
 | v::vs,w,cs,mH,off,i,hb,jF,j,hj=>by
  simp only[cY] at hj;unfold setCells at jF;rw[eN] at jF;have hs:=Vc.heap_setCell_same (i:=off+i) (v:=v) hb;have:=Ti vs _ _ mH off (i+1) hs jF j ab;rw[this,Hx ab]
def C144 (p0:Addr)(p1:Int)(w:ah)(K:aP):Prop:=
 af .bool (p0.add 1) w (λ(x1:Bool)=>ae x1
 (aK (p0.add 1) (.bool true) w (λ w2=>K (.slice none 0 0) w2))
 (af .bE (p0.add 0) w (λ(x3:aB)=>ae (decide (p1 > (x3.2.1:Int)))
 (aK (p0.add 1) (.bool true) w (λ w4=>K (.slice none 0 0) w4))
 (af .bE (p0.add 0) w (λ(x5:aB)=>gQ x5.1 x5.2.2 0 p1 x5.2.2 1 (λ a6 l7 c8=>af .bE (p0.add 0) w (λ(x9:aB)=>gQ x9.1 x9.2.2 p1 x9.2.1 x9.2.2 1 (λ tU l11 c12=>aK (p0.add 0) (.slice tU l11 c12) w (λ bM=>K (.slice a6 l7 c8) bM)))))))))
def pl144:aN:=.auto
theorem c144 (p0 p1 w K)(h:C144 p0 p1 w K):au 144 #[aI p0,aa p1] w K:=aQ Tryz.func144 (p:=pl144) aA h
def C183 (p0:Addr)(p1:Int)(w:ah)(K:aP):Prop:=
 ak 144 #[aI p0,aa p1] w aM (λ(x1:aB) w2=>cp (Int×Int×Unit) (λ _ s3 w4 nT=>ae (decide (s3.2.1<(x1.2.1:Int)))
 (cz x1.1 x1.2.1 s3.2.1 1 (λ a6=>af (.int .u8) a6 w4 (λ(x7:Int)=>mb 8 (nT (IntKind.i64.wrap ((BitVec.ofInt 64 (IntKind.i64.wrap (s3.1 * 2 ^ (min (Int.toNat 8) 64))) ||| BitVec.ofInt 64 (IntKind.i64.wrap x7)).toNat:Int),IntKind.i64.wrap (s3.2.1+1),()) w4))))
 (ak 144 #[aI p0,aa s3.1] w4 aM (λ(x8:aB) w9=>aT (convert 22 9 (aO x8)) w9 eu (λ(bG:ay) bt=>K (.string bG) bt))))
 (0,0,()) w2)
def pl183:aN:=(.seq .auto (.seq .auto (.seq (.seq .auto (.block (.loop [(5,.one (.int .i64)),(12,.one (.int .i64))] .auto))) .auto)))
theorem c183 (p0 p1 w K)(h:C183 p0 p1 w K):au 183 #[aI p0,aa p1] w K:=aQ Tryz.func183 (p:=pl183) aA h
def C181 (p0:Addr)(w:ah)(K:aP):Prop:=
 ak 144 #[aI p0,aa 8] w aM (λ(x1:aB) w2=>ak 166 #[aO x1] w2 (.bR [.one (.int .i64),.one .bool]) (λ(x3:Int×Bool×Unit) w4=>af .bool (p0.add 1) w4 (λ(x5:Bool)=>ae x5
 (aK (p0.add 1) (.bool true) w4 (λ w6=>K (aa x3.1) w6))
 (aK (p0.add 1) (.bool (!x3.2.1)) w4 (λ w7=>K (aa x3.1) w7)))))
def pl181:aN:=.auto
theorem c181 (p0 w K)(h:C181 p0 w K):au 181 #[aI p0] w K:=aQ Tryz.func181 (p:=pl181) aA h
def C182 (p0:Addr)(w:ah)(K:aP):Prop:=
 ak 183 #[aI p0,aa 2] w eu (λ(x1:ay) w2=>ak 212 #[.string x1] w2 (.bR [.one .raw,.one (.int .i64),.one (.int .i64)]) (λ(x3:av×Int×Int×Unit) w4=>af .bool (p0.add 1) w4 (λ(x5:Bool)=>ae x5
 (aK (p0.add 1) (.bool true) w4 (λ w6=>K x3.1 w6))
 (aK (p0.add 1) (.bool (x3.2.2.1 != 0)) w4 (λ w7=>K x3.1 w7)))))
def pl182:aN:=.auto
theorem c182 (p0 w K)(h:C182 p0 w K):au 182 #[aI p0] w K:=aQ Tryz.func182 (p:=pl182) aA h
def C146 (p0:Addr)(p1:Addr)(p2:Int)(w:ah)(K:aP):Prop:=
 ae (p2==68)
 (ak 181 #[aI p0] w bN (λ(x1:Int) w2=>aK (p1.add 5) (aa x1) w2 (λ w3=>K (.tuple #[]) w3)))
 (ae (p2==86)
 (ak 181 #[aI p0] w bN (λ(x4:Int) w5=>aK (p1.add 6) (aa x4) w5 (λ w6=>K (.tuple #[]) w6)))
 (ae (p2==84)
 (ak 182 #[aI p0] w (.v (.one .raw)) (λ(x7:av) w8=>lu x7 (aG (p1.add 7) [x7] w8 (λ w9=>K (.tuple #[]) w9))))
 (ae (p2==73)
 (ak 183 #[aI p0,aa 1] w eu (λ(bG:ay) bt=>aK (p1.add 1) (.string bG) bt (λ br=>K (.tuple #[]) br)))
 (ae (p2==78)
 (ak 183 #[aI p0,aa 1] w eu (λ(cA:ay) bY=>aK (p1.add 2) (.string cA) bY (λ cB=>K (.tuple #[]) cB)))
 (ae (p2==76)
 (ak 183 #[aI p0,aa 1] w eu (λ(bP:ay) da=>aK (p1.add 3) (.string bP) da (λ b9=>K (.tuple #[]) b9)))
 (ae (p2==67)
 (ak 183 #[aI p0,aa 1] w eu (λ(cJ:ay) bW=>aK (p1.add 4) (.string cJ) bW (λ cr=>K (.tuple #[]) cr)))
 (K (.tuple #[]) w)))))))
def pl146:aN:=.auto
theorem c146 (p0 p1 p2 w K)(h:C146 p0 p1 p2 w K):au 146 #[aI p0,aI p1,.int .i32 p2] w K:=aQ Tryz.func146 (p:=pl146) aA h
def C102 (p0:aS)(bh bC:Nat)(w:ah)(K:aP):Prop:=
 aC (.cells #[aa 0,aj,aj,aj,aj,aa 0,aa 0,.nilIface] 34) w (λ g1 w2=>aC (.cells #[.slice p0 bh bC,.bool false] 281) w2 (λ g3 w4=>aC (.cells #[aa 0,aj,aj,aj,aj,aa 0,aa 0,.nilIface] 34) w4 (λ g5 w6=>aG (ad g5) [aa 0,aj,aj,aj,aj,aa 0,aa 0,.nilIface] w6 (λ w7=>ak 144 #[.pointer (some (ad g3)),aa 1] w7 aM (λ(x8:aB) w9=>cp (Int×Unit) (λ _ wT bt abJ=>ae (decide (wT.1<(x8.2.1:Int)))
 (cz x8.1 x8.2.1 wT.1 1 (λ MM=>af (.int .u8) MM bt (λ(cj:Int)=>aK ((ad g5).add 0) (aa (IntKind.i64.wrap cj)) bt (λ cB=>abJ (IntKind.i64.wrap (wT.1+1),()) cB))))
 (af (.int .i64) ((ad g5).add 0) bt (λ(bP:Int)=>ak 145 #[aa bP] bt aM (λ(bZ:aB) b9=>cp (Int×Unit) (λ _ MW bW abK=>ae (decide (MW.1<(bZ.2.1:Int)))
 (cz bZ.1 bZ.2.1 MW.1 1 (λ a22=>af (.int .i32) a22 bW (λ(eB:Int)=>ak 146 #[.pointer (some (ad g3)),.pointer (some (ad g5)),.int .i32 eB] bW gR (λ(dr:Unit) eJ=>abK (IntKind.i64.wrap (MW.1+1),()) eJ))))
 (aF fO (ad g5) bW (λ(eX:di)=>ak 147 #[.agg (cO eX).toArray] bW pI (λ(eD:aB×Int×Unit) cS=>af .bool ((ad g3).add 1) cS (λ(eQ:Bool)=>ae eQ
 (aG (ad g1) [aa 0,aj,aj,aj,aj,aa 0,aa 0,.nilIface] cS (λ cN=>aF fO (ad g1) cN (λ(dt:di)=>K (.tuple #[.agg (cO dt).toArray,aa 2]) cN)))
 (ae (eD.2.1 != 0)
 (aG (ad g1) [aa 0,aj,aj,aj,aj,aa 0,aa 0,.nilIface] cS (λ dQ=>aF fO (ad g1) dQ (λ(fk:di)=>K (.tuple #[.agg (cO fk).toArray,aa 2]) dQ)))
 (ak 133 #[.slice eD.1.1 eD.1.2.1 eD.1.2.2,.slice p0 bh bC] cS bK (λ(fD:Bool) gh=>ae (!fD)
 (aG (ad g1) [aa 0,aj,aj,aj,aj,aa 0,aa 0,.nilIface] gh (λ dW=>aF fO (ad g1) dW (λ(ka:di)=>K (.tuple #[.agg (cO ka).toArray,aa 2]) dW)))
 (aF fO (ad g5) gh (λ(gn:di)=>aG (ad g1) (cO gn) gh (λ gq=>aF fO (ad g1) gq (λ(mi:di)=>K (.tuple #[.agg (cO mi).toArray,aa 0]) gq))))))))))))
 (0,()) b9))))
 (0,()) w9)))))
def pl102:aN:=(.seq .auto (.seq .auto (.seq .auto (.seq (.seq .auto (.block (.loop [(19,.one (.int .i64))] .auto))) (.seq (.seq .auto (.block (.loop [(31,.one (.int .i64))] .auto))) .auto)))))
theorem c102 (p0 bh bC w K)(h:C102 p0 bh bC w K):au 102 #[.slice p0 bh bC] w K:=aQ Tryz.func102 (p:=pl102) aA h
def C100 (p0:aS)(bh bC:Nat)(w:ah)(K:aP):Prop:=
 aC (.cells #[aa 0,aj,aj,aj,aj,aa 0,aa 0,.nilIface,.bool false] 68) w (λ g1 w2=>ae ((bh:Int)==0)
 (aG (ad g1) [aa 0,aj,aj,aj,aj,aa 0,aa 0,.nilIface,.bool false] w2 (λ w3=>aF oU (ad g1) w3 (λ(x4:mf)=>K (.tuple #[.agg (kV x4).toArray,aa 2]) w3)))
 (cz p0 bh 0 1 (λ a5=>af (.int .u8) a5 w2 (λ(x6:Int)=>ae (decide (x6 > 1))
 (aG (ad g1) [aa 0,aj,aj,aj,aj,aa 0,aa 0,.nilIface,.bool false] w2 (λ w7=>aF oU (ad g1) w7 (λ(x8:mf)=>K (.tuple #[.agg (kV x8).toArray,aa 2]) w7)))
 (gQ p0 bC 1 bh bC 1 (λ a9 l10 c11=>ak 102 #[.slice a9 l10 c11] w2 (.bR [.agg fO,.one (.int .i64)]) (λ(cn:di×Int×Unit) bM=>aC (.cells #[aa 0,aj,aj,aj,aj,aa 0,aa 0,.nilIface] 34) bM (λ g14 cB=>aG (ad g14) [aa cn.1.1,.string cn.1.2.1,.string cn.1.2.2.1,.string cn.1.2.2.2.1,.string cn.1.2.2.2.2.1,aa cn.1.2.2.2.2.2.1,aa cn.1.2.2.2.2.2.2.1,cn.1.2.2.2.2.2.2.2.1] cB (λ bV=>ae (cn.2.1 != 0)
 (aG (ad g1) [aa 0,aj,aj,aj,aj,aa 0,aa 0,.nilIface,.bool false] bV (λ da=>aF oU (ad g1) da (λ(cF:mf)=>K (.tuple #[.agg (kV cF).toArray,aa cn.2.1]) da)))
 (aU bV (λ ct=>aF fO (ad g14) ct (λ(dE:di)=>cz p0 bh 0 1 (λ a21=>af (.int .u8) a21 ct (λ(cW:Int)=>aG (ad g1) [aa dE.1,.string dE.2.1,.string dE.2.2.1,.string dE.2.2.2.1,.string dE.2.2.2.2.1,aa dE.2.2.2.2.2.1,aa dE.2.2.2.2.2.2.1,dE.2.2.2.2.2.2.2.1,.bool (cW==1)] ct (λ dM=>aF oU (ad g1) dM (λ(dr:mf)=>K (.tuple #[.agg (kV dr).toArray,aa 0]) dM))))))))))))))))
def pl100:aN:=(.seq .auto (.seq .auto (.seq .auto (.seq .auto (.seq (.tail 6) .auto)))))
theorem c100 (p0 bh bC w K)(h:C100 p0 bh bC w K):au 100 #[.slice p0 bh bC] w K:=aQ Tryz.func100 (p:=pl100) aA h
end Go.Proofs.YtfolkckcakndkaaGreatDoor
