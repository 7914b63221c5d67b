/-
  Texts of this claim, put together.
  Conditions: those of each theorem.
-/
import Derived.Test.YtfolkckcakndkaaGreatDoorQDS0
import Derived.Test.YtfolkckcakndkaaGreatDoorQDS1
import Derived.Test.YtfolkckcakndkaaGreatDoorQDS2
import Derived.KernelRfl
import Derived.Laws.BytesString
import Derived.Laws.IdiomStrings
import Derived.Laws.StructEq
import Derived.Lib.Bytes
import Derived.Test.YtfolkckcakndkaaGreatDoorProg
set_option linter.unusedVariables false
set_option maxRecDepth 100000
namespace Go.Proofs.YtfolkckcakndkaaGreatDoor
open Vc
set_option maxRecDepth 100000
set_option maxHeartbeats 2000000
variable {w w':ah}{b g N fb fg c g1 j:Nat}{F S A:bz}{kb bs x:ai}{l:fE}{E:Int}{T:TypeId}
def lV (T:TypeId)(w:ah)(g n:Nat)(s:kK):Prop:=
 ∃ u:Sl,w.heap[g]? = some (.cells #[.slice u.1 u.2.1 u.2.2,.bool s.2] T (0,0))/\bO w u s.1/\u.2.1<=u.2.2/\(s.1≠[]->∀ k,aH u k->k<n)
theorem lV.ao {n:Nat}{s:kK}(h:lV T w g n s){S:bz}(f:Fr S w w')(hg:¬ S g)(hS:∀ k,S k->n<=k):lV T w' g n s:=by
 obtain⟨u,a,b,c,d⟩:=h;exact⟨u,f.ao a hg,b.yr f λ hn k hk t=>by have:=d hn k hk;have:=hS k t;omega,c,d⟩
theorem lV.ag {n:Nat}{s:kK}(h:lV T w g n s)(f:Fr none1 w w'):lV T w' g n s:=h.ao f (λ t=>t) (λ _ t=>t.elim)
theorem abL (w:ah):bO w (none,0,0) []:=(K7 w).rd
theorem abM (m:Nat)(b:UInt8)(hm:m<65536):IntKind.i64.wrap ((BitVec.ofInt 64 (IntKind.i64.wrap ((m:Int) * 2 ^ (min (Int.toNat 8) 64))) ||| BitVec.ofInt 64 (IntKind.i64.wrap (b.toNat:Int))).toNat:Int)=((m * 256+b.toNat:Nat):Int):=by
 have hb:=b.toNat_lt;have e1:((m:Int) * 2 ^ (min (Int.toNat 8) 64))=((m * 256:Nat):Int):=by
  rw[show min (Int.toNat 8) 64=8 by decide];norm_cast
 rw[e1,wI (x:=((m * 256:Nat):Int)) ab ab,wI (x:=(b.toNat:Int)) ab ab,BitVec.toNat_or,D6,D6,oA ab,oA ab];have e2:m * 256 ||| b.toNat=m * 256+b.toNat:=by
  rw[show m * 256=m <<< 8 by rw[BZ],<- HA (show b.toNat<2 ^ 8 from hb)]
 rw[e2,wI ab ab]
theorem abN {z:Bool}{n:Nat}{s:kK}(h:s.2=true\/s.1.length<n):fP z n s=(if z=true then List.replicate n 0 else[],(s.1,true)):=by unfold fP;rw[if_pos h]
theorem abO {z:Bool}{n:Nat}{s:kK}(h:s.2=false)(h':n<=s.1.length):fP z n s=(s.1.take n,(s.1.drop n,false)):=by
 unfold fP;rw[if_neg (by rw[h];simp;omega)]
theorem IG {n0:Nat}{s:kK}(h:lV 281 w g n0 s)(hg:n0<=g)(n:Nat):au 144 #[aZ g,aa (n:Int)] w λ r w'=>
  ∃ v:Sl,r=.slice v.1 v.2.1 v.2.2/\bO w' v (fP false n s).1/\((fP false n s).1≠[]->∀ k,aH v k->k<n0)/\lV 281 w' g n0 (fP false n s).2/\Fr (only g) w w':=by
 obtain⟨u,hb,hu,hc,bI⟩:=h;have dP:=hu.len;refine c144 _ _ w _ ?_;unfold C144;have bad:s.2=true\/s.1.length<n->∀ w1,w1.heap[g]? = some (.cells #[.slice u.1 u.2.1 u.2.2,.bool true] 281 (0,0))->Fr (only g) w w1 ->
   ∃ v:Sl,(Value.slice none 0 0)=.slice v.1 v.2.1 v.2.2/\bO w1 v (fP false n s).1/\((fP false n s).1≠[]->∀ k,aH v k->k<n0)/\lV 281 w1 g n0 (fP false n s).2/\Fr (only g) w w1:=λ abP w1 aE f1=>by
  rw[abN abP];exact⟨(none,0,0),rfl,abL w1,(λ h=>(h rfl).elim),⟨u,aE,hu.yr f1 λ hn k hk t=>by have:=bI hn k hk;have:k=g:=t;omega,hc,bI⟩,f1⟩
 refine af.aw hb (x:=s.2) rfl ?_;refine ae.by (λ e=>?_) (λ e=>?_)
 ·exact aK.aw hb (by show 0+1<2;omega) rfl λ w1 aE f1 _=>bad (.inl e) w1 aE f1
 refine af.aw hb (x:=u) rfl ?_;refine ae.dec (λ rM=>?_) (λ hle=>?_)
 ·exact aK.aw hb (by show 0+1<2;omega) rfl λ w1 aE f1 _=>bad (.inr ab) w1 aE f1
 refine af.aw hb (x:=u) rfl ?_;refine bO.sub hu ab ab hc λ ha=>?_;refine af.aw hb (x:=u) rfl ?_;refine bO.my hu ab ab (kC _) hc λ v hv hvc dD Tj=>?_;refine aK.aw hb (by show 0+0<2;omega) rfl λ w1 aE f1 _=>?_;rw[iH] at ha hv ⊢;have e2:(s.1.drop n).take ((u.2.1:Int) - (n:Int)).toNat=s.1.drop n:=gV (by rw[kD];omega);rw[e2] at hv;rw[abO e ab];have Tk:s.1.take n≠[]->s.1≠[]:=λ h t=>h (by rw[t];simp);have Tl:s.1.drop n≠[]->s.1≠[]:=λ h t=>h (by rw[t];simp);refine⟨(u.1,n,u.2.2),rfl,ha.yr f1 λ hn k hk t=>by have:=bI (Tk hn) k hk;have:k=g:=t;omega,(λ hn k hk=>bI (Tk hn) k hk),⟨v,?_,hv.yr f1 λ hn k hk t=>by have:=bI (Tl hn) k (Tj k hk);have:k=g:=t;omega,hvc,λ hn k hk=>bI (Tl hn) k (Tj k hk)⟩,f1⟩;rw[aE,<- e];rfl
theorem Tn {n0:Nat}{s:kK}(h:lV 281 w g n0 s)(hg:n0<=g)(size:Nat)(hs:size<=2):au 183 #[aZ g,aa (size:Int)] w λ r w'=>
  r=.string (str (ix false size s).1)/\lV 281 w' g n0 (ix false size s).2/\Fr (only g) w w':=by
 refine c183 _ _ w _ ?_;unfold C183;refine an.of (IG h hg size) ?_;rintro _ w1 ⟨v,rfl,hv,_,h1,f1⟩;refine⟨v,rfl,?_⟩;have dD:=hv.len;have uO:(fP false size s).1.length<=2:=by
  unfold fP;split
  ·simp
  ·dsimp only;rw[ga];omega
 unfold ix;generalize fP false size s=x at *;have abQ:∀ i,i<=2->iq (x.1.take i)<65536:=λ i hi=>by
  have h1:=La (x.1.take i);have h2:256 ^ (x.1.take i).length<=256 ^ 2:=zH ar (by rw[ga];omega);have:(256:Nat) ^ 2=65536:=ar;omega
 refine cp.of (λ st w'=>∃ i:Nat,st.2.1=i/\i<=x.1.length/\st.1=(iq (x.1.take i):Int)/\w1=w') (λ st _=>(2 - st.2.1).toNat) ⟨0,rfl,by omega,rfl,rfl⟩ ?_;rintro _ ⟨m,i',_⟩ _ ⟨i,hi,Ei,hm,rfl⟩;dsimp only at hi hm ⊢;subst hi hm;refine ae.dec (λ bI=>?_) (λ gk=>?_)
 ·refine bO.at hv ab bI ?_
  refine⟨by omega,?_⟩;rw[iH,abM _ _ (abQ i ab),wI ab ab];refine⟨⟨i+1,by omega,by omega,?_,rfl⟩,by omega⟩;rw[Lc x.1 i ab]
 ·rw[gV ab]
  refine an.of (IG h1 hg (iq x.1)) ?_;rintro _ w2 ⟨u,rfl,hu,_,h2,f2⟩;refine⟨u,rfl,?_⟩;exact⟨_,w2,MB hu,rfl,h2,f1.trans f2⟩
theorem abR {n0:Nat}{s:kK}(h:lV 281 w g n0 s)(hg:n0<=g):au 181 #[aZ g] w λ r w'=>
  r=aa (lE false s).1/\lV 281 w' g n0 (lE false s).2/\Fr (only g) w w':=by
 refine c181 _ w _ ?_;unfold C181;refine an.of (IG h hg 8) ?_;rintro _ w1 ⟨v,rfl,hv,_,h1,f1⟩;refine⟨v,rfl,?_⟩;unfold lE;generalize fP false 8 s=x at *;refine an.of (HB hv) ?_;rintro _ _ ⟨rfl,rfl⟩;refine⟨((jS x.1).1,(jS x.1).2,()),rfl,?_⟩;obtain⟨u,hb,hu,hc,bI⟩:=h1;have kp:∀ w2,Fr (only g) w1 w2->bO w2 u x.2.1:=λ w2 f2=>hu.yr f2 λ hn k hk t=>by have:=bI hn k hk;have:k=g:=t;omega
 refine af.aw hb (x:=x.2.2) rfl ?_;refine ae.by (λ e=>?_) (λ e=>?_)
 ·refine aK.aw hb (by show 0+1<2;omega) rfl λ w2 ba f2 _=>?_
  exact⟨rfl,⟨u,by rw[ba,e];rfl,kp w2 f2,hc,bI⟩,f1.trans f2⟩
 ·refine aK.aw hb (by show 0+1<2;omega) rfl λ w2 ba f2 _=>?_
  exact⟨rfl,⟨u,by rw[ba,e];simp,kp w2 f2,hc,bI⟩,f1.trans f2⟩
theorem To (z:Bool)(size:Nat)(hs:size<=2)(s:kK):(ix z size s).1.length<=65535:=by
 have hb:iq (fP z size s).1<=65535:=by
  have uO:(fP z size s).1.length<=2:=by
   unfold fP;split
   ·dsimp only;split<;>simp<;>omega
   ·dsimp only;rw[ga];omega
  have h1:=La (fP z size s).1;have h2:256 ^ (fP z size s).1.length<=256 ^ 2:=zH ar uO;have:(256:Nat) ^ 2=65536:=ar;omega
 unfold ix;generalize(fP z size s).2=t;generalize iq (fP z size s).1=n at *;unfold fP;split
 ·dsimp only;split<;>simp;omega
 ·dsimp only;rw[ga];omega
theorem abS {n0:Nat}{s:kK}(h:lV 281 w g n0 s)(hg:n0<=g):au 182 #[aZ g] w λ r w'=>
  r=(wN false s).1.v/\lV 281 w' g n0 (wN false s).2/\Fr (only g) w w':=by
 refine c182 _ w _ ?_;unfold C182;refine an.of (Tn h hg 2 ar) ?_;rintro _ w1 ⟨rfl,h1,f1⟩;have hl:=To false 2 ar s;unfold wN;generalize ix false 2 s=x at *;refine⟨_,rfl,?_⟩;refine an.of (abH x.1 ab w1) ?_;rintro _ w2 ⟨rfl,f2⟩;refine⟨((qK x.1).1.v,(qK x.1).2.1,(qK x.1).2.2,()),rfl,?_⟩;obtain⟨u,hb,hu,hc,bI⟩:=h1.ag f2;have kp:∀ w3,Fr (only g) w2 w3->bO w3 u x.2.1:=λ w3 f3=>hu.yr f3 λ hn k hk t=>by have:=bI hn k hk;have:k=g:=t;omega
 refine af.aw hb (x:=x.2.2) rfl ?_;have f12:Fr (only g) w w2:=f1.et f2;refine ae.by (λ e=>?_) (λ e=>?_)
 ·refine aK.aw hb (by show 0+1<2;omega) rfl λ w3 bJ f3 _=>?_
  exact⟨rfl,⟨u,by rw[bJ,e];rfl,kp w3 f3,hc,bI⟩,f12.trans f3⟩
 ·refine aK.aw hb (by show 0+1<2;omega) rfl λ w3 bJ f3 _=>?_
  exact⟨rfl,⟨u,by rw[bJ,e];simp,kp w3 f3,hc,bI⟩,f12.trans f3⟩
def rN (m:bu):Obj:=.cells (CE m) 34 (0,0)
 where CE (m:bu):Array av:=#[aa m.1,.string (str m.2.1),.string (str m.2.2.1),.string (str m.2.2.2.1),.string (str m.2.2.2.2.1),aa m.2.2.2.2.2.1,aa m.2.2.2.2.2.2.1,m.2.2.2.2.2.2.2.v]
theorem MX {w1 w2:ah}(f1:Fr (only g) w w1)(f2:Fr (only b) w1 w2):Fr (λ k=>k=g\/k=b) w w2:=(f1.mono λ k _ t=>.inl t).trans (f2.mono λ k _ t=>.inr t)
theorem abT {n0:Nat}{x:kK×bu}(h:lV 281 w g n0 x.1)(hg:n0<=g)(hb:w.heap[b]? = some (rN x.2))(hn:n0<=b)(mM:b≠g)(c:UInt8)(hc:c=73\/c=78\/c=76\/c=67\/c=68\/c=86\/c=84):
  au 146 #[aZ g,aZ b,.int .i32 (fV c)] w λ r w'=>
   r=.tuple #[]/\lV 281 w' g n0 (jM false x c).1/\w'.heap[b]? = some (rN (jM false x c).2)/\Fr (λ k=>k=g\/k=b) w w':=by
 refine c146 _ _ _ w _ ?_;unfold C146;have hd:∀ (a:UInt8) (n:Int),fV a=n->c≠a->(fV c==n)=false:=λ a n ha aL=>by
  subst ha;unfold fV;have:c.toNat≠a.toNat:=λ t=>aL (UInt8.toNat_inj.1 t);simp;omega
 have num:∀ (o:Nat) (ho:o<8) (m':bu) (hm:((rN.CE x.2).setIfInBounds o (aa (lE false x.1).1))=rN.CE m') (hs:jM false x c=((lE false x.1).2,m')),
   ak 181 #[aZ g] w bN (λ(x1:Int) w2=>aK ((⟨b,0,none⟩:Addr).add o) (aa x1) w2 (λ w3=>(Value.tuple #[])=.tuple #[]/\lV 281 w3 g n0 (jM false x c).1/\w3.heap[b]? = some (rN (jM false x c).2)/\Fr (λ k=>k=g\/k=b) w w3)):=λ o ho m' hm hs=>by
  refine an.of (abR h hg) ?_;rintro _ w1 ⟨rfl,h1,f1⟩;refine⟨_,rfl,?_⟩;have aE:=f1.me hb mM;refine aK.aw aE (by show 0+o<8;omega) rfl λ w2 ba f2 _=>?_;rw[hs];refine⟨rfl,h1.ao f2 (λ t=>by have:g=b:=t;omega) (λ k t=>by have:k=b:=t;omega),?_,MX f1 f2⟩;rw[ba,eP,hm];rfl
 have gm:∀ (o:Nat) (ho:o<8) (m':bu) (hm:((rN.CE x.2).setIfInBounds o (.string (str (ix false 1 x.1).1)))=rN.CE m') (hs:jM false x c=((ix false 1 x.1).2,m')),
   ak 183 #[aZ g,aa 1] w eu (λ(x1:ay) w2=>aK ((⟨b,0,none⟩:Addr).add o) (.string x1) w2 (λ w3=>(Value.tuple #[])=.tuple #[]/\lV 281 w3 g n0 (jM false x c).1/\w3.heap[b]? = some (rN (jM false x c).2)/\Fr (λ k=>k=g\/k=b) w w3)):=λ o ho m' hm hs=>by
  refine an.of (Tn h hg 1 ar) ?_;rintro _ w1 ⟨rfl,h1,f1⟩;refine⟨_,rfl,?_⟩;have aE:=f1.me hb mM;refine aK.aw aE (by show 0+o<8;omega) rfl λ w2 ba f2 _=>?_;rw[hs];refine⟨rfl,h1.ao f2 (λ t=>by have:g=b:=t;omega) (λ k t=>by have:k=b:=t;omega),?_,MX f1 f2⟩;rw[ba,eP,hm];rfl
 rcases hc with rfl | rfl | rfl | rfl | rfl | rfl | rfl
 ·exact ae.f ar (ae.f ar (ae.f ar (ae.t ar (gm 1 ar _ rfl rfl))))
 ·exact ae.f ar (ae.f ar (ae.f ar (ae.f ar (ae.t ar (gm 2 ar _ rfl rfl)))))
 ·exact ae.f ar (ae.f ar (ae.f ar (ae.f ar (ae.f ar (ae.t ar (gm 3 ar _ rfl rfl))))))
 ·exact ae.f ar (ae.f ar (ae.f ar (ae.f ar (ae.f ar (ae.f ar (ae.t ar (gm 4 ar _ rfl rfl)))))))
 ·exact ae.t ar (num 5 ar _ rfl rfl)
 ·exact ae.f ar (ae.t ar (num 6 ar _ rfl rfl))
 ·refine ae.f ar (ae.f ar (ae.t ar ?_))
  refine an.of (abS h hg) ?_;rintro _ w1 ⟨rfl,h1,f1⟩;refine⟨_,rfl,?_⟩;have aE:=f1.me hb mM;refine⟨Tm.iK _,aG.one aE (by show 7<8;omega) (Tm.cU _) λ w2 ba f2 _=>?_⟩;refine⟨rfl,h1.ao f2 (λ t=>by have:g=b:=t;omega) (λ k t=>by have:k=b:=t;omega),?_,MX f1 f2⟩;rw[ba];rfl
def eT (m:bu):Prop:=m.2.1.length<=65535/\m.2.2.1.length<=65535/\m.2.2.2.1.length<=65535/\m.2.2.2.2.1.length<=65535/\bj m.2.2.2.2.2.2.2<=1000000
theorem abU (bs:ai):bj (qK bs).1<=1000000:=by
 unfold qK;split
 ·show bj .none<=_;decide
 split
 ·show bj .none<=_;decide
 ·rename_i h _
  exact Th (iG.1 h)
theorem abV (z:Bool)(x:kK×bu)(c:UInt8)(h:eT x.2):eT (jM z x c).2:=by
 obtain⟨h1,h2,h3,h4,h5⟩:=h;have ht:=To z 1 ar x.1;unfold jM
 repeat' split
 ·exact⟨h1,h2,h3,h4,h5⟩
 ·exact⟨h1,h2,h3,h4,h5⟩
 ·exact⟨h1,h2,h3,h4,abU _⟩
 ·exact⟨ht,h2,h3,h4,h5⟩
 ·exact⟨h1,ht,h3,h4,h5⟩
 ·exact⟨h1,h2,ht,h4,h5⟩
 ·exact⟨h1,h2,h3,ht,h5⟩
theorem Tp (z:Bool):∀ (l:ai) (x:kK×bu),eT x.2->eT (l.foldl (jM z) x).2
 | [],x,h=>h
 | c::l,x,h=>Tp z l _ (abV z x c h)
theorem MY (z:Bool)(bs:ai):eT (oC z bs).2:=Tp z _ _ ⟨by simp,by simp,by simp,by simp,by show bj .none<=_;decide⟩
theorem eT.e {m:bu}(h:eT m):tQ m.e:=by
 obtain⟨h1,h2,h3,h4,h5⟩:=h;exact⟨by show(str _).size<=_;rw[fS];omega,by show(str _).size<=_;rw[fS];omega,by show(str _).size<=_;rw[fS];omega,by show(str _).size<=_;rw[fS];omega⟩
theorem Az (t:Tm):tO t.v:=by cases t<;>first | (exact .inl rfl) | (exact .inr ⟨_,_,rfl⟩)
theorem Tq (m:bu)(h:eT m)(w:ah)(ht:TabW w):au 147 #[ke m.e] w λ r w'=>∃ v:Sl,r=.tuple #[.slice v.1 v.2.1 v.2.2,aa (dZ m).2]/\cT w' v (dZ m).1/\Fr none1 w w'/\∀ k,aH v k->w.heap.size<=k:=by
 have hl:=yj m.t;exact Lx m.e (Az m.t) h.e (bT m.t).1 ab (bT m.t).2 w λ _ w1 f=>H0 m.t h.2.2.2.2 w1 (ht.ag f)
theorem Ts (m:bu)(h:eT m):(dZ m).1.length<=10000000:=by
 have hl:=yj m.t;exact E3 m.e h.e _ ab _
theorem Tt (bs:ai):Go.strOfNums (bs.map λ b=>(b.toNat:Int))=str bs:=by
 unfold Go.strOfNums str
 congr 1
 rw[List.map_map]
 congr 1
 conv=>rhs;rw[<- List.map_id bs]
 refine BX λ b _=>?_;simp
theorem Tu (bs:ai):Lib.bytesOf (bs.map λ b=>(b.toNat:Int))=bs:=by
 unfold Lib.bytesOf;rw[List.map_map]
 conv=>rhs;rw[<- List.map_id bs]
 refine BX λ b _=>?_;simp
theorem MZ {v u:Sl}{cs:ai}(h:bO w v bs)(h':bO w u cs):au 133 #[.slice v.1 v.2.1 v.2.2,.slice u.1 u.2.1 u.2.2] w λ r w'=>r=.bool (bs==cs)/\w=w':=by
 refine(Tryz.bytes_Equal _ _ (bs.map λ b=>(b.toNat:Int)) (cs.map λ b=>(b.toNat:Int)) w (by rw[Tt];exact MB h) (by rw[Tt];exact MB h')).mono ?_;rintro e w' ⟨rfl,rfl⟩;exact⟨_,rfl,by rw[Tu,Tu],rfl⟩
theorem abW {c:UInt8}{k:Int}(h:c∈gJ k):c=73\/c=78\/c=76\/c=67\/c=68\/c=86\/c=84:=by
 have:=(List.mem_filter.1 h).1;simpa[tP] using this
theorem M0 {v:Sl}(h:bO w v bs)(hc:v.2.1<=v.2.2)(ht:TabW w):au 102 #[.slice v.1 v.2.1 v.2.2] w λ r w'=>
  r=.tuple #[ke (iN false bs).1.e,aa (iN false bs).2]/\Fr none1 w w':=by
 refine c102 v.1 v.2.1 v.2.2 w _ ?_;unfold C102;refine aC.of λ g1 w1 eG aE f1 ng=>aC.of λ g3 w2 pV bJ f2 iQ=>aC.of λ g5 w3 CF dN f3 sX=>?_;have CG:w3.heap[g5]? = some (.cells (kj bH.e).toArray 34 (0,0)):=dN;refine aG.aR (cs:=kj bH.e) (vs:=kj bH.e) CG rfl rfl λ w4 abX f4 wS=>?_;have f13:=(f1.trans f2).trans f3;have f14:Fr none1 w w4:=f13.fresh f4 (by have:=f13.size;omega);have abY:w4.heap[g3]? = _:=f4.ao (f3.ag bJ) (λ t=>by have:g3=g5:=t;omega);have IH:w4.heap[g1]? = some (.cells (kj bH.e).toArray 34 (0,0)):=f4.ao (f3.ag (f2.ag aE)) (λ t=>by have:g1=g5:=t;omega);have tk4:lV 281 w4 g3 w.heap.size (bs,false):=⟨v,abY,h.ag f14,hc,λ hn k hk=>h.MV hn hk⟩;refine an.of (IG tk4 ab 1) ?_;rintro _ w5 ⟨x8,rfl,hx,Tv,tk5,f5⟩;refine⟨x8,rfl,?_⟩;have abZ:w5.heap[g5]? = some (rN bH):=f5.me abX ab;have ab0:=f5.me IH ab;have f15:Fr none1 w w5:=f14.fresh f5 ab;have nU:(fP false 1 (bs,false)).1.length<=1:=by
  unfold fP;split
  ·simp
  ·dsimp only;rw[ga];omega
 have hM:oC false bs=(gJ (iq (fP false 1 (bs,false)).1:Int)).foldl (jM false) ((fP false 1 (bs,false)).2,((iq (fP false 1 (bs,false)).1:Int),[],[],[],[],0,0,.none)):=rfl;have rO:=MY false bs;have hP:iN false bs=if EX false bs=true then((oC false bs).2,0) else(bH,2):=rfl;have hO:EX false bs=(!(oC false bs).1.2&&((dZ (oC false bs).2).2==0&&((dZ (oC false bs).2).1==bs&&(!false||(oC false bs).1.1==[])))):=rfl;generalize iN false bs=P at *;generalize EX false bs=O at *;generalize oC false bs=M at *;generalize fP false 1 (bs,false)=x at *;have aim:=hx.len;refine cp.of (λ st w'=>∃ i:Nat,st.1=i/\i<=x.1.length/\w'.heap[g5]? = some (rN ((iq (x.1.take i):Int),[],[],[],[],0,0,.none))/\Fr (only g5) w5 w') (λ st _=>(1 - st.1).toNat) ⟨0,rfl,by omega,abZ,Fr.refl _ _⟩ ?_;rintro _ ⟨i',_⟩ w6 ⟨i,hi,jV,Ff,f6⟩;dsimp only at hi ⊢;subst hi;have Tw:bO w6 x8 x.1:=hx.yr f6 λ hn k hk t=>by have:=Tv hn k hk;have:k=g5:=t;omega
 have tk6:=tk5.ao f6 (λ t=>by have:g3=g5:=t;omega) (λ k t=>by have:k=g5:=t;omega);have II:=f6.me ab0 ab;refine ae.dec (λ bI=>?_) (λ gk=>?_)
 ·refine bO.at Tw ab bI ?_
  have hb:=(x.1.getD (Int.toNat (i:Int)) 0).toNat_lt;refine aK.aw Ff (by show 0+0<8;omega) rfl λ w7 CH f7 _=>?_;rw[wI ab ab] at CH;refine⟨⟨i+1,by rw[wI ab ab];omega,by omega,?_,f6.trans f7⟩,by rw[wI ab ab];omega⟩;have CI:i=0:=ab;subst CI;rw[CH,Lc x.1 0 ab];show some (Obj.cells _ _ _)=some (Obj.cells _ _ _);simp[rN.CE,iq]
 rw[gV ab] at Ff;clear hx Tw Tv;refine af.aw Ff (x:=(iq x.1:Int)) rfl ?_;refine an.of (Ra (iq x.1:Int) w6) ?_;rintro _ w7 ⟨fv,rfl,Ex,f7,ff⟩;refine⟨fv,rfl,?_⟩;have s5:=f15.size;have s6:=f6.size;have s7:=f7.size;have CH:=f7.ag Ff;have ab1:=f7.ag II;have M1:=tk6.ag f7;have f17:Fr none1 w w7:=(f15.fresh f6 ab).trans f7;have mq:=Ex.len;rw[eI] at mq;have HK:(gJ (iq x.1:Int)).length<=7:=by unfold gJ;exact ez (Ed _ _) ar
 have sC:∀ c∈gJ (iq x.1:Int),c=73\/c=78\/c=76\/c=67\/c=68\/c=86\/c=84:=λ c h=>abW h;generalize gJ (iq x.1:Int)=L at *;obtain⟨X,hX⟩:∃ X:kK×bu,X=(x.2,((iq x.1:Int),[],[],[],[],0,0,.none)):=⟨_,rfl⟩;rw[<- hX] at hM;have M1:lV 281 w7 g3 w.heap.size X.1:=by rw[hX];exact M1
 have CH:w7.heap[g5]? = some (rN X.2):=by rw[hX];exact CH
 refine cp.of (λ st w'=>∃ i:Nat,st.1=i/\i<=L.length/\lV 281 w' g3 w.heap.size ((L.take i).foldl (jM false) X).1/\w'.heap[g5]? = some (rN ((L.take i).foldl (jM false) X).2)/\Fr (λ k=>k=g3\/k=g5) w7 w') (λ st _=>(L.length - st.1).toNat) ⟨0,rfl,by omega,M1,CH,Fr.refl _ _⟩ ?_;rintro _ ⟨i',_⟩ w8 ⟨i,hi,jV,M3,IJ,f8⟩;dsimp only at hi ⊢;subst hi;have ab2:nW w8 fv (L.map fV):=aV.ao Ex f8 λ k hk t=>by have:=ff k hk;have h5:=cQ Ff;rcases t with t | t<;>omega
 refine ae.dec (λ bI=>?_) (λ gk=>?_)
 ·have LA:i<L.length:=ab
  refine nW.ld ab2 ab bI ?_;obtain⟨c,hc⟩:∃ c,L[i]? = some c:=⟨_,cV LA⟩;have LB:(L.map fV).getD (Int.toNat (i:Int)) 0=fV c:=by
   rw[iH,dB,ig,hc];rfl
  rw[LB];refine an.of (abT M3 ab IJ ab ab c (sC c (mI hc))) ?_;rintro _ w9 ⟨rfl,tk9,M4,f9⟩;refine⟨(),rfl,⟨i+1,by rw[wI ab ab];omega,by omega,?_,?_,f8.trans f9⟩,by rw[wI ab ab];omega⟩
  ·rw[oz,hc,sF];exact tk9
  ·rw[oz,hc,sF];exact M4
 rw[gV ab,<- hM] at M3 IJ;have f18:Fr none1 w w8:=f17.comp f8 λ k hk t=>by rcases t with t | t<;>omega
 have ab3:w8.heap[g1]? = _:=f8.ao ab1 (λ t=>by rcases t with t | t<;>omega)
 refine aF.aR (cks:=EK) (x:=M.2.e) IJ ?_;refine an.of (Tq M.2 rO w8 (ht.ag f18)) ?_;rintro _ w9 ⟨u,rfl,hu,f9,uf⟩;refine⟨(u,(dZ M.2).2,()),rfl,?_⟩;have IK:=f9.ag ab3;have M4:=f9.ag IJ;have f19:=f18.trans f9;have fail:O=false->∀ aX,aX.heap[g1]? = some (.cells (kj bH.e).toArray 34 (0,0))->Fr none1 w aX->aG ⟨g1,0,none⟩ (kj bH.e) aX (λ cN=>aF EK ⟨g1,0,none⟩ cN (λ(y:fU)=>(Value.tuple #[ke y,aa 2])=.tuple #[ke P.1.e,aa P.2]/\Fr none1 w cN)):=λ ho aX hb f10=>by
  rw[hP,ho];refine aG.aR (cs:=kj bH.e) (vs:=kj bH.e) hb rfl rfl λ bt ud f11 _=>aF.aR (cks:=EK) (x:=bH.e) ud ?_;exact⟨rfl,f10.fresh f11 ab⟩
 obtain⟨ru,hrb,hru,hrc,Fb⟩:=M3.ag f9;refine af.aw hrb (x:=M.1.2) rfl ?_;refine ae.by (λ e=>fail (by rw[hO,e];rfl) w9 IK f19) (λ e=>?_);dsimp only;refine ae.ne (λ aL=>fail (by rw[hO,e];simp[aL]) w9 IK f19) (λ he=>?_);refine an.of (MZ hu.rd (h.ag f19)) ?_;rintro _ _ ⟨rfl,rfl⟩;refine⟨_,rfl,ae.not (ae.by (λ eq=>?_) (λ ne=>fail (by rw[hO,ne];simp) w9 IK f19))⟩;have ho:O=true:=by rw[hO,e,he,eq];rfl
 rw[hP,ho];refine aF.aR (cks:=EK) (x:=M.2.e) M4 ?_;refine aG.aR (cs:=kj bH.e) (vs:=kj M.2.e) IK rfl (MI (Tm.cU _)) λ aX ab4 f10 _=>aF.aR (cks:=EK) (x:=M.2.e) ab4 ?_;exact⟨rfl,f19.fresh f10 ab⟩
namespace Vc
variable {P:Program}
abbrev CmV:=Int×Int×Int×Int×Int×ay×(aS×Nat×Nat)×(aS×Nat×Nat)×Unit
def cmL (c:CmV):List av:=[aa c.1,aa c.2.1,aa c.2.2.1,aa c.2.2.2.1,aa c.2.2.2.2.1,.string c.2.2.2.2.2.1,.slice c.2.2.2.2.2.2.1.1 c.2.2.2.2.2.2.1.2.1 c.2.2.2.2.2.2.1.2.2,.slice c.2.2.2.2.2.2.2.1.1 c.2.2.2.2.2.2.2.1.2.1 c.2.2.2.2.2.2.2.1.2.2]
def Tx (c:CmV):PlV:=(c.2.2.2.2.2.2.1,c.2.2.2.2.2.2.2.1,())
def IsCm (w:ah)(c:CmV):Prop:=IsPl w (Tx c)/\(Lit.int .i64 c.1).wf=true/\(Lit.int .i64 c.2.1).wf=true/\(Lit.int .i64 c.2.2.1).wf=true/\(Lit.int .i64 c.2.2.2.1).wf=true/\(Lit.int .i64 c.2.2.2.2.1).wf=true/\c.2.2.2.2.2.1.size<=maxLen
theorem open_cmd {H:Type}{enc:TypeId×av->H}{base:Nat}{held:Bool}{t ti ts tp t0 t1 e0 e1:TypeId}{f0 f1 f2 f3 f4 f5 f6 g0 g1:Field}{fuel:Nat}{cs:List av}{x:DataW H×List MemPlace}
  (ht:P.underlying t=some (.struct #[f0,f1,f2,f3,f4,f5,f6]))
  (q0:f0.type=ti/\f0.offset=0) (q1:f1.type=ti/\f1.offset=1) (q2:f2.type=ti/\f2.offset=2) (q3:f3.type=ti/\f3.offset=3) (q4:f4.type=ti/\f4.offset=4) (q5:f5.type=ts/\f5.offset=5) (q6:f6.type=tp/\f6.offset=6)
  (rv:P.underlying ti=some (.int .i64)) (lR:P.underlying ts=some .string) (htp:P.underlying tp=some (.struct #[g0,g1])) (Fg:g0.type=t0) (eG:g1.type=t1) (MG:g0.offset=0) (MH:g1.offset=1)
  (hc:P.cellsOf t=8) (AA:P.cellsOf ti=1) (hcs:P.cellsOf ts=1) (xK:P.cellsOf tp=2) (CC:P.cellsOf t0=1) (rJ:P.cellsOf t1=1)
  (h0:P.underlying t0=some (.slice e0)) (h1:P.underlying t1=some (.slice e1)) (k0:P.underlying e0=some (.int .i64)) (k1:P.underlying e1=some .string) (d0:P.cellsOf e0=1) (d1:P.cellsOf e1=1)
  (h:DataW.trod enc P w base (λ _=>true) held fuel t cs=some x):∃ c:CmV,cs=cmL c/\IsCm w c:=by
 obtain⟨xs,n,_,_,hl,hlen,hf⟩:=DataW.trod_struct ht h;rw[hc] at hl
 match xs,hlen with
 | [y0,y1,y2,y3,y4,y5,y6],_=>
  match cs,hl with
  | [c0,c1,c2,c3,c4,c5,c6,c7],_=>
   have a0:=hf 0 f0 rfl;have a1:=hf 1 f1 rfl;have a2:=hf 2 f2 rfl;have a3:=hf 3 f3 rfl;have a4:=hf 4 f4 rfl;have a5:=hf 5 f5 rfl;have a6:=hf 6 f6 rfl;rw[q0.1,q0.2,AA] at a0;rw[q1.1,q1.2,AA] at a1;rw[q2.1,q2.2,AA] at a2;rw[q3.1,q3.2,AA] at a3;rw[q4.1,q4.2,AA] at a4;rw[q5.1,q5.2,hcs] at a5;rw[q6.1,q6.2,xK] at a6;simp only[List.drop_zero,List.drop_succ_cons,List.take_succ_cons,List.take_zero,List.getElem?_cons_zero,List.getElem?_cons_succ] at a0 a1 a2 a3 a4 a5 a6;obtain⟨z0,e0,_,w0⟩:=DataW.trod_int rv a0;obtain⟨z1,e1,_,w1⟩:=DataW.trod_int rv a1;obtain⟨z2,e2,_,w2⟩:=DataW.trod_int rv a2;obtain⟨z3,e3,_,w3⟩:=DataW.trod_int rv a3;obtain⟨z4,e4,_,w4⟩:=DataW.trod_int rv a4;obtain⟨s5,e5,_,w5⟩:=DataW.trod_string lR a5;obtain⟨p,ep,hp⟩:=open_plan htp Fg eG MG MH xK CC rJ h0 h1 k0 k1 d0 d1 a6;simp only[List.cons.injEq,and_true] at e0 e1 e2 e3 e4 e5 ep;obtain⟨p1,p2⟩:=ep;subst e0;subst e1;subst e2;subst e3;subst e4;subst e5;subst p1;subst p2;exact⟨(z0,z1,z2,z3,z4,s5,p.1,p.2.1,()),rfl,hp,w0,w1,w2,w3,w4,w5⟩
end Vc
def CJ (w:ah)(S:bz)(x:ub):Prop:=∃ (e:fU) (t:Tm) (v:TV),x=CD e v/\e.2.2.2.2.2.2.2.1=t.v/\tQ e/\bj t<=2000/\vg t/\mR w S (ve t) v
structure lW (w wc:ah)(g1 g3 g5:Nat)(c:CmV):Prop where
 b1:wc.heap[g1]? = some (.cells (cmL c).toArray 60 (0,0))
 pl:IsPl w (Tx c)
 b3:∃ x:ub,wc.heap[g3]? = some (.cells (Aw x).toArray 54 (0,0))
 b5:∃ x:ub,wc.heap[g5]? = some (.cells (Aw x).toArray 54 (0,0))/\CJ wc (λ k=>w.heap.size<=k/\k<wc.heap.size/\k≠g3/\k≠g5) x
 fr:Fr none1 w wc
 lo:w.heap.size<=g1/\w.heap.size<=g3/\w.heap.size<=g5/\g1≠g3/\g1≠g5/\g3≠g5
theorem CJ.ao {S' T:bz}{x:ub}(h:CJ w S x)(f:Fr T w w')(hn:∀ k,S k->¬ T k)(hs:∀ k,S k->S' k):CJ w' S' x:=by
 obtain⟨e,t,v,h1,h2,h3,h4,h5,h6⟩:=h;exact⟨e,t,v,h1,h2,h3,h4,h5,mR.mono hs _ _ (mR.ao f hn _ _ h6)⟩
def Told (w:ah)(r:av)(w':ah):Prop:=∃ x:ub,r=SW x/\CJ w' (λ k=>w.heap.size<=k/\k<w'.heap.size) x/\Fr none1 w w'
theorem lW.fin {wc:ah}{g3 g5:Nat}{c:CmV}(h:lW w wc g1 g3 g5 c):
  aF Iz ⟨g5,0,none⟩ wc (λ(x:ub)=>aG ⟨g3,0,none⟩ (Aw x) wc (λ w2=>aF Iz ⟨g3,0,none⟩ w2 (λ(y:ub)=>Told w (SW y) w2))):=by
 obtain⟨x3,h3⟩:=h.b3;obtain⟨x5,h5,hf⟩:=h.b5;refine aF.aR (cks:=Iz) (x:=x5) h5 ?_;refine aG.aR (cs:=Aw x3) (vs:=Aw x5) h3 rfl rfl λ w2 ba f2 _=>aF.aR (cks:=Iz) (x:=x5) ba ?_;exact⟨x5,rfl,hf.ao f2 (λ k hk t=>hk.2.2.1 t) (λ k hk=>⟨hk.1,nS hk.2.1 f2.size⟩),h.fr.fresh f2 h.lo.2.1⟩
theorem lW.put {wc wd:ah}{g3 g5:Nat}{c:CmV}(h:lW w wc g1 g3 g5 c){x x':ub}(hx:wc.heap[g5]? = some (.cells (Aw x).toArray 54 (0,0)))(f:Fr (only g5) wc wd)(hb:wd.heap[g5]? = some (.cells (Aw x').toArray 54 (0,0)))
  (hf:CJ wc (λ k=>w.heap.size<=k/\k<wc.heap.size/\k≠g3/\k≠g5) x'):lW w wd g1 g3 g5 c:=by
 obtain⟨x3,h3⟩:=h.b3;obtain⟨l1,l2,l3,l4,l5,l6⟩:=h.lo;exact⟨f.ao h.b1 (λ t=>l5 t),h.pl,⟨x3,f.ao h3 (λ t=>l6 t)⟩,⟨x',hb,hf.ao f (λ k hk t=>hk.2.2.2 t) λ k hk=>⟨hk.1,nS hk.2.1 f.size,hk.2.2⟩⟩,h.fr.fresh f l3,h.lo⟩
theorem lW.s1 {wc:ah}{g3 g5:Nat}{c:CmV}(h:lW w wc g1 g3 g5 c)(s:ay)(hs:s.size<=1000000){K:ah->Prop}(k:∀ wd,lW w wd g1 g3 g5 c->Fr (only g5) wc wd->K wd):aK ((⟨g5,0,none⟩:Addr).add 1) (.string s) wc K:=by
 obtain⟨x5,h5,e,t,v,rfl,he,hz,hn,uc,hT⟩:=h.b5;exact aK.aw h5 (by show 0+1<11;omega) rfl λ wd hb f _=>k wd (h.put h5 (x':=CD (e.1,s,e.2.2) v) f hb ⟨(e.1,s,e.2.2),t,v,rfl,he,⟨hs,hz.2⟩,hn,uc,hT⟩) f
theorem lW.s2 {wc:ah}{g3 g5:Nat}{c:CmV}(h:lW w wc g1 g3 g5 c)(s:ay)(hs:s.size<=1000000){K:ah->Prop}(k:∀ wd,lW w wd g1 g3 g5 c->Fr (only g5) wc wd->K wd):aK ((⟨g5,0,none⟩:Addr).add 2) (.string s) wc K:=by
 obtain⟨x5,h5,e,t,v,rfl,he,hz,hn,uc,hT⟩:=h.b5;exact aK.aw h5 (by show 0+2<11;omega) rfl λ wd hb f _=>k wd (h.put h5 (x':=CD (e.1,e.2.1,s,e.2.2.2) v) f hb ⟨(e.1,e.2.1,s,e.2.2.2),t,v,rfl,he,⟨hz.1,hs,hz.2.2⟩,hn,uc,hT⟩) f
theorem lW.s3 {wc:ah}{g3 g5:Nat}{c:CmV}(h:lW w wc g1 g3 g5 c)(s:ay)(hs:s.size<=1000000){K:ah->Prop}(k:∀ wd,lW w wd g1 g3 g5 c->Fr (only g5) wc wd->K wd):aK ((⟨g5,0,none⟩:Addr).add 3) (.string s) wc K:=by
 obtain⟨x5,h5,e,t,v,rfl,he,hz,hn,uc,hT⟩:=h.b5;exact aK.aw h5 (by show 0+3<11;omega) rfl λ wd hb f _=>k wd (h.put h5 (x':=CD (e.1,e.2.1,e.2.2.1,s,e.2.2.2.2) v) f hb ⟨(e.1,e.2.1,e.2.2.1,s,e.2.2.2.2),t,v,rfl,he,⟨hz.1,hz.2.1,hs,hz.2.2.2⟩,hn,uc,hT⟩) f
theorem lW.n5 {wc:ah}{g3 g5:Nat}{c:CmV}(h:lW w wc g1 g3 g5 c)(n:Int){K:ah->Prop}(k:∀ wd,lW w wd g1 g3 g5 c->Fr (only g5) wc wd->K wd):aK ((⟨g5,0,none⟩:Addr).add 5) (aa n) wc K:=by
 obtain⟨x5,h5,e,t,v,rfl,he,hz,hn,uc,hT⟩:=h.b5;exact aK.aw h5 (by show 0+5<11;omega) rfl λ wd hb f _=>k wd (h.put h5 (x':=CD (e.1,e.2.1,e.2.2.1,e.2.2.2.1,e.2.2.2.2.1,n,e.2.2.2.2.2.2) v) f hb ⟨(e.1,e.2.1,e.2.2.1,e.2.2.2.1,e.2.2.2.2.1,n,e.2.2.2.2.2.2),t,v,rfl,he,hz,hn,uc,hT⟩) f
theorem lW.n6 {wc:ah}{g3 g5:Nat}{c:CmV}(h:lW w wc g1 g3 g5 c)(n:Int){K:ah->Prop}(k:∀ wd,lW w wd g1 g3 g5 c->Fr (only g5) wc wd->K wd):aK ((⟨g5,0,none⟩:Addr).add 6) (aa n) wc K:=by
 obtain⟨x5,h5,e,t,v,rfl,he,hz,hn,uc,hT⟩:=h.b5;exact aK.aw h5 (by show 0+6<11;omega) rfl λ wd hb f _=>k wd (h.put h5 (x':=CD (e.1,e.2.1,e.2.2.1,e.2.2.2.1,e.2.2.2.2.1,e.2.2.2.2.2.1,n,e.2.2.2.2.2.2.2) v) f hb ⟨(e.1,e.2.1,e.2.2.1,e.2.2.2.1,e.2.2.2.2.1,e.2.2.2.2.2.1,n,e.2.2.2.2.2.2.2),t,v,rfl,he,hz,hn,uc,hT⟩) f
theorem Ty {p:Addr}{m:Nat}:∀ (vs:List av) (w:ah) (i:Nat),tz w p (m+i) vs->tz w (p.add m) i vs
 | [],_,_,_=>trivial
 | v::vs,w,i,⟨h1,h2,h3,h4⟩=>⟨h1,by rw[add_add];exact h2,by rw[add_add];exact h3,by rw[add_add];exact Ty vs _ (i+1) h4⟩
theorem Tz {p:Addr}{m:Nat}:∀ (vs:List av) (w:ah) (i:Nat),setCells w (p.add m) i vs=setCells w p (m+i) vs
 | [],_,_=>rfl
 | v::vs,w,i=>by
  show setCells (w.setCell ((p.add m).add i) v) (p.add m) (i+1) vs=setCells (w.setCell (p.add (m+i)) v) p (m+i+1) vs;rw[add_add,Tz vs _ (i+1)];rfl
theorem lW.rs {wc:ah}{g3 g5:Nat}{c:CmV}(h:lW w wc g1 g3 g5 c){K:ay->Prop}(k:∀ x,K x):af .str ((⟨g1,0,none⟩:Addr).add 5) wc K:=af.aw h.b1 (x:=c.2.2.2.2.2.1) rfl (k _)
theorem CK {i:Nat}{K:Prop}(hS:S g)(k:K):aJ S ((⟨g,0,none⟩:Addr).add i) K:=⟨by rw[eN];exact hS,k⟩
theorem ab5 {x:Sl}{xs:ai}(hx:cT w x xs){y:Sl}{ys:ai}(hy:cT w y ys)(hl:xs.length+ys.length<=140737488355000){K:(aS×Nat×Nat)->ah->Prop}
  (k:∀ (u:Sl) w',cT w' u (xs++ys)->Fr (aH x) w w'->(∀ k,aH u k->aH x k\/w.heap.size<=k)->K u w') :
  aT (Builtin.append_ #[22,22] 22 #[.slice x.1 x.2.1 x.2.2,.slice y.1 y.2.1 y.2.2]) w aM (λ(u:aS×Nat×Nat) w'=>K u w'):=by
 obtain⟨u,w',hr,hu,f,uf⟩:=vS hx hy.rd hl;exact⟨u,w',hr,k u w' hu f uf⟩
def kM (z:Bool)(bs:ai):(bu×Bool)×Int:=
 if bs=[]\/1<bs.getD 0 0 then((bH,false),2) else if(iN z (bs.drop 1)).2≠0 then((bH,false),(iN z (bs.drop 1)).2) else(((iN z (bs.drop 1)).1,bs.getD 0 0==1),0)
abbrev qQ:List Ck:=[.int .i64,.str,.str,.str,.str,.int .i64,.int .i64,.raw,.bool]
def ue (e:fU)(r:Bool):List av:=[aa e.1,.string e.2.1,.string e.2.2.1,.string e.2.2.2.1,.string e.2.2.2.2.1,aa e.2.2.2.2.2.1,aa e.2.2.2.2.2.2.1,e.2.2.2.2.2.2.2.1,.bool r]
theorem M5 {e:fU}(r:Bool)(h:cG e.2.2.2.2.2.2.2.1=true):(ue e r).all cG=true:=by
 show(cG (aa _)&&(cG (.string _)&&(cG (.string _)&&(cG (.string _)&&(cG (.string _)&&(cG (aa _)&&(cG (aa _)&&(cG e.2.2.2.2.2.2.2.1&&(cG (.bool r)&&true)))))))))=true;rw[h];rfl
theorem ab6 {v:Sl}(h:bO w v bs)(hc:v.2.1<=v.2.2)(ht:TabW w):au 100 #[.slice v.1 v.2.1 v.2.2] w λ r w'=>
  r=.tuple #[MC (kM false bs).1.1.e (kM false bs).1.2,aa (kM false bs).2]/\Fr none1 w w':=by
 refine c100 v.1 v.2.1 v.2.2 w _ ?_;unfold C100;have hl:=h.len;refine aC.of λ g1 w1 eG aE f1 ng=>?_;have aE:w1.heap[g1]? = some (.cells (ue bH.e false).toArray 68 (0,0)):=aE;have fail:∀ (code:Int) (q:kM false bs=((bH,false),code)) (w2:ah),w2.heap[g1]? = some (.cells (ue bH.e false).toArray 68 (0,0))->Fr none1 w w2->aG ⟨g1,0,none⟩ (ue bH.e false) w2 (λ w3=>aF qQ ⟨g1,0,none⟩ w3 (λ(y:SK)=>(Value.tuple #[.agg #[aa y.1,.string y.2.1,.string y.2.2.1,.string y.2.2.2.1,.string y.2.2.2.2.1,aa y.2.2.2.2.2.1,aa y.2.2.2.2.2.2.1,y.2.2.2.2.2.2.2.1,.bool y.2.2.2.2.2.2.2.2.1],aa code])=.tuple #[MC (kM false bs).1.1.e (kM false bs).1.2,aa (kM false bs).2]/\Fr none1 w w3)):=λ code q w2 hb f2=>by
  rw[q];refine aG.aR (cs:=ue bH.e false) (vs:=ue bH.e false) hb rfl rfl λ w3 bJ f3 _=>aF.aR (cks:=qQ) (x:=od bH.e false) bJ ?_;exact⟨rfl,f2.fresh f3 ab⟩
 refine ae.eq (λ e=>?_) (λ e=>?_)
 ·have:bs=[]:=tH ab
  exact fail 2 (by unfold kM;rw[if_pos (.inl this)]) w1 aE f1
 have aL:bs≠[]:=λ t=>by subst t;exact e (by rw[hl];rfl)
 have hlp:0<bs.length:=by cases bs with
  | nil=>exact(aL rfl).elim
  | cons _ _=>simp
 refine bO.at (h.ag f1) (kC _) ab ?_;rw[show Int.toNat 0=0 by rfl];refine ae.dec (λ rM=>?_) (λ hle=>?_)
 ·exact fail 2 (by unfold kM;rw[if_pos (.inr (by rw[UInt8.lt_iff_toNat_lt];show 1<_;omega))]) w1 aE f1
 have K1:¬ 1<bs.getD 0 0:=λ t=>hle (by rw[UInt8.lt_iff_toNat_lt] at t;have:(1:UInt8).toNat=1:=rfl;omega);have hE:kM false bs=if(iN false (bs.drop 1)).2≠0 then((bH,false),(iN false (bs.drop 1)).2) else(((iN false (bs.drop 1)).1,bs.getD 0 0==1),0):=by
  unfold kM;rw[if_neg (λ t=>t.elim aL K1)]
 refine bO.my (h.ag f1) ab ab (kC _) hc λ u hu vh dP pU=>?_;have e2:(bs.drop (1:Int).toNat).take ((v.2.1:Int) - 1).toNat=bs.drop 1:=by
  rw[show(1:Int).toNat=1 by rfl];exact gV (by rw[kD];omega)
 rw[e2] at hu;refine an.of (M0 hu vh (ht.ag f1)) ?_;rintro _ w2 ⟨rfl,f2⟩;refine⟨((iN false (bs.drop 1)).1.e,(iN false (bs.drop 1)).2,()),rfl,?_⟩;generalize iN false (bs.drop 1)=P at *;have f12:=f1.trans f2;refine dO (zs:=kj bH.e) (vs:=kj P.1.e) rfl (MI (Tm.cU _)) λ g4 w4 hg4 df f4=>?_;have s2:=f2.size;have IH:=f4.ag (f2.ag aE);have f14:=f12.trans f4;refine ae.ne (λ hc=>?_) (λ hc=>?_)
 ·exact fail P.2 (by rw[hE,if_pos hc]) w4 IH f14
 refine aU.of λ w5 _ f5=>?_;refine aF.aR (cks:=EK) (x:=P.1.e) (f5.ag df) ?_;refine bO.at ((h.ag f14).ag f5) (kC _) ab ?_;rw[show Int.toNat 0=0 by rfl];have ab7:(((bs.getD 0 0).toNat:Int)==1)=(bs.getD 0 0==1):=by
  rw[xL];simp only[beq_iff_eq];exact⟨λ t=>UInt8.toNat_inj.1 (by have:(1:UInt8).toNat=1:=rfl;omega),λ t=>by rw[t];rfl⟩
 rw[ab7];refine aG.aR (cs:=ue bH.e false) (vs:=ue P.1.e (bs.getD 0 0==1)) (f5.ag IH) rfl (M5 _ (Tm.cU _)) λ w6 gM f6 _=>aF.aR (cks:=qQ) (x:=od P.1.e (bs.getD 0 0==1)) gM ?_;rw[hE,if_neg (λ t=>t hc)];exact⟨rfl,(f14.trans f5).fresh f6 ab⟩
namespace Vc
theorem cz.M6 {base:aS}{len:Nat}{i:Int}{size:Nat}{K:Addr->Prop}(hS:∀ a,base=some a->S a.block)(h:cz base len i size K):cz base len i size λ p=>aJ S p (K p):=by
 obtain⟨a,ha,h0,h1,k⟩:=h.out;exact⟨a,ha,h0,h1,⟨by rw[Qo];exact hS a ha,k⟩⟩
theorem az.same {K:Prop}(k:K):az S w w K:=az.of (Fr.refl _ _) k
end Vc
def C233 (p0:Int)(p1:Int)(w:ah)(K:aP):Prop:=
 mb (IntKind.u64.wrap ((BitVec.ofInt 64 (IntKind.u64.wrap p1) &&& BitVec.ofInt 64 63).toNat:Int)) (mb (IntKind.u64.wrap (64 - (IntKind.u64.wrap ((BitVec.ofInt 64 (IntKind.u64.wrap p1) &&& BitVec.ofInt 64 63).toNat:Int)))) (K (.int .u64 (IntKind.u64.wrap ((BitVec.ofInt 64 (IntKind.u64.wrap (p0 * 2 ^ (min (Int.toNat (IntKind.u64.wrap ((BitVec.ofInt 64 (IntKind.u64.wrap p1) &&& BitVec.ofInt 64 63).toNat:Int))) 64))) ||| BitVec.ofInt 64 (Int.fdiv p0 (2 ^ (min (Int.toNat (IntKind.u64.wrap (64 - (IntKind.u64.wrap ((BitVec.ofInt 64 (IntKind.u64.wrap p1) &&& BitVec.ofInt 64 63).toNat:Int))))) 64)))).toNat:Int))) w))
def pl233:aN:=.auto
theorem c233 (p0 p1 w K)(h:C233 p0 p1 w K):au 233 #[.int .u64 p0,aa p1] w K:=aQ Tryz.func233 (p:=pl233) aA h
def C205 (p0:Addr)(w:ah)(K:aP):Prop:=
 aU w (λ w1=>af (.int .u64) (p0.add 0) w1 (λ(x2:Int)=>af (.int .u64) (p0.add 1) w1 (λ(x3:Int)=>aK (p0.add 0) (.int .u64 (IntKind.u64.wrap (x2+x3))) w1 (λ w4=>aU w4 (λ w5=>bL (λ S6=>aJ S6 (p0.add 1) (af (.int .u64) (p0.add 1) w5 (λ(x7:Int)=>aJ S6 (p0.add 0) (af (.int .u64) (p0.add 0) w5 (λ(x8:Int)=>ak 233 #[.int .u64 x7,aa 13] w5 nh (λ(x9:Int) aX=>az S6 w5 aX (aK (p0.add 1) (.int .u64 (IntKind.u64.wrap ((BitVec.ofInt 64 x9 ^^^ BitVec.ofInt 64 x8).toNat:Int))) aX (λ bt=>af (.int .u64) (p0.add 0) bt (λ(cn:Int)=>ak 233 #[.int .u64 cn,aa 32] bt nh (λ(cA:Int) bY=>aK (p0.add 0) (.int .u64 cA) bY (λ cB=>aU cB (λ bV=>af (.int .u64) (p0.add 2) bV (λ(bZ:Int)=>af (.int .u64) (p0.add 3) bV (λ(cF:Int)=>aK (p0.add 2) (.int .u64 (IntKind.u64.wrap (bZ+cF))) bV (λ ct=>aU ct (λ bW=>bL (λ pW=>aJ pW (p0.add 3) (af (.int .u64) (p0.add 3) bW (λ(cW:Int)=>aJ pW (p0.add 2) (af (.int .u64) (p0.add 2) bW (λ(eB:Int)=>ak 233 #[.int .u64 cW,aa 16] bW nh (λ(dr:Int) eJ=>az pW bW eJ (aK (p0.add 3) (.int .u64 (IntKind.u64.wrap ((BitVec.ofInt 64 dr ^^^ BitVec.ofInt 64 eB).toNat:Int))) eJ (λ de=>aU de (λ gD=>af (.int .u64) (p0.add 0) gD (λ(ji:Int)=>af (.int .u64) (p0.add 3) gD (λ(eQ:Int)=>aK (p0.add 0) (.int .u64 (IntKind.u64.wrap (ji+eQ))) gD (λ cN=>aU cN (λ gZ=>bL (λ M7=>aJ M7 (p0.add 3) (af (.int .u64) (p0.add 3) gZ (λ(fk:Int)=>aJ M7 (p0.add 0) (af (.int .u64) (p0.add 0) gZ (λ(fD:Int)=>ak 233 #[.int .u64 fk,aa 21] gZ nh (λ(eY:Int) dW=>az M7 gZ dW (aK (p0.add 3) (.int .u64 (IntKind.u64.wrap ((BitVec.ofInt 64 eY ^^^ BitVec.ofInt 64 fD).toNat:Int))) dW (λ fI=>aU fI (λ jj=>af (.int .u64) (p0.add 2) jj (λ(iT:Int)=>af (.int .u64) (p0.add 1) jj (λ(mi:Int)=>aK (p0.add 2) (.int .u64 (IntKind.u64.wrap (iT+mi))) jj (λ oB=>aU oB (λ iI=>bL (λ M8=>aJ M8 (p0.add 1) (af (.int .u64) (p0.add 1) iI (λ(lP:Int)=>aJ M8 (p0.add 2) (af (.int .u64) (p0.add 2) iI (λ(kZ:Int)=>ak 233 #[.int .u64 lP,aa 17] iI nh (λ(nq:Int) jb=>az M8 iI jb (aK (p0.add 1) (.int .u64 (IntKind.u64.wrap ((BitVec.ofInt 64 nq ^^^ BitVec.ofInt 64 kZ).toNat:Int))) jb (λ jv=>af (.int .u64) (p0.add 2) jv (λ(iJ:Int)=>ak 233 #[.int .u64 iJ,aa 32] jv nh (λ(jU:Int) mO=>aK (p0.add 2) (.int .u64 jU) mO (λ jx=>K (.tuple #[]) jx))))))))))))))))))))))))))))))))))))))))))))))))))))))))))
def pl205:aN:=(.seq (.tail 11) (.seq (.held (.soft 0 (.soft 1 (.soft 2 (.soft 3 (.soft 4 (.soft 6 (.soft 7 (.soft 8 (.soft 9 (.pick 5 (.soft 10 (.soft 11 (.soft 12 (.last 13 .done)))) .stop))))))))))) (.seq .auto (.seq (.tail 11) (.seq (.held (.soft 0 (.soft 1 (.soft 2 (.soft 3 (.soft 4 (.soft 6 (.soft 7 (.soft 8 (.soft 9 (.pick 5 (.soft 10 (.soft 11 (.soft 12 (.last 13 .done)))) .stop))))))))))) (.seq (.tail 11) (.seq (.held (.soft 0 (.soft 1 (.soft 2 (.soft 3 (.soft 4 (.soft 6 (.soft 7 (.soft 8 (.soft 9 (.pick 5 (.soft 10 (.soft 11 (.soft 12 (.last 13 .done)))) .stop))))))))))) (.seq (.tail 11) (.seq (.held (.soft 0 (.soft 1 (.soft 2 (.soft 3 (.soft 4 (.soft 6 (.soft 7 (.soft 8 (.soft 9 (.pick 5 (.soft 10 (.soft 11 (.soft 12 (.last 13 .done)))) .stop))))))))))) .auto)))))))))
theorem c205 (p0 w K)(h:C205 p0 w K):au 205 #[aI p0] w K:=aQ Tryz.func205 (p:=pl205) aA h
def C165 (p0:Addr)(p1:Int)(w:ah)(K:aP):Prop:=
 cp (Int×Unit) (λ _ s1 w2 jh=>ae (decide (s1.1<p1))
 (ak 205 #[aI p0] w2 gR (λ(x4:Unit) w5=>jh (IntKind.i64.wrap (s1.1+1),()) w5))
 (K (.tuple #[]) w2))
 (0,()) w
def pl165:aN:=(.seq .auto (.block (.loop [(5,.one (.int .i64))] .auto)))
theorem c165 (p0 p1 w K)(h:C165 p0 p1 w K):au 165 #[aI p0,aa p1] w K:=aQ Tryz.func165 (p:=pl165) aA h
def C164 (p0:Addr)(p1:Int)(w:ah)(K:aP):Prop:=
 af (.int .u64) (p0.add 3) w (λ(x1:Int)=>aK (p0.add 3) (.int .u64 (IntKind.u64.wrap ((BitVec.ofInt 64 x1 ^^^ BitVec.ofInt 64 p1).toNat:Int))) w (λ w2=>ak 165 #[aI p0,aa 2] w2 gR (λ(x3:Unit) w4=>af (.int .u64) (p0.add 0) w4 (λ(x5:Int)=>aK (p0.add 0) (.int .u64 (IntKind.u64.wrap ((BitVec.ofInt 64 x5 ^^^ BitVec.ofInt 64 p1).toNat:Int))) w4 (λ w6=>K (.tuple #[]) w6)))))
def pl164:aN:=.auto
theorem c164 (p0 p1 w K)(h:C164 p0 p1 w K):au 164 #[aI p0,.int .u64 p1] w K:=aQ Tryz.func164 (p:=pl164) aA h
def C163 (p0:aS)(bh bC:Nat)(w:ah)(K:aP):Prop:=
 cp (Int×Int×Unit) (λ _ s1 w2 jh=>ae (decide (s1.2.1<(bh:Int)))
 (cz p0 bh s1.2.1 1 (λ a4=>af (.int .u8) a4 w2 (λ(x5:Int)=>mb (IntKind.i64.wrap (8 * s1.2.1)) (jh (IntKind.u64.wrap ((BitVec.ofInt 64 s1.1 ||| BitVec.ofInt 64 (IntKind.u64.wrap ((IntKind.u64.wrap x5) * 2 ^ (min (Int.toNat (IntKind.i64.wrap (8 * s1.2.1))) 64)))).toNat:Int),IntKind.i64.wrap (s1.2.1+1),()) w2))))
 (K (.int .u64 s1.1) w2))
 (0,0,()) w
def pl163:aN:=(.seq .auto (.seq .auto (.seq (.seq .auto (.block (.loop [(3,.one (.int .u64)),(8,.one (.int .i64))] .auto))) .auto)))
theorem c163 (p0 bh bC w K)(h:C163 p0 bh bC w K):au 163 #[.slice p0 bh bC] w K:=aQ Tryz.func163 (p:=pl163) aA h
def C130 (p0:List av)(p1:aS)(dk dR:Nat)(w:ah)(K:aP):Prop:=
 aC (.cells p0.toArray 25) w (λ g1 w2=>aU w2 (λ w3=>bL (λ S4=>gQ (some (ad g1)) 16 0 8 16 1 (λ a5 l6 c7=>gQ (some (ad g1)) 16 8 16 16 1 (λ a8 l9 c10=>ak 163 #[.slice a5 l6 c7] w3 nh (λ(bQ:Int) br=>az S4 w3 br (ak 163 #[.slice a8 l9 c10] br nh (λ(cA:Int) bY=>az S4 br bY (aC (.cells #[.int .u64 (IntKind.u64.wrap ((BitVec.ofInt 64 bQ ^^^ BitVec.ofInt 64 8317987319222330741).toNat:Int)),.int .u64 (IntKind.u64.wrap ((BitVec.ofInt 64 cA ^^^ BitVec.ofInt 64 7237128888997146477).toNat:Int)),.int .u64 (IntKind.u64.wrap ((BitVec.ofInt 64 bQ ^^^ BitVec.ofInt 64 7816392313619706465).toNat:Int)),.int .u64 (IntKind.u64.wrap ((BitVec.ofInt 64 cA ^^^ BitVec.ofInt 64 8387220255154660723).toNat:Int))] 308) bY (λ g15 bV=>y9 8 (cp (Int×Unit) (λ _ AB b9 ab8=>ae (decide (AB.1<(IntKind.i64.wrap ((IntKind.i64.wrap (Int.tdiv (dk:Int) 8)) * 8))))
 (gQ p1 dR AB.1 (IntKind.i64.wrap (AB.1+8)) dR 1 (λ a20 M9 c22=>ak 163 #[.slice a20 M9 c22] b9 nh (λ(eB:Int) cZ=>ak 164 #[.pointer (some (ad g15)),.int .u64 eB] cZ gR (λ(cR:Unit) de=>ab8 (IntKind.i64.wrap (AB.1+8),()) de))))
 (gQ p1 dR (IntKind.i64.wrap ((IntKind.i64.wrap (Int.tdiv (dk:Int) 8)) * 8)) dk dR 1 (λ E8 E9 c29=>ak 163 #[.slice E8 E9 c29] b9 nh (λ(gB:Int) gZ=>mb 56 (ak 164 #[.pointer (some (ad g15)),.int .u64 (IntKind.u64.wrap ((BitVec.ofInt 64 gB ||| BitVec.ofInt 64 (IntKind.u64.wrap ((IntKind.u64.wrap (dk:Int)) * 2 ^ (min (Int.toNat 56) 64)))).toNat:Int))] gZ gR (λ(gx:Unit) fT=>af (.int .u64) ((ad g15).add 2) fT (λ(fD:Int)=>aK ((ad g15).add 2) (.int .u64 (IntKind.u64.wrap ((BitVec.ofInt 64 fD ^^^ BitVec.ofInt 64 255).toNat:Int))) fT (λ gh=>ak 165 #[.pointer (some (ad g15)),aa 4] gh gR (λ(gW:Unit) fI=>aU fI (λ jj=>af (.int .u64) ((ad g15).add 0) jj (λ(iT:Int)=>af (.int .u64) ((ad g15).add 1) jj (λ(mi:Int)=>af (.int .u64) ((ad g15).add 2) jj (λ(gC:Int)=>af (.int .u64) ((ad g15).add 3) jj (λ(kY:Int)=>K (.int .u64 (IntKind.u64.wrap ((BitVec.ofInt 64 (IntKind.u64.wrap ((BitVec.ofInt 64 (IntKind.u64.wrap ((BitVec.ofInt 64 iT ^^^ BitVec.ofInt 64 mi).toNat:Int)) ^^^ BitVec.ofInt 64 gC).toNat:Int)) ^^^ BitVec.ofInt 64 kY).toNat:Int))) jj))))))))))))))
 (0,()) bV)))))))))))
def pl130:aN:=(.seq .auto (.seq (.held (.soft 0 (.soft 2 (.pick 1 (.pick 3 (.soft 4 (.soft 5 .done)) .stop) .stop)))) (.seq .auto (.seq .auto (.seq (.seq .auto (.block (.loop [(9,.one (.int .i64))] .auto))) (.seq .auto (.seq .auto (.seq .auto (.seq .still .auto)))))))))
theorem c130 (p0 p1 dk dR w K)(h:C130 p0 p1 dk dR w K):au 130 #[.agg p0.toArray,.slice p1 dk dR] w K:=aQ Tryz.func130 (p:=pl130) aA h
def C129 (p0:Int)(w:ah)(K:aP):Prop:=
 aT (Instr.makeSlice 22 (aa 8) (aa 8)) w aM (λ(x1:aB) w2=>cp (Int×Unit) (λ _ s3 w4 nT=>ae (decide (s3.1<(x1.2.1:Int)))
 (mb (IntKind.i64.wrap (8 * s3.1)) (cz x1.1 x1.2.1 s3.1 1 (λ a6=>aK a6 (.int .u8 (IntKind.u8.wrap (Int.fdiv p0 (2 ^ (min (Int.toNat (IntKind.i64.wrap (8 * s3.1))) 64))))) w4 (λ w7=>nT (IntKind.i64.wrap (s3.1+1),()) w7))))
 (K (aO x1) w4))
 (0,()) w2)
def pl129:aN:=(.seq .auto (.seq .auto (.seq (.seq .auto (.block (.loop [(8,.one (.int .i64))] .auto))) .auto)))
theorem c129 (p0 w K)(h:C129 p0 w K):au 129 #[.int .u64 p0] w K:=aQ Tryz.func129 (p:=pl129) aA h
def C167 (p0:aS)(bh bC:Nat)(w:ah)(K:aP):Prop:=
 ae ((bh:Int) != 8)
 (K (.tuple #[.int .u64 0,.bool false]) w)
 (ak 163 #[.slice p0 bh bC] w nh (λ(x1:Int) w2=>K (.tuple #[.int .u64 x1,.bool true]) w2))
def pl167:aN:=.auto
theorem c167 (p0 bh bC w K)(h:C167 p0 bh bC w K):au 167 #[.slice p0 bh bC] w K:=aQ Tryz.func167 (p:=pl167) aA h
def C128 (p0:aS)(bh bC:Nat)(p1:aS)(dk dR:Nat)(w:ah)(K:aP):Prop:=
 ak 133 #[.slice p0 bh bC,.slice p1 dk dR] w bK (λ(x1:Bool) w2=>K (.bool x1) w2)
def pl128:aN:=.auto
theorem c128 (p0 bh bC p1 dk dR w K)(h:C128 p0 bh bC p1 dk dR w K):au 128 #[.slice p0 bh bC,.slice p1 dk dR] w K:=aQ Tryz.func128 (p:=pl128) aA h
namespace Vc
theorem fL.of {n:Nat}{cs:List av}{fr:Nat×Nat}(hb:w.heap[b]? = some (.cells cs.toArray T fr))(hn:cs.length=n){K:List av->Prop}(k:K cs):fL n ⟨b,0,none⟩ w K:=
 ⟨cs,hn,qt hb _ 0 λ j _=>by simp,k⟩
end Vc
def IL (s:oc):Array av:=#[.int .u64 s.1,.int .u64 s.2.1,.int .u64 s.2.2.1,.int .u64 s.2.2.2]
def ko (w:ah)(b:Nat)(s:oc):Prop:=w.heap[b]? = some (.cells (IL s) 308 (0,0))
theorem ab9 (x k:Int)(hk:k=13\/k=16\/k=17\/k=21\/k=32)(w:ah):au 233 #[.int .u64 x,aa k] w λ r w'=>r=.int .u64 (iX x k.toNat)/\w=w':=by
 refine c233 x k w _ ?_;unfold C233 iX;have e1:IntKind.u64.wrap ((BitVec.ofInt 64 (IntKind.u64.wrap k) &&& BitVec.ofInt 64 63).toNat:Int)=k:=by rcases hk with rfl | rfl | rfl | rfl | rfl<;>decide
 have e2:IntKind.u64.wrap (64 - k)=64 - k:=by rcases hk with rfl | rfl | rfl | rfl | rfl<;>decide
 have e3:Int.toNat (64 - k)=64 - k.toNat:=by rcases hk with rfl | rfl | rfl | rfl | rfl<;>decide
 rw[e1,e2,e3];exact⟨by rcases hk with rfl | rfl | rfl | rfl | rfl<;>decide,by rcases hk with rfl | rfl | rfl | rfl | rfl<;>decide,rfl,rfl⟩
theorem CM (x k:Int)(hk:k=13\/k=16\/k=17\/k=21\/k=32)(w:ah){K:Int->ah->Prop}(h:K (iX x k.toNat) w):ak 233 #[.int .u64 x,aa k] w nh (λ(y:Int) w'=>K y w'):=by
 refine an.of (ab9 x k hk w) ?_;rintro _ _ ⟨rfl,rfl⟩;exact⟨_,rfl,h⟩
theorem ko.ld {s:oc}(h:ko w b s){o:Nat}{x:Int}(hx:(IL s)[o]? = some (.int .u64 x)){K:Int->Prop}(k:K x):af (.int .u64) ((⟨b,0,none⟩:Addr).add o) w K:=af.aw h (x:=x) (by rw[eP];exact hx) k
theorem ko.st {s s':oc}(h:ko w b s){o:Nat}{x:Int}(ho:o<4)(hs:(IL s).setIfInBounds o (.int .u64 x)=IL s'){K:ah->Prop}(k:∀ w1,ko w1 b s'->Fr (only b) w w1->K w1):aK ((⟨b,0,none⟩:Addr).add o) (.int .u64 x) w K:=
 aK.aw h (by show 0+o<4;omega) rfl λ w1 hb f _=>k w1 (by unfold ko;rw[hb,eP,hs]) f
theorem ko.ag {s:oc}(h:ko w b s)(f:Fr none1 w w'):ko w' b s:=f.ag h
theorem aca {s:oc}(h:ko w b s):au 205 #[aZ b] w λ r w'=>r=.tuple #[]/\ko w' b (Mx s)/\Fr (only b) w w':=by
 refine c205 _ w _ ?_;unfold C205;obtain⟨a0,a1,a2,a3⟩:=s;refine aU.of λ w1 _ f1=>?_;have h:=h.ag f1;refine h.ld rfl (h.ld rfl (h.st (s':=(gA a0 a1,a1,a2,a3)) ar rfl λ w2 h f2=>?_));have F:=(Fr.fN f1 f2);refine aU.of λ w3 _ f3=>bL.all (aJ.all (ko.ld (h.ag f3) rfl (aJ.all (ko.ld (h.ag f3) rfl ?_))));have h:=h.ag f3;have F:=F.et f3;refine CM _ 13 ar _ (az.same (h.st (s':=(gA a0 a1,fW (iX a1 13) (gA a0 a1),a2,a3)) ar rfl λ w4 h f4=>?_));have F:=F.trans f4;refine h.ld rfl (CM _ 32 ar _ (h.st (s':=(iX (gA a0 a1) 32,fW (iX a1 13) (gA a0 a1),a2,a3)) ar rfl λ w5 h f5=>?_));have F:=F.trans f5;have e:Mx (a0,a1,a2,a3)=(gA (iX (gA a0 a1) 32) (fW (iX a3 16) (gA a2 a3)),fW (iX (fW (iX a1 13) (gA a0 a1)) 17) (gA (gA a2 a3) (fW (iX a1 13) (gA a0 a1))),iX (gA (gA a2 a3) (fW (iX a1 13) (gA a0 a1))) 32,fW (iX (fW (iX a3 16) (gA a2 a3)) 21) (gA (iX (gA a0 a1) 32) (fW (iX a3 16) (gA a2 a3)))):=rfl;rw[e];generalize fW (iX a1 13) (gA a0 a1)=b1 at *;generalize iX (gA a0 a1) 32=b0 at *;refine aU.of λ w6 _ f6=>?_;have h:=h.ag f6;have F:=F.et f6;refine h.ld rfl (h.ld rfl (h.st (s':=(b0,b1,gA a2 a3,a3)) ar rfl λ w7 h f7=>?_));have F:=F.trans f7;refine aU.of λ w8 _ f8=>bL.all (aJ.all (ko.ld (h.ag f8) rfl (aJ.all (ko.ld (h.ag f8) rfl ?_))));have h:=h.ag f8;have F:=F.et f8;refine CM _ 16 ar _ (az.same (h.st (s':=(b0,b1,gA a2 a3,fW (iX a3 16) (gA a2 a3))) ar rfl λ w9 h f9=>?_));have F:=F.trans f9;generalize fW (iX a3 16) (gA a2 a3)=b3 at *;generalize gA a2 a3=b2 at *;refine aU.of λ aX _ f10=>?_;have h:=h.ag f10;have F:=F.et f10;refine h.ld rfl (h.ld rfl (h.st (s':=(gA b0 b3,b1,b2,b3)) ar rfl λ bt h f11=>?_));have F:=F.trans f11;refine aU.of λ br _ f12=>bL.all (aJ.all (ko.ld (h.ag f12) rfl (aJ.all (ko.ld (h.ag f12) rfl ?_))));have h:=h.ag f12;have F:=F.et f12;refine CM _ 21 ar _ (az.same (h.st (s':=(gA b0 b3,b1,b2,fW (iX b3 21) (gA b0 b3))) ar rfl λ bM h f13=>?_));have F:=F.trans f13;generalize fW (iX b3 21) (gA b0 b3)=c3 at *;generalize gA b0 b3=c0 at *;refine aU.of λ bY _ f14=>?_;have h:=h.ag f14;have F:=F.et f14;refine h.ld rfl (h.ld rfl (h.st (s':=(c0,b1,gA b2 b1,c3)) ar rfl λ cB h f15=>?_));have F:=F.trans f15;refine aU.of λ bV _ f16=>bL.all (aJ.all (ko.ld (h.ag f16) rfl (aJ.all (ko.ld (h.ag f16) rfl ?_))));have h:=h.ag f16;have F:=F.et f16;refine CM _ 17 ar _ (az.same (h.st (s':=(c0,fW (iX b1 17) (gA b2 b1),gA b2 b1,c3)) ar rfl λ da h f17=>?_));have F:=F.trans f17;refine h.ld rfl (CM _ 32 ar _ (h.st (s':=(c0,fW (iX b1 17) (gA b2 b1),iX (gA b2 b1) 32,c3)) ar rfl λ b9 h f18=>?_));exact⟨rfl,h,F.trans f18⟩
theorem TA {s:oc}(h:ko w b s)(n:Nat)(hn:n<=100):au 165 #[aZ b,aa (n:Int)] w λ r w'=>r=.tuple #[]/\ko w' b (ua n s)/\Fr (only b) w w':=by
 refine c165 _ _ w _ ?_;unfold C165;refine cp.of (λ st w'=>∃ i:Nat,st.1=i/\i<=n/\ko w' b (ua i s)/\Fr (only b) w w') (λ st _=>(n - st.1).toNat) ⟨0,rfl,by omega,h,Fr.refl _ _⟩ ?_;rintro _ ⟨i',_⟩ w1 ⟨i,hi,na,h1,f1⟩;dsimp only at hi ⊢;subst hi;refine ae.dec (λ bI=>?_) (λ gk=>?_)
 ·refine an.of (aca h1) ?_
  rintro _ w2 ⟨rfl,h2,f2⟩;refine⟨(),rfl,?_⟩;rw[wI ab ab];exact⟨⟨i+1,by omega,by omega,h2,f1.trans f2⟩,by omega⟩
 ·obtain rfl:i=n:=ab
  exact⟨rfl,h1,f1⟩
theorem TC {s:oc}(h:ko w b s)(m:Int):au 164 #[aZ b,.int .u64 m] w λ r w'=>r=.tuple #[]/\ko w' b (E1 m s)/\Fr (only b) w w':=by
 refine c164 _ _ w _ ?_;unfold C164 E1;obtain⟨a0,a1,a2,a3⟩:=s;refine h.ld rfl (h.st (s':=(a0,a1,a2,fW a3 m)) ar rfl λ w1 h1 f1=>?_);refine an.of (TA h1 2 ar) ?_;rintro _ w2 ⟨rfl,h2,f2⟩;refine⟨(),rfl,?_⟩;dsimp only;generalize ua 2 (a0,a1,a2,fW a3 m)=t at *;obtain⟨t0,t1,t2,t3⟩:=t;refine h2.ld rfl (h2.st (s':=(fW t0 m,t1,t2,t3)) ar rfl λ w3 h3 f3=>?_);exact⟨rfl,h3,(f1.trans f2).trans f3⟩
theorem Fh {v:Sl}(h:bO w v bs)(hl:bs.length<=8):au 163 #[.slice v.1 v.2.1 v.2.2] w λ r w'=>r=.int .u64 (jz bs:Int)/\w=w':=by
 refine c163 v.1 v.2.1 v.2.2 w _ ?_;unfold C163;have dD:=h.len;refine cp.of (λ s w'=>∃ i:Nat,s.2.1=i/\i<=bs.length/\s.1=(jz (bs.take i):Int)/\w=w') (λ s _=>(bs.length - s.2.1).toNat) ⟨0,rfl,by omega,rfl,rfl⟩ ?_;rintro _ ⟨m,i',_⟩ _ ⟨i,hi,jV,hm,rfl⟩;dsimp only at hi hm ⊢;subst hi hm;refine ae.dec (λ bI=>?_) (λ gk=>?_)
 ·refine bO.at h ab bI ?_
  rw[wI (x:=8 * (i:Int)) ab ab,wI (x:=(i:Int)+1) ab ab];refine⟨by omega,⟨i+1,by omega,by omega,?_,rfl⟩,by omega⟩;have Ei:i<8:=ab;have hb:=(bs.getD i 0).toNat_lt;have AD:=Iw (bs.take i);rw[ga,Nat.min_eq_left ab] at AD;have hp:256 ^ i=2 ^ (8 * i):=by rw[show(256:Nat)=2 ^ 8 by decide,<- Nat.pow_mul]
  have Na:256 ^ i<=72057594037927936:=by
   have:(72057594037927936:Nat)=256 ^ 7:=ar;rw[this];exact zH ar ab
  have pX:256 ^ i * (bs.getD i 0).toNat<18446744073709551616:=by
   have h1:256 ^ i * (bs.getD i 0).toNat<=256 ^ i * 255:=Nat.mul_le_mul_left _ ab;have h2:256 ^ i * 255<=72057594037927936 * 255:=Nat.mul_le_mul_right _ Na;omega
  rw[iH,abf bs i ab,BS (bs.getD i 0).toNat,oA (show(bs.getD i 0).toNat<18446744073709551616 by omega),show Int.toNat (8 * (i:Int))=8 * i by omega,D7 _ (8 * i) ab,
   <- hp,Nat.mul_comm (bs.getD i 0).toNat,oA pX,D8 _ _ ab pX]
  congr 1
  rw[hp,Nat.mul_comm,<- BZ,Nat.or_comm,<- HA (by rw[<- hp];exact AD),BZ];omega
 ·rw[gV ab];exact⟨rfl,rfl⟩
def dh (kb:ai):List av:=kb.map bc
theorem acb {fr:Nat×Nat}(hb:w.heap[g]? = some (.cells (dh kb).toArray T fr))(hk:kb.length=16):bO w (some ⟨g,0,none⟩,16,16) kb:=by
 refine⟨by simp[hk],(λ t=>nomatch t),λ a ha=>?_⟩;injection ha with ha
 subst ha;exact qt hb _ 0 λ j _=>by simp[dh]
theorem acd (hk:kb.length=16)(h:bO w (some ⟨g,0,none⟩,16,16) kb){K:aS->Nat->Nat->Prop}(k:bO w (some ⟨g,0,none⟩,8,16) (kb.take 8)->K (some ⟨g,0,none⟩) 8 16):
  gQ (some ⟨g,0,none⟩) 16 0 8 16 1 K:=by
 refine⟨by decide,by decide,by decide,by decide,?_⟩;have e:(if(16:Int)=0 then some (⟨g,0,none⟩:Addr) else(some (⟨g,0,none⟩:Addr)).map (·.add ((0:Int).toNat * 1)))=some ⟨g,0,none⟩:=by
  rw[if_neg ar,uS,eN];rfl
 rw[e];refine k ⟨by simp[hk],(λ t=>nomatch t),λ a ha=>?_⟩;rw[uR];exact BQ _ 0 8 (h.2.2 a ha)
theorem ace (hk:kb.length=16)(h:bO w (some ⟨g,0,none⟩,16,16) kb){K:aS->Nat->Nat->Prop}(k:bO w (some ⟨g,8,none⟩,8,8) (kb.drop 8)->K (some ⟨g,8,none⟩) 8 8):
  gQ (some ⟨g,0,none⟩) 16 8 16 16 1 K:=by
 refine⟨by decide,by decide,by decide,by decide,?_⟩;have e:(if(16:Int)=8 then some (⟨g,0,none⟩:Addr) else(some (⟨g,0,none⟩:Addr)).map (·.add ((8:Int).toNat * 1)))=some ⟨g,8,none⟩:=by
  rw[if_neg ar,uS,eN];rfl
 rw[e];refine k ⟨by simp[hk],(λ t=>nomatch t),λ a ha=>?_⟩;injection ha with ha
 subst ha;have h8:=E4 8 _ 0 (h.2.2 ⟨g,0,none⟩ rfl);have:=CA (m:=8) _ 0 h8;rw[eN,eP] at this;rw[List.map_drop];exact this
theorem Nb {v:Sl}(hk:kb.length=16)(h:bO w v bs)(hc:v.2.1<=v.2.2)(hl:bs.length<=140737488355300):au 130 #[.agg (dh kb).toArray,.slice v.1 v.2.1 v.2.2] w λ r w'=>r=.int .u64 (qN kb bs)/\Fr none1 w w':=by
 refine c130 (dh kb) v.1 v.2.1 v.2.2 w _ ?_;unfold C130;have dD:=h.len;refine aC.of λ g1 w1 eG aE f1 _=>aU.of λ w2 _ f2=>bL.all ?_;have f12:=f1.trans f2;have hK:=acb (f2.ag aE) hk;refine acd hk hK λ hA=>ace hk hK λ hu=>?_;refine an.of (Fh (v:=(some ⟨g1,0,none⟩,8,16)) hA (by rw[ga];omega)) ?_;rintro _ _ ⟨rfl,rfl⟩;refine⟨_,rfl,az.same ?_⟩;refine an.of (Fh (v:=(some ⟨g1,8,none⟩,8,8)) hu (by rw[kD];omega)) ?_;rintro _ _ ⟨rfl,rfl⟩;refine⟨_,rfl,az.same ?_⟩;refine aC.of λ b w3 hb bJ f3 _=>⟨by decide,?_⟩;have S3:ko w3 b (My kb):=bJ;have f13:=f12.trans f3;have hdv:((v.2.1:Int).tdiv 8)=((bs.length / 8:Nat):Int):=by rw[Int.tdiv_eq_ediv_of_nonneg ab];omega
 rw[hdv,wI (x:=((bs.length / 8:Nat):Int)) ab ab,wI (x:=((bs.length / 8:Nat):Int) * 8) ab ab];unfold qN;generalize My kb=s0 at *;have yw:=f13.size;refine cp.of (λ st w'=>∃ i:Nat,st.1=8 * (i:Int)/\i<=bs.length / 8/\ko w' b (It bs s0 i)/\Fr (only b) w3 w') (λ st _=>(8 * (bs.length / 8:Nat) - st.1).toNat) ⟨0,rfl,by omega,S3,Fr.refl _ _⟩ ?_;rintro _ ⟨i',_⟩ w4 ⟨i,hi,jV,S4,f4⟩;dsimp only at hi ⊢;subst hi;have iQ:=f12.size;have h4:bO w4 v bs:=(h.ag f13).yr f4 λ hn k hk t=>by have:=h.MV hn hk;have:k=b:=t;omega
 refine ae.dec (λ bI=>?_) (λ gk=>?_)
 ·rw[wI (x:=8 * (i:Int)+8) ab ab]
  refine bO.my h4 ab ab ab hc λ u hu _ _ _=>?_;rw[show(8 * (i:Int)).toNat=8 * i by omega,show(8 * (i:Int)+8 - 8 * (i:Int)).toNat=8 by omega] at hu;refine an.of (Fh hu (by rw[ga];omega)) ?_;rintro _ _ ⟨rfl,rfl⟩;refine⟨_,rfl,?_⟩;refine an.of (TC S4 _) ?_;rintro _ w5 ⟨rfl,S5,f5⟩;exact⟨(),rfl,⟨i+1,by omega,by omega,S5,f4.trans f5⟩,by omega⟩
 ·obtain rfl:i=bs.length / 8:=ab
  refine bO.my h4 ab ab (kC _) hc λ u hu _ _ _=>?_;rw[show(((bs.length / 8:Nat):Int) * 8).toNat=8 * (bs.length / 8) by omega,gV (by rw[kD];omega)] at hu;have rI:(bs.drop (8 * (bs.length / 8))).length<=7:=by rw[kD];omega
  refine an.of (Fh hu ab) ?_;rintro _ _ ⟨rfl,rfl⟩;refine⟨_,rfl,by decide,?_⟩;have AD:=Iw (bs.drop (8 * (bs.length / 8)));have acf:jz (bs.drop (8 * (bs.length / 8)))<72057594037927936:=by
   have h2:256 ^ (bs.drop (8 * (bs.length / 8))).length<=256 ^ 7:=zH ar rI;have:(256:Nat) ^ 7=72057594037927936:=ar;omega
  have acg:IntKind.u64.wrap ((BitVec.ofInt 64 (jz (bs.drop (8 * (bs.length / 8))):Int) ||| BitVec.ofInt 64 (IntKind.u64.wrap ((IntKind.u64.wrap (v.2.1:Int)) * 2 ^ (min (Int.toNat 56) 64)))).toNat:Int)=(Iu bs:Int):=by
   rw[dD,BS bs.length,oA (show bs.length<18446744073709551616 by omega),show Int.toNat 56=56 by rfl,D7 _ 56 ar,show bs.length * 2 ^ 56 % 18446744073709551616=bs.length % 256 * 72057594037927936 by omega,
    D8 _ _ ab ab]
   congr 1
   unfold Iu;rw[Nat.or_comm,show bs.length % 256 * 72057594037927936=(bs.length % 256) <<< 56 by rw[BZ],<- HA (by exact acf)];omega
  rw[acg];refine an.of (TC S4 _) ?_;rintro _ w5 ⟨rfl,S5,f5⟩;refine⟨(),rfl,?_⟩;generalize E1 (Iu bs:Int) (It bs s0 (bs.length / 8))=t at *;obtain⟨t0,t1,t2,t3⟩:=t;unfold SG;refine S5.ld rfl (S5.st (s':=(t0,t1,fW t2 255,t3)) ar rfl λ w6 S6 f6=>?_);refine an.of (TA S6 4 ar) ?_;rintro _ w7 ⟨rfl,S7,f7⟩;refine⟨(),rfl,?_⟩;dsimp only;generalize ua 4 (t0,t1,fW t2 255,t3)=q at *;obtain⟨q0,q1,q2,q3⟩:=q;refine aU.of λ w8 _ f8=>?_;have S8:=S7.ag f8;refine S8.ld rfl (S8.ld rfl (S8.ld rfl (S8.ld rfl ?_)));have f38:Fr (only b) w3 w8:=((((f4.trans f5).trans f6).trans f7).et f8);exact⟨rfl,f13.fresh f38 ab⟩
theorem TD (n:Int)(h0:0<=n)(h1:n<18446744073709551616)(w:ah):au 129 #[.int .u64 n] w λ r w'=>∃ v:Sl,r=.slice v.1 v.2.1 v.2.2/\cT w' v (jA n)/\Fr none1 w w'/\∀ k,aH v k->w.heap.size<=k:=by
 refine c129 n w _ ?_;unfold C129;obtain⟨M,rfl⟩:∃ M:Nat,n=M:=⟨n.toNat,by omega⟩;obtain⟨w1,fM,Fi,f1⟩:=abI (w:=w) (n:=8) (m:=8) ar ar ar;refine⟨(some ⟨w.heap.size,0,none⟩,8,8),w1,fM,?_⟩;have Fi:cT w1 (some ⟨w.heap.size,0,none⟩,8,8) (List.replicate 8 0):=Fi;have hh:jA (M:Int)=sV 8 M:=by unfold jA;rw[show((M:Int) % 18446744073709551616).toNat=M by omega]
 refine cp.of (λ st w'=>∃ (i:Nat) (cs:ai),st.1=i/\i<=8/\cT w' (some ⟨w.heap.size,0,none⟩,8,8) cs/\cs.length=8/\(∀ j,j<i->cs[j]? = (sV 8 M)[j]?)/\Fr none1 w w') (λ st _=>(8 - st.1).toNat) ⟨0,_,rfl,by omega,Fi,by simp,λ j hj=>by omega,f1⟩ ?_;rintro _ ⟨i',_⟩ w2 ⟨i,cs,hi,jV,yx,gw,hall,f2⟩;dsimp only at hi ⊢;subst hi;refine ae.dec (λ bI=>?_) (λ gk=>?_)
 ·have Ei:i<8:=ab
  rw[wI (x:=8 * (i:Int)) ab ab,wI (x:=(i:Int)+1) ab ab,show Int.toNat (8 * (i:Int))=8 * i by omega];refine⟨by omega,?_⟩;have hv:Value.int .u8 (IntKind.u8.wrap (Int.fdiv (M:Int) (2 ^ (min (8 * i) 64))))=bc (UInt8.ofNat (M / 256 ^ i % 256)):=by
   rw[Hw M (8 * i) ab,Lb];unfold bc;rw[sG (tK _ ar),show(256:Nat) ^ i=2 ^ (8 * i) by rw[show(256:Nat)=2 ^ 8 by decide,<- Nat.pow_mul]]
  rw[hv];refine aV.st (v:=(some ⟨w.heap.size,0,none⟩,8,8)) yx ab bI rfl λ w3 bJ f3 _=>?_;have ach:cT w3 (some ⟨w.heap.size,0,none⟩,8,8) (cs.set i (UInt8.ofNat (M / 256 ^ i % 256))):=by unfold cT;rw[vW];rw[iH] at bJ;exact bJ
  refine⟨⟨i+1,_,by omega,by omega,ach,by rw[List.length_set];exact gw,λ j hj=>?_,f2.comp f3 λ k hk ⟨a,ha,e⟩=>by injection ha with ha;subst ha;dsimp only at e;omega⟩,by omega⟩
  rw[zF]
  by_cases ox:i=j
  ·subst ox;rw[if_pos rfl,if_pos ab,SJ 8 M i Ei]
  ·rw[if_neg ox];exact hall j ab
 ·refine⟨(some ⟨w.heap.size,0,none⟩,8,8),rfl,?_,f2,λ k ⟨a,ha,e⟩=>by injection ha with ha;subst ha;dsimp only at e;omega⟩
  have:cs=sV 8 M:=by
   refine xO λ j=>?_
   by_cases hj:j<8
   ·exact hall j ab
   ·rw[BW ab,BW (by rw[Mz];omega)]
  rw[hh,<- this];exact yx
theorem aci {v:Sl}(h:bO w v bs):au 167 #[.slice v.1 v.2.1 v.2.2] w λ r w'=>r=.tuple #[.int .u64 (if bs.length=8 then(jz bs:Int) else 0),.bool (decide (bs.length=8))]/\w=w':=by
 refine c167 v.1 v.2.1 v.2.2 w _ ?_;unfold C167;have dD:=h.len;refine ae.ne (λ aL=>?_) (λ heq=>?_)
 ·rw[if_neg ab,decide_eq_false ab];exact⟨rfl,rfl⟩
 ·rw[if_pos ab,decide_eq_true ab]
  refine an.of (Fh h ab) ?_;rintro _ _ ⟨rfl,rfl⟩;exact⟨_,rfl,rfl,rfl⟩
theorem acj {v u:Sl}{cs:ai}(h:bO w v bs)(h':bO w u cs):au 128 #[.slice v.1 v.2.1 v.2.2,.slice u.1 u.2.1 u.2.2] w λ r w'=>r=.bool (bs==cs)/\w=w':=by
 refine c128 v.1 v.2.1 v.2.2 u.1 u.2.1 u.2.2 w _ ?_;unfold C128;refine an.of (MZ h h') ?_;rintro _ _ ⟨rfl,rfl⟩;exact⟨_,rfl,rfl,rfl⟩
theorem Nc:∃ ms,Tryz.prog.underlying 32=some (.interface ms):=⟨_,Tryz.underlying32⟩
def C170 (p0:Int)(w:ah)(K:aP):Prop:=
 ae (decide (p0 >= 0))
 (K (.bool (decide (p0<=2147483647))) w)
 (K (.bool false) w)
def pl170:aN:=.auto
theorem c170 (p0 w K)(h:C170 p0 w K):au 170 #[aa p0] w K:=aQ Tryz.func170 (p:=pl170) aA h
def C172 (p0:di)(w:ah)(K:aP):Prop:=
 aC (.cells ((cO p0).toArray) 34) w (λ g1 w2=>af .raw ((ad g1).add 7) w2 (λ(x3:av)=>aT (do eqGuard .eql 32 (.tmp 4) (.const .nilIface) x3 .nilIface;binOp .eql 32 x3 .nilIface) w2 bK (λ(x4:Bool) w5=>ae x4
 (af (.int .i64) ((ad g1).add 0) w5 (λ(x6:Int)=>ae (x6==0)
 (af .str ((ad g1).add 1) w5 (λ(x7:ay)=>ae (x7.toList==(⟨#[]⟩:ay).toList)
 (af .str ((ad g1).add 2) w5 (λ(x8:ay)=>ae (x8.toList==(⟨#[]⟩:ay).toList)
 (af .str ((ad g1).add 3) w5 (λ(x9:ay)=>ae (x9.toList==(⟨#[]⟩:ay).toList)
 (af .str ((ad g1).add 4) w5 (λ(bG:ay)=>ae (bG.toList==(⟨#[]⟩:ay).toList)
 (af (.int .i64) ((ad g1).add 5) w5 (λ(bQ:Int)=>ae (bQ==0)
 (af (.int .i64) ((ad g1).add 6) w5 (λ(cn:Int)=>K (.bool (cn==0)) w5))
 (K (.bool false) w5)))
 (K (.bool false) w5)))
 (K (.bool false) w5)))
 (K (.bool false) w5)))
 (K (.bool false) w5)))
 (K (.bool false) w5)))
 (K (.bool false) w5))))
def pl172:aN:=.auto
theorem c172 (p0 w K)(h:C172 p0 w K):au 172 #[.agg (cO p0).toArray] w K:=aQ Tryz.func172 (p:=pl172) aA h
def C134 (p0:fY)(w:ah)(K:aP):Prop:=
 aC (.cells ((eZ p0).toArray) 214) w (λ g1 w2=>dc (Bool×Unit) (λ J3=>af (.int .i64) ((ad g1).add 0) w2 (λ(x6:Int)=>ae (x6 != 0)
 (af (.int .i64) ((ad g1).add 0) w2 (λ(x7:Int)=>ae (x7 != 1)
 (J3 (true,()) w2)
 (af (.int .i64) ((ad g1).add 1) w2 (λ(x8:Int)=>ak 170 #[aa x8] w2 bK (λ(x9:Bool) aX=>ae (!x9)
 (J3 (true,()) aX)
 (af (.int .i64) ((ad g1).add 2) aX (λ(bQ:Int)=>ak 170 #[aa bQ] aX bK (λ(cn:Bool) bM=>ae (!cn)
 (J3 (true,()) bM)
 (af (.int .i64) ((ad g1).add 4) bM (λ(cj:Int)=>ak 170 #[aa cj] bM bK (λ(cm:Bool) bV=>J3 ((!cm),()) bV)))))))))))
 (af (.int .i64) ((ad g1).add 1) w2 (λ(bZ:Int)=>ak 170 #[aa bZ] w2 bK (λ(cF:Bool) ct=>ae (!cF)
 (J3 (true,()) ct)
 (af (.int .i64) ((ad g1).add 2) ct (λ(dE:Int)=>ak 170 #[aa dE] ct bK (λ(du:Bool) cH=>ae (!du)
 (J3 (true,()) cH)
 (af (.int .i64) ((ad g1).add 4) cH (λ(eB:Int)=>ak 170 #[aa eB] cH bK (λ(dr:Bool) eJ=>J3 ((!dr),()) eJ)))))))))))
 (λ _ s4 w5=>ae s4.1
 (K (aa 1) w5)
 (dc (Bool×Unit) (λ Fj=>af (.int .i64) ((ad g1).add 3) w5 (λ(eQ:Int)=>ae (decide (eQ<1))
 (Fj (true,()) w5)
 (af (.int .i64) ((ad g1).add 3) w5 (λ(gB:Int)=>ae (decide (gB > 4))
 (Fj (true,()) w5)
 (af .bool ((ad g1).add 6) w5 (λ(dt:Bool)=>ae dt
 (af (.int .i64) ((ad g1).add 3) w5 (λ(gx:Int)=>ae (gx==1)
 (Fj (true,()) w5)
 (af (.int .i64) ((ad g1).add 3) w5 (λ(fk:Int)=>Fj ((fk==3),()) w5))))
 (Fj (false,()) w5)))))))
 (λ _ s27 cS=>ae s27.1
 (K (aa 1) cS)
 (af (.int .i64) ((ad g1).add 3) cS (λ(fD:Int)=>ae (fD==1)
 (aF fO ((ad g1).add 7) cS (λ(eY:di)=>ak 171 #[.agg (cO eY).toArray] cS bN (λ(gW:Int) fI=>K (aa gW) fI)))
 (aF fO ((ad g1).add 7) cS (λ(gn:di)=>ak 172 #[.agg (cO gn).toArray] cS bK (λ(iT:Bool) fw=>ae (!iT)
 (K (aa 1) fw)
 (K (aa 0) fw))))))))))
def pl134:aN:=(.seq .auto (.seq (.block (.join [(3,.one .bool)] .auto (.cond .auto (.join [(30,.one .bool)] .auto .auto)))) .auto))
theorem c134 (p0 w K)(h:C134 p0 w K):au 134 #[.agg (eZ p0).toArray] w K:=aQ Tryz.func134 (p:=pl134) aA h
def C169 (p0:Bool)(w:ah)(K:aP):Prop:=
 ae p0
 (K (.int .u8 1) w)
 (K (.int .u8 0) w)
def pl169:aN:=.auto
theorem c169 (p0 w K)(h:C169 p0 w K):au 169 #[.bool p0] w K:=aQ Tryz.func169 (p:=pl169) aA h
def C132 (p0:fY)(w:ah)(K:aP):Prop:=
 aC (.cells ((eZ p0).toArray) 214) w (λ g1 w2=>aF iE (ad g1) w2 (λ(x3:fY)=>ak 134 #[.agg (eZ x3).toArray] w2 bN (λ(x4:Int) w5=>ae (x4 != 0)
 (K (.tuple #[.slice none 0 0,aa x4]) w5)
 (af (.int .i64) ((ad g1).add 0) w5 (λ(x6:Int)=>aT (Instr.buildSlice 22 1 #[(0,.int .u8 (IntKind.u8.wrap x6))]) w5 aM (λ(x7:aB) w8=>aU w8 (λ w9=>bL (λ AE=>aJ AE ((ad g1).add 1) (af (.int .i64) ((ad g1).add 1) w9 (λ(bQ:Int)=>aJ AE ((ad g1).add 2) (af (.int .i64) ((ad g1).add 2) w9 (λ(cn:Int)=>ak 168 #[aa bQ] w9 aM (λ(cA:aB) bY=>az AE w9 bY (aT (Builtin.append_ #[22,22] 22 #[aO x7,aO cA]) bY aM (λ(cm:aB) bV=>az AE bY bV (ak 168 #[aa cn] bV aM (λ(bZ:aB) b9=>az AE bV b9 (aT (Builtin.append_ #[22,22] 22 #[aO cm,aO bZ]) b9 aM (λ(cJ:aB) bW=>az AE b9 bW (aU bW (λ cr=>bL (λ qF=>aJ qF ((ad g1).add 3) (af (.int .i64) ((ad g1).add 3) cr (λ(eB:Int)=>aJ qF ((ad g1).add 4) (af (.int .i64) ((ad g1).add 4) cr (λ(dr:Int)=>az qF cr cr (aT (Instr.buildSlice 22 1 #[(0,.int .u8 (IntKind.u8.wrap eB))]) cr aM (λ(cR:aB) de=>az qF cr de (aT (Builtin.append_ #[22,22] 22 #[aO cJ,aO cR]) de aM (λ(eD:aB) cS=>az qF de cS (ak 168 #[aa dr] cS aM (λ(eQ:aB) cN=>az qF cS cN (aT (Builtin.append_ #[22,22] 22 #[aO eD,aO eQ]) cN aM (λ(dt:aB) dQ=>az qF cN dQ (aU dQ (λ fT=>bL (λ AF=>aJ AF ((ad g1).add 5) (af (.int .u64) ((ad g1).add 5) fT (λ(eY:Int)=>aJ AF ((ad g1).add 6) (af .bool ((ad g1).add 6) fT (λ(gW:Bool)=>ak 129 #[.int .u64 eY] fT aM (λ(ka:aB) jj=>az AF fT jj (aT (Builtin.append_ #[22,22] 22 #[aO dt,aO ka]) jj aM (λ(iT:aB) fw=>az AF jj fw (ak 169 #[.bool gW] fw (.v (.one (.int .u8))) (λ(gC:Int) iI=>az AF fw iI (aT (Instr.buildSlice 22 1 #[(0,.int .u8 gC)]) iI aM (λ(mL:aB) ij=>az AF iI ij (aT (Builtin.append_ #[22,22] 22 #[aO iT,aO mL]) ij aM (λ(kZ:aB) kf=>az AF ij kf (af (.int .i64) ((ad g1).add 3) kf (λ(fu:Int)=>ae (fu != 1)
 (K (.tuple #[aO kZ,aa 0]) kf)
 (aF fO ((ad g1).add 7) kf (λ(mr:di)=>ak 147 #[.agg (cO mr).toArray] kf pI (λ(iJ:aB×Int×Unit) pT=>ae (iJ.2.1 != 0)
 (K (.tuple #[.slice none 0 0,aa iJ.2.1]) pT)
 (aT (Builtin.append_ #[22,22] 22 #[aO kZ,.slice iJ.1.1 iJ.1.2.1 iJ.1.2.2]) pT aM (λ(nV:aB) jx=>K (.tuple #[aO nV,aa 0]) jx)))))))))))))))))))))))))))))))))))))))))))))))))))))))))
def pl132:aN:=(.seq .auto (.seq .auto (.seq .auto (.seq (.held (.soft 0 (.soft 1 (.soft 2 (.soft 5 (.soft 6 (.pick 3 (.pick 4 (.pick 7 (.pick 8 (.soft 9 .done) .stop) .stop) .stop) .stop))))))) (.seq (.held (.soft 0 (.soft 1 (.soft 2 (.soft 6 (.soft 7 (.pick 3 (.pick 4 (.pick 5 (.pick 8 (.pick 9 (.soft 10 .done) .stop) .stop) .stop) .stop) .stop))))))) (.seq (.held (.soft 0 (.soft 1 (.soft 2 (.soft 5 (.soft 6 (.pick 3 (.pick 4 (.pick 7 (.pick 8 (.pick 9 (.soft 10 .done) .stop) .stop) .stop) .stop) .stop))))))) .auto))))))
theorem c132 (p0 w K)(h:C132 p0 w K):au 132 #[.agg (eZ p0).toArray] w K:=aQ Tryz.func132 (p:=pl132) aA h
def C109 (p0:List av)(p1:fY)(w:ah)(K:aP):Prop:=
 aC (.cells p0.toArray 25) w (λ g1 w2=>aC (.cells ((eZ p1).toArray) 214) w2 (λ g3 w4=>aF iE (ad g3) w4 (λ(x5:fY)=>ak 132 #[.agg (eZ x5).toArray] w4 pI (λ(x6:aB×Int×Unit) w7=>ae (x6.2.1 != 0)
 (K (.tuple #[.slice none 0 0,aa x6.2.1]) w7)
 (fL 16 (ad g1) w7 (λ x8=>ak 130 #[.agg x8.toArray,.slice x6.1.1 x6.1.2.1 x6.1.2.2] w7 nh (λ(x9:Int) aX=>ak 129 #[.int .u64 x9] aX aM (λ(bQ:aB) br=>aT (Builtin.append_ #[22,22] 22 #[.slice x6.1.1 x6.1.2.1 x6.1.2.2,aO bQ]) br aM (λ(cA:aB) bY=>K (.tuple #[aO cA,aa 0]) bY)))))))))
def pl109:aN:=.auto
theorem c109 (p0 p1 w K)(h:C109 p0 p1 w K):au 109 #[.agg p0.toArray,.agg (eZ p1).toArray] w K:=aQ Tryz.func109 (p:=pl109) aA h
def C131 (p0:aS)(bh bC:Nat)(w:ah)(K:aP):Prop:=
 aC (.cells #[aa 0,aa 0,aa 0,aa 0,aa 0,.int .u64 0,.bool false,aa 0,aj,aj,aj,aj,aa 0,aa 0,.nilIface] 214) w (λ g1 w2=>aU w2 (λ w3=>bL (λ S4=>cz p0 bh 0 1 (λ a5=>aJ S4 a5 (af (.int .u8) a5 w3 (λ(x6:Int)=>cz p0 bh 17 1 (λ a7=>aJ S4 a7 (af (.int .u8) a7 w3 (λ(x8:Int)=>cz p0 bh 34 1 (λ a9=>aJ S4 a9 (af (.int .u8) a9 w3 (λ(bG:Int)=>aC (.cells #[aa 0,aa 0,aa 0,aa 0,aa 0,.int .u64 0,.bool false,aa 0,aj,aj,aj,aj,aa 0,aa 0,.nilIface] 214) w3 (λ g11 br=>az S4 w3 br (aG (ad g11) [aa (IntKind.i64.wrap x6),aa 0,aa 0,aa (IntKind.i64.wrap x8),aa 0,.int .u64 0,.bool (bG==1),aa 0,aj,aj,aj,aj,aa 0,aa 0,.nilIface] br (λ bM=>az S4 br bM (gQ p0 bC 1 9 bC 1 (λ zK l15 c16=>ak 166 #[.slice zK l15 c16] bM (.bR [.one (.int .i64),.one .bool]) (λ(bZ:Int×Bool×Unit) b9=>aK ((ad g11).add 1) (aa bZ.1) b9 (λ ct=>gQ p0 bC 9 17 bC 1 (λ a20 M9 c22=>ak 166 #[.slice a20 M9 c22] ct (.bR [.one (.int .i64),.one .bool]) (λ(eB:Int×Bool×Unit) cZ=>aK ((ad g11).add 2) (aa eB.1) cZ (λ eJ=>gQ p0 bC 18 26 bC 1 (λ a26 l27 c28=>ak 166 #[.slice a26 l27 c28] eJ (.bR [.one (.int .i64),.one .bool]) (λ(eQ:Int×Bool×Unit) cN=>aK ((ad g11).add 4) (aa eQ.1) cN (λ gZ=>gQ p0 bC 26 34 bC 1 (λ a32 l33 c34=>ak 167 #[.slice a32 l33 c34] gZ (.bR [.one (.int .u64),.one .bool]) (λ(eY:Int×Bool×Unit) dW=>aK ((ad g11).add 5) (.int .u64 eY.1) dW (λ fI=>af (.int .i64) ((ad g11).add 3) fI (λ(gn:Int)=>ae (gn==1)
 (gQ p0 bC 35 bh bC 1 (λ a39 l40 c41=>ak 102 #[.slice a39 l40 c41] fI (.bR [.agg fO,.one (.int .i64)]) (λ(kY:di×Int×Unit) nv=>aG ((ad g11).add 7) [aa kY.1.1,.string kY.1.2.1,.string kY.1.2.2.1,.string kY.1.2.2.2.1,.string kY.1.2.2.2.2.1,aa kY.1.2.2.2.2.2.1,aa kY.1.2.2.2.2.2.2.1,kY.1.2.2.2.2.2.2.2.1] nv (λ ij=>aF iE (ad g11) ij (λ(kZ:fY)=>aG (ad g1) (eZ kZ) ij (λ kf=>aF iE (ad g1) kf (λ(fu:fY)=>K (.agg (eZ fu).toArray) kf)))))))
 (aF iE (ad g11) fI (λ(mr:fY)=>aG (ad g1) (eZ mr) fI (λ wi=>aF iE (ad g1) wi (λ(jU:fY)=>K (.agg (eZ jU).toArray) wi)))))))))))))))))))))))))))))))))
def pl131:aN:=(.seq .auto (.seq (.held (.soft 0 (.soft 1 (.soft 2 (.soft 3 (.soft 4 (.soft 5 (.soft 6 (.soft 7 (.soft 8 (.soft 9 (.soft 10 (.soft 11 (.soft 12 (.pick 13 (.pick 14 .done .stop) .stop))))))))))))))) .auto))
theorem c131 (p0 bh bC w K)(h:C131 p0 bh bC w K):au 131 #[.slice p0 bh bC] w K:=aQ Tryz.func131 (p:=pl131) aA h
def C90 (p0:List av)(p1:aS)(dk dR:Nat)(w:ah)(K:aP):Prop:=
 aC (.cells p0.toArray 25) w (λ g1 w2=>aC (.cells #[aa 0,aa 0,aa 0,aa 0,aa 0,.int .u64 0,.bool false,aa 0,aj,aj,aj,aj,aa 0,aa 0,.nilIface] 214) w2 (λ g3 w4=>ae (decide ((dk:Int)<8))
 (aG (ad g3) [aa 0,aa 0,aa 0,aa 0,aa 0,.int .u64 0,.bool false,aa 0,aj,aj,aj,aj,aa 0,aa 0,.nilIface] w4 (λ w5=>aF iE (ad g3) w5 (λ(x6:fY)=>K (.tuple #[.agg (eZ x6).toArray,aa 2]) w5)))
 (aU w4 (λ w7=>gQ p1 dR 0 (IntKind.i64.wrap ((dk:Int) - 8)) dR 1 (λ a8 l9 c10=>gQ p1 dR (IntKind.i64.wrap ((dk:Int) - 8)) dk dR 1 (λ ML l12 c13=>fL 16 (ad g1) w7 (λ cj=>ak 130 #[.agg cj.toArray,.slice a8 l9 c10] w7 nh (λ(cm:Int) bV=>ak 129 #[.int .u64 cm] bV aM (λ(bZ:aB) b9=>ak 128 #[.slice ML l12 c13,aO bZ] b9 bK (λ(cJ:Bool) bW=>ae (!cJ)
 (aG (ad g3) [aa 0,aa 0,aa 0,aa 0,aa 0,.int .u64 0,.bool false,aa 0,aj,aj,aj,aj,aa 0,aa 0,.nilIface] bW (λ cr=>aF iE (ad g3) cr (λ(cW:fY)=>K (.tuple #[.agg (eZ cW).toArray,aa 12]) cr)))
 (ae (decide ((l9:Int)<35))
 (aG (ad g3) [aa 0,aa 0,aa 0,aa 0,aa 0,.int .u64 0,.bool false,aa 0,aj,aj,aj,aj,aa 0,aa 0,.nilIface] bW (λ dM=>aF iE (ad g3) dM (λ(dr:fY)=>K (.tuple #[.agg (eZ dr).toArray,aa 2]) dM)))
 (ak 131 #[.slice a8 l9 c10] bW (.v (.agg iE)) (λ(cR:fY) de=>aC (.cells #[aa 0,aa 0,aa 0,aa 0,aa 0,.int .u64 0,.bool false,aa 0,aj,aj,aj,aj,aa 0,aa 0,.nilIface] 214) de (λ Nd cS=>aG (ad Nd) (eZ cR) cS (λ gr=>aF iE (ad Nd) gr (λ(gB:fY)=>ak 132 #[.agg (eZ gB).toArray] gr pI (λ(dt:aB×Int×Unit) dQ=>ae (dt.2.1 != 0)
 (aG (ad g3) [aa 0,aa 0,aa 0,aa 0,aa 0,.int .u64 0,.bool false,aa 0,aj,aj,aj,aj,aa 0,aa 0,.nilIface] dQ (λ fT=>aF iE (ad g3) fT (λ(fD:fY)=>K (.tuple #[.agg (eZ fD).toArray,aa 2]) fT)))
 (ak 133 #[.slice dt.1.1 dt.1.2.1 dt.1.2.2,.slice a8 l9 c10] dQ bK (λ(eY:Bool) dW=>ae (!eY)
 (aG (ad g3) [aa 0,aa 0,aa 0,aa 0,aa 0,.int .u64 0,.bool false,aa 0,aj,aj,aj,aj,aa 0,aa 0,.nilIface] dW (λ fI=>aF iE (ad g3) fI (λ(gn:fY)=>K (.tuple #[.agg (eZ gn).toArray,aa 2]) fI)))
 (aF iE (ad Nd) dW (λ(iT:fY)=>aG (ad g3) (eZ iT) dW (λ fw=>aF iE (ad g3) fw (λ(gC:fY)=>K (.tuple #[.agg (eZ gC).toArray,aa 0]) fw)))))))))))))))))))))))
def pl90:aN:=(.seq .auto (.seq .auto (.seq .still .auto)))
theorem c90 (p0 p1 dk dR w K)(h:C90 p0 p1 dk dR w K):au 90 #[.agg p0.toArray,.slice p1 dk dR] w K:=aQ Tryz.func90 (p:=pl90) aA h
namespace Vc
theorem aF.off {cks:List Ck}{o:Nat}{K:Cs cks->Prop}{cs:Array av}{fr:Nat×Nat}{x:Cs cks}(hb:w.heap[b]? = some (.cells cs T fr))(hx:∀ j,j<(Cs.vals cks x).length->cs[o+j]? = (Cs.vals cks x)[j]?)(h:K x):aF cks ((⟨b,0,none⟩:Addr).add o) w K:=
 ⟨x,CA (m:=o) _ 0 (qt hb _ o hx),h⟩
end Vc
abbrev oe:=Int×Int×Int×Int×Int×Int×Bool×fU
abbrev FK:List Ck:=[.int .i64,.int .i64,.int .i64,.int .i64,.int .i64,.int .u64,.bool,.int .i64,.str,.str,.str,.str,.int .i64,.int .i64,.raw]
def iO (f:oe):fU:=f.2.2.2.2.2.2.2
def fB (f:oe):List av:=[aa f.1,aa f.2.1,aa f.2.2.1,aa f.2.2.2.1,aa f.2.2.2.2.1,.int .u64 f.2.2.2.2.2.1,.bool f.2.2.2.2.2.2.1,aa (iO f).1,.string (iO f).2.1,.string (iO f).2.2.1,.string (iO f).2.2.2.1,.string (iO f).2.2.2.2.1,aa (iO f).2.2.2.2.2.1,aa (iO f).2.2.2.2.2.2.1,(iO f).2.2.2.2.2.2.2.1]
def oH (f:oe):av:=.agg (fB f).toArray
theorem Nf {f:oe}(h:cG (iO f).2.2.2.2.2.2.2.1=true):(fB f).all cG=true:=by
 unfold fB;simp only[List.all_cons,List.all_nil,Bool.and_true,dp,h,and_true];exact⟨rfl,rfl,rfl,rfl,rfl,rfl,rfl,rfl,rfl,rfl,rfl,rfl,rfl,rfl⟩
def gF (n:Int):Bool:=decide (0<=n)&&decide (n<=2147483647)
def wU (e:fU):Bool:=jJ e.2.2.2.2.2.2.2.1&&(e.1==0&&(lz e.2.1&&(lz e.2.2.1&&(lz e.2.2.2.1&&(lz e.2.2.2.2.1&&(e.2.2.2.2.2.1==0&&e.2.2.2.2.2.2.1==0))))))
def qR (f:oe):Bool:=(f.1==0||f.1==1)&&(gF f.2.1&&(gF f.2.2.1&&gF f.2.2.2.2.1))
def yy (f:oe):Bool:=decide (1<=f.2.2.2.1)&&(decide (f.2.2.2.1<=4)&&!(f.2.2.2.2.2.2.1&&(f.2.2.2.1==1||f.2.2.2.1==3)))
def mz (f:oe)(tr:Int):Int:=if qR f=false then 1 else if yy f=false then 1 else if f.2.2.2.1=1 then pN (iO f) tr else if wU (iO f)=false then 1 else 0
def sY (f:oe):ai:=UInt8.ofNat (f.1 % 256).toNat::(dj f.2.1++(dj f.2.2.1++(UInt8.ofNat (f.2.2.2.1 % 256).toNat::(dj f.2.2.2.2.1++(jA f.2.2.2.2.2.1++[if f.2.2.2.2.2.2.1=true then 1 else 0])))))
def ku (f:oe)(ts:ai)(tr:Int):ai×Int:=if mz f tr≠0 then([],mz f tr) else if f.2.2.2.1≠1 then(sY f,0) else(sY f++(lA (iO f) ts tr).1,0)
def wV (kb:ai)(f:oe)(ts:ai)(tr:Int):ai×Int:=if(ku f ts tr).2≠0 then([],(ku f ts tr).2) else((ku f ts tr).1++jA (qN kb (ku f ts tr).1),0)
theorem AG (f:oe):(sY f).length=35:=by
 unfold sY;simp only[cY,bU,kG,sW,kX]
theorem ack (n:Int)(w:ah):au 170 #[aa n] w λ r w'=>r=.bool (gF n)/\w=w':=by
 refine c170 n w _ ?_;unfold gF;refine ae.dec (λ h=>?_) (λ h=>?_)
 ·rw[decide_eq_true (p:=0<=n) ab];exact⟨rfl,rfl⟩
 ·rw[decide_eq_false (p:=0<=n) ab];exact⟨rfl,rfl⟩
theorem Ng (n:Int)(w:ah){K:Bool->ah->Prop}(h:K (gF n) w):ak 170 #[aa n] w bK (λ(x:Bool) w'=>K x w'):=by
 refine an.of (ack n w) ?_;rintro _ _ ⟨rfl,rfl⟩;exact⟨_,rfl,h⟩
theorem acm (e:fU)(hT:tO e.2.2.2.2.2.2.2.1)(w:ah):au 172 #[ke e] w λ r w'=>r=.bool (wU e)/\Fr none1 w w':=by
 refine c172 e w _ ?_;unfold C172;refine aC.of λ g1 w1 eG aE f1 ng=>?_;unfold wU;refine af.aw aE (x:=e.2.2.2.2.2.2.2.1) rfl ?_;refine⟨jJ e.2.2.2.2.2.2.2.1,w1,nil_eq Nc _ hT w1,?_⟩;refine ae.by (λ q=>?_) (λ q=>by rw[q];exact⟨rfl,f1⟩);rw[q,iF];refine af.aw aE (x:=e.1) rfl ?_;refine ae.by (λ q=>?_) (λ q=>by rw[q];exact⟨rfl,f1⟩);rw[q,iF];refine af.aw aE (x:=e.2.1) rfl ?_;refine ae.by (λ q=>?_) (λ q=>by rw[show lz e.2.1=false from q];exact⟨rfl,f1⟩);rw[show lz e.2.1=true from q,iF];refine af.aw aE (x:=e.2.2.1) rfl ?_;refine ae.by (λ q=>?_) (λ q=>by rw[show lz e.2.2.1=false from q];exact⟨rfl,f1⟩);rw[show lz e.2.2.1=true from q,iF];refine af.aw aE (x:=e.2.2.2.1) rfl ?_;refine ae.by (λ q=>?_) (λ q=>by rw[show lz e.2.2.2.1=false from q];exact⟨rfl,f1⟩);rw[show lz e.2.2.2.1=true from q,iF];refine af.aw aE (x:=e.2.2.2.2.1) rfl ?_;refine ae.by (λ q=>?_) (λ q=>by rw[show lz e.2.2.2.2.1=false from q];exact⟨rfl,f1⟩);rw[show lz e.2.2.2.2.1=true from q,iF];refine af.aw aE (x:=e.2.2.2.2.2.1) rfl ?_;refine ae.by (λ q=>?_) (λ q=>by rw[q];exact⟨rfl,f1⟩);rw[q,iF];refine af.aw aE (x:=e.2.2.2.2.2.2.1) rfl ?_;exact⟨rfl,f1⟩
def AH (w:ah)(x:av)(ts:ai)(tr:Int):Prop:=∀ w1,Fr none1 w w1->au 209 #[x] w1 λ r w'=>r=.tuple #[.string (str ts),aa tr]/\Fr none1 w1 w'
theorem AH.ao {x:av}{ts:ai}{tr:Int}(h:AH w x ts tr)(f:Fr none1 w w'):AH w' x ts tr:=λ w1 f1=>h w1 (f.trans f1)
theorem IM (t:Tm)(hn:bj t<=1000000){w:ah}(ht:TabW w):AH w t.v (bT t).1 (bT t).2:=λ w1 f=>H0 t hn w1 (ht.ag f)
theorem Nh {f:oe}(hb:w.heap[g]? = some (.cells (fB f).toArray T (0,0))){K:fU->Prop}(k:K (iO f)):aF EK ((⟨g,0,none⟩:Addr).add 7) w K:=by
 refine aF.off (x:=iO f) hb (λ j hj=>?_) k
 match j,hj with
 | 0,_=>rfl
 | 1,_=>rfl
 | 2,_=>rfl
 | 3,_=>rfl
 | 4,_=>rfl
 | 5,_=>rfl
 | 6,_=>rfl
 | 7,_=>rfl
 | j+8,h=>exact absurd h (by show ¬ j+8<8;omega)
theorem TE (f : oe)(hT : tO (iO f).2.2.2.2.2.2.2.1)(ts : ai)(tr : Int)(w : ah)(ht : AH w (iO f).2.2.2.2.2.2.2.1 ts tr):
    au 134 #[oH f] w λ r w' => r = aa (mz f tr) /\ Fr none1 w w' := by
  refine c134 f w _ ?_;unfold C134;refine aC.of λ g1 w1 eG aE f1 ng => ?_;have aE : w1.heap[g1]? = some (.cells (fB f).toArray 214 (0, 0)) := aE;refine dc.of (λ s w' => s.1 = !(qR f) /\ w1 = w') ?_ ?_
  · have rest : (f.1 == 0 || f.1 == 1) = true -> af (.int .i64) ((⟨g1, 0, none⟩ : Addr).add 1) w1 (λ(x8 : Int) => ak 170 #[aa x8] w1 bK (λ(x9 : Bool) aX => ae (!x9)
        ((true = !(qR f)) /\ w1 = aX)
        (af (.int .i64) ((⟨g1, 0, none⟩ : Addr).add 2) aX (λ(bQ : Int) => ak 170 #[aa bQ] aX bK (λ(cn : Bool) bM => ae (!cn)
        ((true = !(qR f)) /\ w1 = bM)
        (af (.int .i64) ((⟨g1, 0, none⟩ : Addr).add 4) bM (λ(cj : Int) => ak 170 #[aa cj] bM bK (λ(cm : Bool) bV => ((!cm) = !(qR f)) /\ w1 = bV))))))) ) := λ h0 => by
      unfold qR;rw[h0, iF];refine af.aw aE (x := f.2.1) rfl (Ng _ _ (ae.not (ae.by (λ q => ?_) (λ q => by rw[q]; exact⟨rfl, rfl⟩))));rw[q, iF];refine af.aw aE (x := f.2.2.1) rfl (Ng _ _ (ae.not (ae.by (λ q => ?_) (λ q => by rw[q]; exact⟨rfl, rfl⟩))));rw[q, iF];exact af.aw aE (x := f.2.2.2.2.1) rfl (Ng _ _ ⟨rfl, rfl⟩)
    refine af.aw aE (x := f.1) rfl ?_;refine ae.ne (λ h => ?_) (λ h => rest (by rw[h]; rfl));refine af.aw aE (x := f.1) rfl ?_;refine ae.ne (λ h' => ?_) (λ h' => rest (by rw[h']; rfl));refine⟨?_, rfl⟩;unfold qR;rw[beq_false_of_ne h, beq_false_of_ne h']; rfl
  rintro _ ⟨s, _⟩ _ ⟨hs, rfl⟩;dsimp only at hs ⊢;subst hs;unfold mz;refine ae.by (λ q => ?_) (λ q => ?_)
  · rw[if_pos (by simpa using q)]; exact⟨rfl, f1⟩
  rw[if_neg (by simpa using q)];refine dc.of (λ s w' => s.1 = !(yy f) /\ w1 = w') ?_ ?_
  · unfold yy
    refine af.aw aE (x := f.2.2.2.1) rfl ?_;refine ae.dec (λ h => ?_) (λ h => ?_)
    · rw[decide_eq_false (p := 1 <= f.2.2.2.1) ab]; exact⟨rfl, rfl⟩
    rw[decide_eq_true (p := 1 <= f.2.2.2.1) ab, iF];refine af.aw aE (x := f.2.2.2.1) rfl ?_;refine ae.dec (λ h => ?_) (λ h => ?_)
    · rw[decide_eq_false (p := f.2.2.2.1 <= 4) ab]; exact⟨rfl, rfl⟩
    rw[decide_eq_true (p := f.2.2.2.1 <= 4) ab, iF, Bool.not_not];refine af.aw aE (x := f.2.2.2.2.2.2.1) rfl ?_;refine ae.by (λ q => ?_) (λ q => by rw[q]; exact⟨rfl, rfl⟩);rw[q, iF];refine af.aw aE (x := f.2.2.2.1) rfl ?_;refine ae.by (λ q => by rw[q]; exact⟨rfl, rfl⟩) (λ q => ?_);rw[q, lv];exact af.aw aE (x := f.2.2.2.1) rfl ⟨rfl, rfl⟩
  rintro _ ⟨s, _⟩ _ ⟨hs, rfl⟩;dsimp only at hs ⊢;subst hs;refine ae.by (λ q => ?_) (λ q => ?_)
  · rw[if_pos (by simpa using q)]; exact⟨rfl, f1⟩
  rw[if_neg (by simpa using q)];refine af.aw aE (x := f.2.2.2.1) rfl ?_;refine ae.eq (λ h => ?_) (λ h => ?_)
  · rw[if_pos h]
    refine Nh aE ?_;refine an.of (Lr (iO f) hT tr w1 λ _ w2 f2 => (ht w2 (f1.trans f2)).mono λ r w' ⟨h, f⟩ => ⟨⟨_, h⟩, f⟩) ?_;rintro _ w2 ⟨rfl, f2⟩;exact⟨_, rfl, rfl, f1.trans f2⟩
  · rw[if_neg h]
    refine Nh aE ?_;refine an.of (acm (iO f) hT w1) ?_;rintro _ w2 ⟨rfl, f2⟩;refine⟨_, rfl, ae.not (ae.by (λ q => ?_) (λ q => ?_))⟩
    · rw[if_neg (by rw[q]; decide)]; exact⟨rfl, f1.trans f2⟩
    · rw[if_pos q]; exact⟨rfl, f1.trans f2⟩
theorem acn (b:Bool)(w:ah){K:Int->ah->Prop}(h:∀ n:Int,Value.int .u8 n=bc (if b=true then 1 else 0)->K n w):ak 169 #[.bool b] w (.v (.one (.int .u8))) (λ(x:Int) w'=>K x w'):=by
 refine an.of (R:=λ r w'=>r=.int .u8 (if b=true then 1 else 0)/\w=w') ?_ ?_
 ·refine c169 b w _ ?_
  unfold C169;cases b
  ·exact ae.f rfl ⟨rfl,rfl⟩
  ·exact ae.t rfl ⟨rfl,rfl⟩
 ·rintro _ _ ⟨rfl,rfl⟩
  exact⟨_,rfl,h _ (by cases b<;>rfl)⟩
structure Own (w0 w:ah)(v:Sl)(bs:ai):Prop where
 is:cT w v bs
 lo:∀ k,aH v k->w0.heap.size<=k
theorem Own.ag {w0:ah}{v:Sl}(h:Own w0 w v bs)(f:Fr none1 w w'):Own w0 w' v bs:=⟨h.is.ag f,h.lo⟩
theorem Own.app {w0:ah}{x:Sl}{xs:ai}(hx:Own w0 w x xs)(h0:w0.heap.size<=w.heap.size){y:Sl}{ys:ai}(hy:bO w y ys)(hl:xs.length+ys.length<=140737488355000){K:(aS×Nat×Nat)->ah->Prop}
  (k:∀ (u:Sl) w',Own w0 w' u (xs++ys)->Fr (aH x) w w'->K u w') :
  aT (Builtin.append_ #[22,22] 22 #[.slice x.1 x.2.1 x.2.2,.slice y.1 y.2.1 y.2.2]) w aM (λ(u:aS×Nat×Nat) w'=>K u w'):=by
 obtain⟨u,w',hr,hu,f,uf⟩:=vS hx.is hy hl;refine⟨u,w',hr,k u w' ⟨hu,λ j hj=>?_⟩ f⟩
 rcases uf j hj with t | t
 ·exact hx.lo j t
 ·omega
theorem Fk (c:UInt8){K:(aS×Nat×Nat)->ah->Prop}(k:∀ (u:Sl) w',cT w' u [c]->Fr none1 w w'->(∀ j,aH u j->w.heap.size<=j)->K u w'):
  aT (Instr.buildSlice 22 1 #[(0,bc c)]) w aM (λ(u:aS×Nat×Nat) w'=>K u w'):=by
 obtain⟨x,w',hr,hx,_,f,xf⟩:=vR (P:=Tryz.prog) (w:=w) qu [bc c] (by simp[bc,Value.cells]) bm;exact⟨x,w',hr,k x w' hx f xf⟩
theorem Ni (n:Int)(w:ah){K:(aS×Nat×Nat)->ah->Prop}(k:∀ u w',cT w' u (dj n)->Fr none1 w w'->K u w'):ak 168 #[aa n] w aM (λ(x:aS×Nat×Nat) w'=>K x w'):=by
 refine an.of (QI n w) ?_;rintro _ w1 ⟨u,rfl,hu,f1,uf⟩;exact⟨u,rfl,k u w1 hu f1⟩
theorem Nj (n:Int)(h0:0<=n)(h1:n<18446744073709551616)(w:ah){K:(aS×Nat×Nat)->ah->Prop}(k:∀ u w',cT w' u (jA n)->Fr none1 w w'->K u w'):ak 129 #[.int .u64 n] w aM (λ(x:aS×Nat×Nat) w'=>K x w'):=by
 refine an.of (TD n h0 h1 w) ?_;rintro _ w1 ⟨u,rfl,hu,f1,uf⟩;exact⟨u,rfl,k u w1 hu f1⟩
theorem TF (n:Int):Value.int .u8 (IntKind.u8.wrap n)=bc (UInt8.ofNat (n % 256).toNat):=by
 unfold bc;have h0:0<=n % 256:=Int.emod_nonneg _ ar;have h1:n % 256<256:=Int.emod_lt_of_pos _ ar;rw[sG ab]
 congr 1
 simp[IntKind.wrap,IntKind.signed,IntKind.bits];omega
theorem TG (f:oe)(hT:tO (iO f).2.2.2.2.2.2.2.1)(hz:tQ (iO f))(hh:0<=f.2.2.2.2.2.1/\f.2.2.2.2.2.1<18446744073709551616)(ts:ai)(lR:ts.length<=1000000)(tr:Int)(w:ah)(ht:AH w (iO f).2.2.2.2.2.2.2.1 ts tr):
  au 132 #[oH f] w λ r w'=>∃ v:Sl,r=.tuple #[.slice v.1 v.2.1 v.2.2,aa (ku f ts tr).2]/\Own w w' v (ku f ts tr).1/\Fr none1 w w':=by
 refine c132 f w _ ?_;unfold C132;refine aC.of λ g1 w1 eG aE f1 ng=>?_;have aE:w1.heap[g1]? = some (.cells (fB f).toArray 214 (0,0)):=aE;refine aF.aR (cks:=FK) (x:=f) aE ?_;refine an.of (TE f hT ts tr w1 (ht.ao f1)) ?_;rintro _ w2 ⟨rfl,f2⟩;refine⟨_,rfl,?_⟩;have nob:∀ k,¬ aH ((none,0,0):Sl) k:=λ k ⟨a,ha,_⟩=>by cases ha
 unfold ku;refine ae.ne (λ aL=>?_) (λ he=>?_)
 ·rw[if_pos aL]
  exact⟨(none,0,0),rfl,⟨K7 w2,λ k hk=>(nob k hk).elim⟩,f1.trans f2⟩
 rw[if_neg (λ t=>t he)];have b2:=f2.ag aE;have F:=f1.trans f2;refine af.aw b2 (x:=f.1) rfl ?_;rw[TF];refine Fk _ λ x w3 hx f3 xf=>?_;have h0:=F.size;have F:=F.trans f3;have hx:Own w1 w3 x [UInt8.ofNat (f.1 % 256).toNat]:=⟨hx,λ k hk=>by have:=xf k hk;have:=f2.size;omega⟩;have b3:=f3.ag b2;have hg:w.heap.size<=g1:=ab;have own:∀ {wa:ah} {v:Sl} {bs:ai},Own w1 wa v bs->∀ k,aH v k->k≠g1/\w.heap.size<=k:=λ h k hk=>by have:=h.lo k hk;omega
 have q1:∀ {wa:ah},Fr none1 w wa->w1.heap.size<=wa.heap.size->∀ {v:Sl} {bs:ai},Own w1 wa v bs->∀ {wb:ah},Fr (aH v) wa wb->Fr none1 w wb:=λ F _ _ _ h _ f=>F.comp f λ k hk t=>by have:=(own h k t).2;omega
 have mN:w1.heap.size<=w3.heap.size:=by have:=f2.size;have:=f3.size;omega
 refine aU.of λ w4 _ f4=>bL.of (λ k=>k=g1) (CK rfl (af.aw (f4.ag b3) (x:=f.2.1) rfl (CK rfl (af.aw (f4.ag b3) (x:=f.2.2.1) rfl ?_))));refine Ni _ w4 λ n1 w5 IN f5=>az.of f5 ?_;have f35:=f4.trans f5;have hx:=hx.ag f35;have b5:=f35.ag b3;have F:=F.trans f35;have pM:w1.heap.size<=w5.heap.size:=by have:=f35.size;omega
 refine hx.app pM IN.rd (by rw[kG];simp only[fZ];omega) λ y w6 hy f6=>az.on f6 (λ k hk t=>(own hx k t).1 hk) ?_;have b6:=f6.ao b5 (λ t=>(own hx _ t).1 rfl);have F:=q1 F pM hx f6;have s16:w1.heap.size<=w6.heap.size:=by have:=f6.size;omega
 clear hx b5 f35 f4 f5 IN b3 f6;refine Ni _ w6 λ n2 w7 nO f7=>az.of f7 ?_;have hy:=hy.ag f7;have b7:=f7.ag b6;have F:=F.trans f7;have AB:w1.heap.size<=w7.heap.size:=by have:=f7.size;omega
 refine hy.app AB nO.rd (by rw[kG,bU,kG,fZ];decide) λ z w8 AI f8=>az.on f8 (λ k hk t=>(own hy k t).1 hk) ?_;have b8:=f8.ao b7 (λ t=>(own hy _ t).1 rfl);have F:=q1 F AB hy f8;have sH:w1.heap.size<=w8.heap.size:=by have:=f8.size;omega
 clear hy b7 f7 nO b6 f8;refine aU.of λ w9 _ f9=>bL.of (λ k=>k=g1) (CK rfl (af.aw (f9.ag b8) (x:=f.2.2.2.1) rfl (CK rfl (af.aw (f9.ag b8) (x:=f.2.2.2.2.1) rfl (az.same ?_)))));rw[TF];refine Fk _ λ x2 aX yx f10 x2f=>az.of f10 ?_;have Fm:=f9.trans f10;have AI:=AI.ag Fm;have wW:=Fm.ag b8;have F:=F.trans Fm;have TI:w1.heap.size<=aX.heap.size:=by have:=Fm.size;omega
 refine AI.app TI yx.rd (by simp only[bU,kG,fZ];decide) λ u bt hu f11=>az.on f11 (λ k hk t=>(own AI k t).1 hk) ?_;have TJ:=f11.ao wW (λ t=>(own AI _ t).1 rfl);have F:=q1 F TI AI f11;have ain:w1.heap.size<=bt.heap.size:=by have:=f11.size;omega
 clear AI wW Fm yx x2f b8 f11 f9 f10;refine Ni _ bt λ n3 br TK f12=>az.of f12 ?_;have hu:=hu.ag f12;have TL:=f12.ag TJ;have F:=F.trans f12;have TM:w1.heap.size<=br.heap.size:=by have:=f12.size;omega
 refine hu.app TM TK.rd (by simp only[bU,kG,fZ];decide) λ v bM hv f13=>az.on f13 (λ k hk t=>(own hu k t).1 hk) ?_;have IP:=f13.ao TL (λ t=>(own hu _ t).1 rfl);have F:=q1 F TM hu f13;have aio:w1.heap.size<=bM.heap.size:=by have:=f13.size;omega
 clear hu TL f12 TK TJ f13;refine aU.of λ bY _ f14=>bL.of (λ k=>k=g1) (CK rfl (af.aw (f14.ag IP) (x:=f.2.2.2.2.2.1) rfl (CK rfl (af.aw (f14.ag IP) (x:=f.2.2.2.2.2.2.1) rfl ?_))));refine Nj _ hh.1 hh.2 bY λ n4 cB TN f15=>az.of f15 ?_;have Fo:=f14.trans f15;have hv:=hv.ag Fo;have Fq:=Fo.ag IP;have F:=F.trans Fo;have TO:w1.heap.size<=cB.heap.size:=by have:=Fo.size;omega
 refine hv.app TO TN.rd (by simp only[bU,kG,sW,fZ];decide) λ p bV hp f16=>az.on f16 (λ k hk t=>(own hv k t).1 hk) ?_;have TP:=f16.ao Fq (λ t=>(own hv _ t).1 rfl);have F:=q1 F TO hv f16;have aip:w1.heap.size<=bV.heap.size:=by have:=f16.size;omega
 clear hv Fq Fo TN IP f16 f14 f15;refine acn _ bV λ n hn=>az.same ?_;rw[hn];refine Fk _ λ x3 da TQ f17 x3f=>az.of f17 ?_;have hp:=hp.ag f17;have Nk:=f17.ag TP;have F:=F.trans f17;have TR:w1.heap.size<=da.heap.size:=by have:=f17.size;omega
 refine hp.app TR TQ.rd (by simp only[bU,kG,sW,fZ];decide) λ r b9 hr f18=>az.on f18 (λ k hk t=>(own hp k t).1 hk) ?_;have TS:=f18.ao Nk (λ t=>(own hp _ t).1 rfl);have F:=q1 F TR hp f18;have aiq:w1.heap.size<=b9.heap.size:=by have:=f18.size;omega
 clear hp Nk f17 TQ x3f TP f18;have aco:([UInt8.ofNat (f.1 % 256).toNat]++dj f.2.1++dj f.2.2.1++[UInt8.ofNat (f.2.2.2.1 % 256).toNat]++dj f.2.2.2.2.1++jA f.2.2.2.2.2.1++[if f.2.2.2.2.2.2.1=true then 1 else 0])=sY f:=by
  unfold sY;simp only[gI,kW,iR]
 rw[aco] at hr;have Ie:=AG f;have up:∀ {wa:ah} {v:Sl} {bs:ai},Own w1 wa v bs->Own w wa v bs:=λ h=>⟨h.is,λ k hk=>(own h k hk).2⟩;refine af.aw TS (x:=f.2.2.2.1) rfl ?_;refine ae.ne (λ aL=>?_) (λ o0=>?_)
 ·rw[if_pos aL]
  exact⟨r,rfl,up hr,F⟩
 rw[if_neg (λ t=>t o0)];have CN:(lA (iO f) ts tr).2=0:=by
  unfold mz at he;split at he
  ·cases he
  split at he
  ·cases he
  first | rw[if_pos o0] at he | skip
  unfold lA;rw[if_neg (λ t=>t he)]
 refine Nh TS ?_;refine an.of (Lx (iO f) hT hz ts lR tr b9 λ _ wa fa=>ht wa (F.trans fa)) ?_;rintro _ ct ⟨q,rfl,hq,f19,qf⟩;refine⟨(q,(lA (iO f) ts tr).2,()),rfl,?_⟩;dsimp only;refine ae.f (by rw[CN];rfl) ?_;have rP:=E3 (iO f) hz ts lR tr;refine(hr.ag f19).app (by have:=f19.size;omega) hq.rd ab λ o bW ho f20=>?_;exact⟨o,rfl,up ho,q1 (F.trans f19) (by have:=f19.size;omega) (hr.ag f19) f20⟩
theorem acp (kb:ai)(hk:kb.length=16)(f:oe)(hT:tO (iO f).2.2.2.2.2.2.2.1)(hz:tQ (iO f))(hh:0<=f.2.2.2.2.2.1/\f.2.2.2.2.2.1<18446744073709551616)(ts:ai)(lR:ts.length<=1000000)(tr:Int)(w:ah)(ht:AH w (iO f).2.2.2.2.2.2.2.1 ts tr):
  au 109 #[.agg (dh kb).toArray,oH f] w λ r w'=>∃ v:Sl,r=.tuple #[.slice v.1 v.2.1 v.2.2,aa (wV kb f ts tr).2]/\Own w w' v (wV kb f ts tr).1/\Fr none1 w w':=by
 refine c109 (dh kb) f w _ ?_;unfold C109;refine aC.of λ g0 w0 Fg wL f0 _=>aC.of λ g1 w1 eG aE f1 ng=>?_;have aE:w1.heap[g1]? = some (.cells (fB f).toArray 214 (0,0)):=aE;have AJ:=f0.trans f1;refine aF.aR (cks:=FK) (x:=f) aE ?_;refine an.of (TG f hT hz hh ts lR tr w1 (ht.ao AJ)) ?_;rintro _ w2 ⟨v,rfl,hv,f2⟩;refine⟨(v,(ku f ts tr).2,()),rfl,?_⟩;have F:=AJ.trans f2;have pF:(ku f ts tr).1.length<=10000035:=by
  have:=E3 (iO f) hz ts lR tr;have:=AG f;unfold ku;split
  ·simp
  split
  ·dsimp only;omega
  ·dsimp only;rw[bU];omega
 unfold wV;dsimp only;have s01:=AJ.size;refine ae.ne (λ aL=>?_) (λ he=>?_)
 ·rw[if_pos aL]
  exact⟨(none,0,0),rfl,⟨K7 w2,λ k ⟨a,ha,_⟩=>by cases ha⟩,F⟩
 rw[if_neg (λ t=>t he)];generalize(ku f ts tr).1=bs at *;refine fL.of (f2.ag (f1.ag wL)) (by simp[dh,hk]) ?_;refine an.of (Nb hk hv.is.rd hv.is.cap ab) ?_;rintro _ w3 ⟨rfl,f3⟩;refine⟨_,rfl,?_⟩;have hr:=MA kb bs;refine Nj _ hr.1 hr.2 w3 λ u w4 hu f4=>?_;have f24:=f3.trans f4;have s24:=f24.size;have s2:=f2.size;refine(hv.ag f24).app ab hu.rd (by rw[sW];omega) λ o w5 ho f5=>?_;exact⟨o,rfl,⟨ho.is,λ k hk=>by have:=ho.lo k hk;omega⟩,(F.trans f24).comp f5 λ k hk t=>by have:=hv.lo k t;omega⟩
abbrev bS:=Int×Int×Int×Int×Int×Int×Bool×bu
def bS.f (m:bS):oe:=(m.1,m.2.1,m.2.2.1,m.2.2.2.1,m.2.2.2.2.1,m.2.2.2.2.2.1,m.2.2.2.2.2.2.1,m.2.2.2.2.2.2.2.e)
def bS.m (m:bS):bu:=m.2.2.2.2.2.2.2
def lG:bS:=(0,0,0,0,0,0,false,bH)
def mA (m:bS):ai×Int:=ku m.f (bT m.m.t).1 (bT m.m.t).2
def jN (kb:ai)(m:bS):ai×Int:=wV kb m.f (bT m.m.t).1 (bT m.m.t).2
def hZ (bs:ai)(a b:Nat):ai:=(bs.drop a).take (b - a)
def jB (bs:ai):bS:=
 (((bs.getD 0 0).toNat:Int),(jS (hZ bs 1 9)).1,(jS (hZ bs 9 17)).1,((bs.getD 17 0).toNat:Int),(jS (hZ bs 18 26)).1,(jz (hZ bs 26 34):Int),(bs.getD 34 0).toNat==1,
  if(bs.getD 17 0).toNat=1 then(iN false (bs.drop 35)).1 else bH)
def jq (bs:ai):ai:=bs.take (bs.length - 8)
def CO (bs:ai):ai:=bs.drop (bs.length - 8)
def cM (kb bs:ai):bS×Int:=
 if bs.length<8 then(lG,2) else if CO bs≠jA (qN kb (jq bs)) then(lG,12) else if(jq bs).length<35 then(lG,2)
 else if(mA (jB (jq bs))).2≠0\/(mA (jB (jq bs))).1≠jq bs then(lG,2) else(jB (jq bs),0)
theorem Nl {n:Int}(h:gF n=true):0<=n/\n<=2147483647:=by
 unfold gF at h;simp only[dp,decide_eq_true_eq] at h;exact h
theorem CP {f:oe}{tr:Int}(h:mz f tr=0):(f.1=0\/f.1=1)/\(0<=f.2.1/\f.2.1<=2147483647)/\(0<=f.2.2.1/\f.2.2.1<=2147483647)/\(0<=f.2.2.2.2.1/\f.2.2.2.2.1<=2147483647)/\(1<=f.2.2.2.1/\f.2.2.2.1<=4) /\
  (f.2.2.2.1=1->pN (iO f) tr=0)/\(f.2.2.2.1≠1->wU (iO f)=true):=by
 unfold mz at h
 by_cases h1:qR f=false
 ·rw[if_pos h1] at h;cases h
 rw[if_neg h1] at h
 by_cases h2:yy f=false
 ·rw[if_pos h2] at h;cases h
 rw[if_neg h2] at h;have h1:qR f=true:=by simpa using h1
 have h2:yy f=true:=by simpa using h2
 unfold qR at h1;simp only[dp,Bool.or_eq_true,beq_iff_eq] at h1;obtain⟨a,b,c,d⟩:=h1;unfold yy at h2;rw[dp,dp,decide_eq_true_eq,decide_eq_true_eq] at h2;refine⟨a,Nl b,Nl c,Nl d,⟨h2.1,h2.2.1⟩,λ k=>?_,λ k=>?_⟩
 ·rw[if_pos k] at h;exact h
 ·rw[if_neg k] at h
  by_cases hn:wU (iO f)=false
  ·rw[if_pos hn] at h;cases h
  ·simpa using hn
theorem acq {m:bu}(h:wU m.e=true):m=bH:=by
 unfold wU at h;simp only[dp,beq_iff_eq] at h;obtain⟨ht,h1,h2,h3,h4,h5,h6,h7⟩:=h;obtain⟨a1,a2,a3,a4,a5,a6,a7,a8⟩:=m;simp only[bu.e] at ht h1 h2 h3 h4 h5 h6 h7;rw[yk,decide_eq_true_eq] at h2 h3 h4 h5;obtain rfl:=Cx ht;subst h1 h2 h3 h4 h5 h6 h7;rfl
theorem Nn {m:bS}(h:mA m=(bs,0)):mz m.f (bT m.m.t).2=0/\bs=sY m.f++(if m.2.2.2.1=1 then(dZ m.m).1 else[])/\(m.2.2.2.1=1->(dZ m.m).2=0):=by
 unfold mA ku at h
 by_cases h0:mz m.f (bT m.m.t).2≠0
 ·rw[if_pos h0] at h;injection h with _ h;exact(h0 h).elim
 rw[if_neg h0] at h;have h0:mz m.f (bT m.m.t).2=0:=iG.1 h0;refine⟨h0,?_,λ k=>?_⟩
 ·by_cases k:m.2.2.2.1=1
  ·rw[if_pos k]
   rw[if_neg (λ t=>t k)] at h;injection h with h _
   exact h.symm
  ·rw[if_neg k]
   rw[if_pos (show m.f.2.2.2.1≠1 from k)] at h;injection h with h _
   rw[<- h,dV]
 ·have:=(CP h0).2.2.2.2.2.1 k
  show(lA m.m.e _ _).2=0;unfold lA;rw[if_neg (λ t=>t this)]
theorem IQ (a b c:ai){i j:Nat}(hi:a.length=i)(hj:a.length+b.length=j):hZ (a++(b++c)) i j=b:=by
 subst hi;subst hj;unfold hZ;rw[List.drop_left,show a.length+b.length - a.length=b.length by omega,List.take_left]
theorem TT (a:ai)(x:UInt8)(c:ai){i:Nat}(hi:a.length=i):(a++(x::c)).getD i 0=x:=by
 subst hi;rw[dB,qw (eR _),Nat.sub_self];rfl
theorem TU {n:Int}(h0:0<=n)(h1:n<=255):((UInt8.ofNat (n % 256).toNat).toNat:Int)=n:=by rw[sG ab];omega
theorem acr {m:bS}(hh:0<=m.2.2.2.2.2.1/\m.2.2.2.2.2.1<18446744073709551616)(h:mA m=(bs,0)):jB bs=m:=by
 obtain⟨hc,hb,hp⟩:=Nn h;obtain⟨c1,c2,c3,c4,c5,c6,c7⟩:=CP hc;obtain⟨fr,ep,nu,ki,sl,he,fl,ev⟩:=m;simp only[bS.f,bS.m,iO] at hc hb hp c1 c2 c3 c4 c5 c6 c7 hh;obtain⟨T,hT⟩:∃ T,T=(if ki=1 then(dZ ev).1 else[]):=⟨_,rfl⟩;rw[<- hT] at hb;have F:=UInt8.ofNat (fr % 256).toNat;have e0:bs=[]++(UInt8.ofNat (fr % 256).toNat::(dj ep++(dj nu++(UInt8.ofNat (ki % 256).toNat::(dj sl++(jA he++([if fl=true then 1 else 0]++T))))))):=by
  rw[hb];unfold sY;simp only[kW,gI,iR]
 have e1:bs=[UInt8.ofNat (fr % 256).toNat]++(dj ep++(dj nu++(UInt8.ofNat (ki % 256).toNat::(dj sl++(jA he++([if fl=true then 1 else 0]++T)))))):=by rw[e0];rfl
 have e9:bs=([UInt8.ofNat (fr % 256).toNat]++dj ep)++(dj nu++(UInt8.ofNat (ki % 256).toNat::(dj sl++(jA he++([if fl=true then 1 else 0]++T))))):=by rw[e1,gI]
 have e17:bs=([UInt8.ofNat (fr % 256).toNat]++dj ep++dj nu)++(UInt8.ofNat (ki % 256).toNat::(dj sl++(jA he++([if fl=true then 1 else 0]++T)))):=by rw[e9,gI ([UInt8.ofNat (fr % 256).toNat]++dj ep)]
 have e18:bs=([UInt8.ofNat (fr % 256).toNat]++dj ep++dj nu++[UInt8.ofNat (ki % 256).toNat])++(dj sl++(jA he++([if fl=true then 1 else 0]++T))):=by rw[e17,gI ([UInt8.ofNat (fr % 256).toNat]++dj ep++dj nu)];rfl
 have e26:bs=([UInt8.ofNat (fr % 256).toNat]++dj ep++dj nu++[UInt8.ofNat (ki % 256).toNat]++dj sl)++(jA he++([if fl=true then 1 else 0]++T)):=by rw[e18,gI ([UInt8.ofNat (fr % 256).toNat]++dj ep++dj nu++[UInt8.ofNat (ki % 256).toNat])]
 have e34:bs=([UInt8.ofNat (fr % 256).toNat]++dj ep++dj nu++[UInt8.ofNat (ki % 256).toNat]++dj sl++jA he)++((if fl=true then 1 else 0)::T):=by rw[e26,gI ([UInt8.ofNat (fr % 256).toNat]++dj ep++dj nu++[UInt8.ofNat (ki % 256).toNat]++dj sl)];rfl
 have e35:bs.drop 35=T:=by
  rw[e34,show([UInt8.ofNat (fr % 256).toNat]++dj ep++dj nu++[UInt8.ofNat (ki % 256).toNat]++dj sl++jA he++((if fl=true then 1 else 0)::T))=([UInt8.ofNat (fr % 256).toNat]++dj ep++dj nu++[UInt8.ofNat (ki % 256).toNat]++dj sl++jA he++[if fl=true then 1 else 0])++T by rw[gI _ [_] T];rfl];exact List.drop_left' (by simp only[bU,kG,sW,fZ])
 have g0:bs.getD 0 0=UInt8.ofNat (fr % 256).toNat:=by rw[e0];rfl
 have g17:bs.getD 17 0=UInt8.ofNat (ki % 256).toNat:=by rw[e17];exact TT _ _ _ (by simp only[bU,kG,fZ])
 have Af:bs.getD 34 0=(if fl=true then 1 else 0):=by rw[e34];exact TT _ _ _ (by simp only[bU,kG,sW,fZ])
 have p1:hZ bs 1 9=dj ep:=by rw[e1];exact IQ _ _ _ rfl (by rw[kG];rfl)
 have p9:hZ bs 9 17=dj nu:=by rw[e9];exact IQ _ _ _ (by simp only[bU,kG,fZ]) (by simp only[bU,kG,fZ])
 have p18:hZ bs 18 26=dj sl:=by rw[e18];exact IQ _ _ _ (by simp only[bU,kG,fZ]) (by simp only[bU,kG,fZ])
 have p26:hZ bs 26 34=jA he:=by rw[e26];exact IQ _ _ _ (by simp only[bU,kG,fZ]) (by simp only[bU,kG,sW,fZ])
 have kb:((UInt8.ofNat (ki % 256).toNat).toNat:Int)=ki:=TU ab ab;have CN:(if(UInt8.ofNat (ki % 256).toNat).toNat=1 then(iN false T).1 else bH)=ev:=by
  by_cases k:ki=1
  ·rw[if_pos ab,hT,if_pos k]
   have hp:=hp k;rw[SD false (m:=ev) (Prod.ext rfl hp)]
  ·rw[if_neg ab]
   exact(acq (c7 k)).symm
 have mq:(((if fl=true then 1 else 0:UInt8)).toNat==1)=fl:=by cases fl<;>rfl
 unfold jB;rw[g0,g17,Af,p1,p9,p18,p26,e35,CN,mq,kb,TU (by rcases c1 with h | h<;>omega) (by rcases c1 with h | h<;>omega),HC ep ab ab,HC nu ab ab,HC sl ab ab,abg he hh.1 hh.2]
theorem acs {m:bS}(h:mA m=(bs,0)):35<=bs.length:=by
 rw[(Nn h).2.1,bU,AG];omega
theorem acu {m:bS}(hh:0<=m.2.2.2.2.2.1/\m.2.2.2.2.2.1<18446744073709551616)(h:mA m=(bs,0)):cM kb (bs++jA (qN kb bs))=(m,0):=by
 have hl:(bs++jA (qN kb bs)).length=bs.length+8:=by rw[bU,sW]
 have ht:jq (bs++jA (qN kb bs))=bs:=by unfold jq;rw[hl,Nat.add_sub_cancel,List.take_left]
 have hs:CO (bs++jA (qN kb bs))=jA (qN kb bs):=by unfold CO;rw[hl,Nat.add_sub_cancel,List.drop_left]
 have h35:=acs h;unfold cM;rw[if_neg ab,ht,hs,if_neg (λ t=>t rfl),if_neg ab,acr hh h,h,if_neg bm]
def C237 (p0:av)(w:ah)(K:aP):Prop:=
 aD p0 241 (.agg [.int .i64]) (λ(x1:Int×Unit)=>K (aa 1) w)
 (aD p0 243 (.agg [.str]) (λ(x2:ay×Unit)=>K (aa 2) w)
 (aD p0 245 (.agg [.raw,.raw]) (λ(x3:av×av×Unit)=>K (aa 3) w)
 (aD p0 247 (.agg [.raw]) (λ(x4:av×Unit)=>K (aa 4) w)
 (aD p0 248 (.agg [.raw,.raw]) (λ(x5:av×av×Unit)=>K (aa 5) w)
 (aD p0 249 (.agg [.raw,.raw]) (λ(x6:av×av×Unit)=>K (aa 6) w)
 (K (aa 0) w))))))
def pl237:aN:=.auto
theorem c237 (p0 w K)(h:C237 p0 w K):au 237 #[p0] w K:=aQ Tryz.func237 (p:=pl237) aA h
def C210 (p0:av)(p1:av)(w:ah)(K:aP):Prop:=
 ak 237 #[p0] w bN (λ(x1:Int) w2=>ae (x1==0)
 (K (.bool false) w2)
 (ak 237 #[p0] w2 bN (λ(x3:Int) w4=>ak 237 #[p1] w4 bN (λ(x5:Int) w6=>ae (x3 != x5)
 (K (.bool false) w6)
 (aD p0 241 (.agg [.int .i64]) (λ(x7:Int×Unit)=>aC (.cells #[aa 0] 241) w6 (λ g8 w9=>aG (ad g8) [aa x7.1] w9 (λ aX=>aU aX (λ bt=>aF [.int .i64] (ad g8) bt (λ(cn:Int×Unit)=>aD p1 241 (.agg [.int .i64]) (λ(cA:Int×Unit)=>aT (do eqGuard .eql 241 (.tmp 25) (.tmp 27) (.agg #[aa cn.1]) (.agg #[aa cA.1]);binOp .eql 241 (.agg #[aa cn.1]) (.agg #[aa cA.1])) bt bK (λ(cj:Bool) cB=>K (.bool cj) cB)) False)))))
 (aC (.cells #[aa 0] 241) w6 (λ g16 da=>aG (ad g16) [aa 0] da (λ b9=>aD p0 243 (.agg [.str]) (λ(cJ:ay×Unit)=>aC (.cells #[aj] 243) b9 (λ g20 cr=>aG (ad g20) [.string cJ.1] cr (λ cH=>aU cH (λ dM=>aF [.str] (ad g20) dM (λ(dr:ay×Unit)=>aD p1 243 (.agg [.str]) (λ(cR:ay×Unit)=>aT (do eqGuard .eql 243 (.tmp 35) (.tmp 37) (.agg #[.string dr.1]) (.agg #[.string cR.1]);binOp .eql 243 (.agg #[.string dr.1]) (.agg #[.string cR.1])) dM bK (λ(eX:Bool) gD=>K (.bool eX) gD)) False)))))
 (aC (.cells #[aj] 243) b9 (λ No gr=>aG (ad No) [aj] gr (λ cN=>ak 227 #[p0] cN aM (λ(dt:aB) dQ=>ak 227 #[p1] dQ aM (λ(fk:aB) jc=>ak 238 #[aO dt,aO fk,.func (.func 210) #[] #[]] jc bK (λ(eY:Bool) dW=>K (.bool eY) dW))))))))))))))
def pl210:aN:=(.seq .auto (.seq .auto (.seq (.seq .auto (.seq .auto (.cond (.seq (.tail 3) .auto) .auto))) (.seq (.seq .auto (.seq .auto (.cond (.seq (.tail 3) .auto) .auto))) .auto))))
theorem c210 (p0 p1 w K)(h:C210 p0 p1 w K):au 210 #[p0,p1] w K:=aQ Tryz.func210 (p:=pl210) aA h
def C179 (p0:av)(p1:av)(w:ah)(K:aP):Prop:=
 ak 193 #[p0] w bN (λ(x1:Int) w2=>ae (x1==0)
 (K (.bool false) w2)
 (ak 193 #[p0] w2 bN (λ(x3:Int) w4=>ak 193 #[p1] w4 bN (λ(x5:Int) w6=>ae (x3 != x5)
 (K (.bool false) w6)
 (ak 192 #[p0] w6 (.bR [.one .str,.one (.int .i64)]) (λ(x7:ay×Int×Unit) w8=>ak 192 #[p1] w8 (.bR [.one .str,.one (.int .i64)]) (λ(x9:ay×Int×Unit) aX=>ae (!(x7.1.toList==x9.1.toList))
 (K (.bool false) aX)
 (ae (x7.2.1 != x9.2.1)
 (K (.bool false) aX)
 (ak 195 #[p0] aX (.bR [.one .raw,.one .bool]) (λ(bQ:av×Bool×Unit) br=>ae bQ.2.1
 (ak 195 #[p1] br (.bR [.one .raw,.one .bool]) (λ(cA:av×Bool×Unit) bY=>ak 210 #[bQ.1,cA.1] bY bK (λ(cm:Bool) bV=>ae (!cm)
 (K (.bool false) bV)
 (ak 198 #[p0] bV aM (λ(bZ:aB) b9=>ak 198 #[p1] b9 aM (λ(cJ:aB) bW=>ak 211 #[aO bZ,aO cJ,.func (.func 179) #[] #[]] bW bK (λ(du:Bool) cH=>K (.bool du) cH)))))))
 (ak 198 #[p0] br aM (λ(eB:aB) cZ=>ak 198 #[p1] cZ aM (λ(cR:aB) de=>ak 211 #[aO eB,aO cR,.func (.func 179) #[] #[]] de bK (λ(eD:Bool) cS=>K (.bool eD) cS))))))))))))))
def pl179:aN:=.auto
theorem c179 (p0 p1 w K)(h:C179 p0 p1 w K):au 179 #[p0,p1] w K:=aQ Tryz.func179 (p:=pl179) aA h
def C238 (p0:aS)(bh bC:Nat)(p1:aS)(dk dR:Nat)(p2:av)(w:ah)(K:aP):Prop:=
 ae ((bh:Int) != (dk:Int))
 (K (.bool false) w)
 (cp (Int×Unit) (λ _ s1 w2 jh=>ae (decide (s1.1<(bh:Int)))
 (cz p0 bh s1.1 1 (λ a4=>af .raw a4 w2 (λ(x5:av)=>cz p1 dk s1.1 1 (λ a6=>af .raw a6 w2 (λ(x7:av)=>nH Tryz.prog p2 [x5,x7] bK w2 (λ(x8:Bool) w9=>ae (!x8)
 (K (.bool false) w9)
 (jh (IntKind.i64.wrap (s1.1+1),()) w9)))))))
 (K (.bool true) w2))
 (0,()) w)
def pl238:aN:=(.seq .auto (.seq .auto (.seq (.seq .auto (.block (.loop [(17,.one (.int .i64))] .auto))) .auto)))
theorem c238 (p0 bh bC p1 dk dR p2 w K)(h:C238 p0 bh bC p1 dk dR p2 w K):au 238 #[.slice p0 bh bC,.slice p1 dk dR,p2] w K:=aQ Tryz.func238 (p:=pl238) aA h
def C211 (p0:aS)(bh bC:Nat)(p1:aS)(dk dR:Nat)(p2:av)(w:ah)(K:aP):Prop:=
 ae ((bh:Int) != (dk:Int))
 (K (.bool false) w)
 (cp (Int×Unit) (λ _ s1 w2 jh=>ae (decide (s1.1<(bh:Int)))
 (cz p0 bh s1.1 1 (λ a4=>af .raw a4 w2 (λ(x5:av)=>cz p1 dk s1.1 1 (λ a6=>af .raw a6 w2 (λ(x7:av)=>nH Tryz.prog p2 [x5,x7] bK w2 (λ(x8:Bool) w9=>ae (!x8)
 (K (.bool false) w9)
 (jh (IntKind.i64.wrap (s1.1+1),()) w9)))))))
 (K (.bool true) w2))
 (0,()) w)
def pl211:aN:=(.seq .auto (.seq .auto (.seq (.seq .auto (.block (.loop [(17,.one (.int .i64))] .auto))) .auto)))
theorem c211 (p0 bh bC p1 dk dR p2 w K)(h:C211 p0 bh bC p1 dk dR p2 w K):au 211 #[.slice p0 bh bC,.slice p1 dk dR,p2] w K:=aQ Tryz.func211 (p:=pl211) aA h
def sZ:Ob->Int
 | .none=>0
 | .const _=>1
 | .fix _=>2
 | .add _ _=>3
 | .neg _=>4
 | .mul _ _=>5
 | .max _ _=>6
def lX:Ob->Ob->Bool
 | .const n,.const m=>n==m
 | .fix s,.fix t=>s==t
 | .add a b,.add c d=>lX a c&&lX b d
 | .neg a,.neg c=>lX a c
 | .mul a b,.mul c d=>lX a c&&lX b d
 | .max a b,.max c d=>lX a c&&lX b d
 | _,_=>false
def k8:Tm->Tm->Bool
 | .zero,.zero=>true
 | .one s,.one t=>s==t
 | .dy a,.dy c=>k8 a c
 | .and a b,.and c d=>k8 a c&&k8 b d
 | .or s a b,.or t c d=>s==t&&(k8 a c&&k8 b d)
 | .scale o a,.scale p c=>lX o p&&k8 a c
 | .when n a,.when m c=>n==m&&k8 a c
 | .cond o a b,.cond p c d=>lX o p&&(k8 a c&&k8 b d)
 | _,_=>false
theorem acv (o:Ob)(h:eF o=true):lX o o=true:=by
 induction o<;>simp_all [lX,eF]
theorem acw (t:Tm)(h:dJ t=true):k8 t t=true:=by
 induction t<;>simp_all [k8,dJ,acv]
theorem acx (i j:Int)(o1 o2:Operand)(w:ah):
  (do eqGuard .eql 241 o1 o2 (.agg #[aa i]) (.agg #[aa j]);binOp .eql 241 (.agg #[aa i]) (.agg #[aa j]):Sem av).run Tryz.prog w=.ok (.bool (i==j)) w:=by
 have hf:∃ fs,Tryz.prog.underlying 241=some (.struct fs)/\Tryz.prog.fieldsOf 241=fs:=by
  unfold Program.fieldsOf;rw[Tryz.underlying241];exact⟨_,rfl,rfl⟩
 have hu:Tryz.prog.underlying 241=some (.struct (Tryz.prog.fieldsOf 241)):=by
  obtain⟨fs,h1,h2⟩:=hf;rw[h1,h2]
 rw[Sem.run_bind,run_eqGuard_agg w _ _ _ _ _ _ (show Tryz.prog.eqGuardType Tryz.prog.depth 241=false by kernel_rfl),Result.andThen_ok,run_eql_struct,run_equalIn_agg w _ _ _ _ hu aA];have hF : (Tryz.prog.fieldsOf 241).toList = [{ name := "N", type := 3, offset := 0, embedded := false, tag := "", pkgPath := "", byteOffset := 0 }] := by
  unfold Program.fieldsOf;rw[Tryz.underlying241]
 have p0:∀ (v:av),(part 3 #[v] 0).run Tryz.prog w=.ok v w:=λ v=>by simp[part,isAgg,under Tryz.underlying3]
 rw[hF];have q1:(Op.equalIn 9999 3 (aa i) (aa j)).run Tryz.prog w=.ok (i==j) w:=run_equalIn_int w 9998 _ _ _ _ _ Tryz.underlying3;simp only[Op.eqFields, ne_eq, if_pos (show ¬ ("N" = "_") by decide), Sem.run_bind, p0, Result.andThen_ok, q1]
 by_cases ox:i=j
 ·subst ox;simp
 ·simp[ox]
theorem fix_eq (x y:ay)(o1 o2:Operand)(w:ah):
  (do eqGuard .eql 243 o1 o2 (.agg #[.string x]) (.agg #[.string y]);binOp .eql 243 (.agg #[.string x]) (.agg #[.string y]):Sem av).run Tryz.prog w=.ok (.bool (x.toList==y.toList)) w:=by
 have hf:∃ fs,Tryz.prog.underlying 243=some (.struct fs)/\Tryz.prog.fieldsOf 243=fs:=by
  unfold Program.fieldsOf;rw[Tryz.underlying243];exact⟨_,rfl,rfl⟩
 have hu:Tryz.prog.underlying 243=some (.struct (Tryz.prog.fieldsOf 243)):=by
  obtain⟨fs,h1,h2⟩:=hf;rw[h1,h2]
 rw[Sem.run_bind,run_eqGuard_agg w _ _ _ _ _ _ (show Tryz.prog.eqGuardType Tryz.prog.depth 243=false by kernel_rfl),Result.andThen_ok,run_eql_struct,run_equalIn_agg w _ _ _ _ hu aA];have hF : (Tryz.prog.fieldsOf 243).toList = [{ name := "Name", type := 9, offset := 0, embedded := false, tag := "", pkgPath := "", byteOffset := 0 }] := by
  unfold Program.fieldsOf;rw[Tryz.underlying243]
 have p0:∀ (v:av),(part 9 #[v] 0).run Tryz.prog w=.ok v w:=λ v=>by simp[part,isAgg,under Tryz.underlying9]
 rw[hF];have q1:(Op.equalIn 9999 9 (.string x) (.string y)).run Tryz.prog w=.ok (x.toList==y.toList) w:=run_equalIn_string w 9998 _ _ _ Tryz.underlying9;simp only[Op.eqFields, ne_eq, if_pos (show ¬ ("Name" = "_") by decide), Sem.run_bind, p0, Result.andThen_ok, q1]
 cases x.toList==y.toList<;>simp
theorem Np (o:Ob)(w:ah):au 237 #[o.v] w λ r w'=>r=aa (sZ o)/\w=w':=by
 refine c237 o.v w _ ?_;cases o with
 | none=>exact aD.nil rfl (aD.nil rfl (aD.nil rfl (aD.nil rfl (aD.nil rfl (aD.nil rfl ⟨rfl,rfl⟩)))))
 | const n=>exact aD.hit (n,()) rfl ⟨rfl,rfl⟩
 | fix s=>exact aD.bn rfl ar (aD.hit (str s,()) rfl ⟨rfl,rfl⟩)
 | add l r=>exact aD.bn rfl ar (aD.bn rfl ar (aD.hit (l.v,r.v,()) rfl ⟨rfl,rfl⟩))
 | neg x=>exact aD.bn rfl ar (aD.bn rfl ar (aD.bn rfl ar (aD.hit (x.v,()) rfl ⟨rfl,rfl⟩)))
 | mul l r=>exact aD.bn rfl ar (aD.bn rfl ar (aD.bn rfl ar (aD.bn rfl ar (aD.hit (l.v,r.v,()) rfl ⟨rfl,rfl⟩))))
 | max l r=>exact aD.bn rfl ar (aD.bn rfl ar (aD.bn rfl ar (aD.bn rfl ar (aD.bn rfl ar (aD.hit (l.v,r.v,()) rfl ⟨rfl,rfl⟩)))))
def og {α β:Type}(f:α->β->Bool):List α->List β->Bool
 | [],[]=>true
 | a::l,b::m=>f a b&&og f l m
 | _,_=>false
theorem Nq {α β:Type}(f:α->β->Bool):∀ (l:List α) (m:List β),l.length≠m.length->og f l m=false
 | [],[],h=>absurd rfl h
 | [],_::_,_=>rfl
 | _::_,[],_=>rfl
 | a::l,b::m,h=>by unfold og;rw[Nq f l m (by simpa using h),Bool.and_false]
theorem Nr {α β:Type}(f:α->β->Bool):∀ (l:List α) (m:List β) (i:Nat) (a:α) (b:β),l[i]? = some a->m[i]? = some b->og f (l.take (i+1)) (m.take (i+1))=(og f (l.take i) (m.take i)&&f a b)
 | [],_,i,a,b,h,_=>by simp at h
 | x::l,[],i,a,b,_,h=>by simp at h
 | x::l,y::m,0,a,b,h,k=>by simp at h k;subst h k;simp[og]
 | x::l,y::m,i+1,a,b,h,k=>by
  have:=Nr f l m i a b (by simpa using h) (by simpa using k);simp only[List.take_succ_cons,og];rw[this,Bool.and_assoc]
theorem Ns {α β:Type}(f:α->β->Bool):∀ (l:List α) (m:List β) (i:Nat) (a:α) (b:β),l[i]? = some a->m[i]? = some b->f a b=false->og f l m=false
 | [],_,i,a,b,h,_,_=>by simp at h
 | x::l,[],i,a,b,_,h,_=>by simp at h
 | x::l,y::m,0,a,b,h,k,e=>by simp at h k;subst h k;simp[og,e]
 | x::l,y::m,i+1,a,b,h,k,e=>by
  have:=Ns f l m i a b (by simpa using h) (by simpa using k) e;simp[og,this]
theorem acy {u v:Sl}{l m:List Ob}(hu:oY w u l)(hv:oY w v m)(hl:l.length<=2){cb:av}(f:Ob->Ob->Bool)
  (HU:∀ a∈l,∀ b∈m,∀ w K,(∀ w',Fr none1 w w'->K (f a b) w')->nH Tryz.prog cb [a.v,b.v] bK w K) :
  au 238 #[.slice u.1 u.2.1 u.2.2,.slice v.1 v.2.1 v.2.2,cb] w λ r w'=>r=.bool (og f l m)/\Fr none1 w w':=by
 refine c238 _ _ _ _ _ _ cb w _ ?_;have dP:=hu.len;have dD:=hv.len;refine ae.ne (λ h=>?_) (λ h=>?_)
 ·rw[Nq f l m ab];exact⟨rfl,Fr.refl _ _⟩
 refine cp.of (λ s w'=>∃ i:Nat,s.1=i/\i<=l.length/\og f (l.take i) (m.take i)=true/\Fr none1 w w') (λ s _=>(2 - s.1).toNat) ⟨0,rfl,fj _,rfl,Fr.refl _ _⟩ ?_;rintro _ ⟨i',_⟩ w2 ⟨i,hi,jV,hall,f2⟩;dsimp only at hi ⊢;subst hi;refine ae.dec (λ bI=>?_) (λ gk=>?_)
 ·have ir:i<l.length:=ab
  have Nt:i<m.length:=ab;obtain⟨a,ha⟩:∃ a,l[i]? = some a:=⟨_,cV ir⟩;obtain⟨b,hb⟩:∃ b,m[i]? = some b:=⟨_,cV Nt⟩;refine(hu.ag f2).ld ha ?_;refine(hv.ag f2).ld hb ?_;refine HU a (mI ha) b (mI hb) _ _ λ w3 f3=>?_;refine ae.not (ae.by (λ e=>?_) (λ e=>?_))
  ·exact⟨⟨i+1,by rw[wI ab ab];omega,by omega,by rw[Nr f l m i a b ha hb,hall,e];rfl,f2.trans f3⟩,by rw[wI ab ab];omega⟩
  ·rw[Ns f l m i a b ha hb e];exact⟨rfl,f2.trans f3⟩
 ·have:i=l.length:=ab
  subst this;rw[qx,gV ab] at hall;rw[hall];exact⟨rfl,f2⟩
theorem acz {u v:Sl}{l m:List Tm}(hu:qD w u l)(hv:qD w v m)(hl:l.length<=2){cb:av}(f:Tm->Tm->Bool)
  (HU:∀ a∈l,∀ b∈m,∀ w K,(∀ w',Fr none1 w w'->K (f a b) w')->nH Tryz.prog cb [a.v,b.v] bK w K) :
  au 211 #[.slice u.1 u.2.1 u.2.2,.slice v.1 v.2.1 v.2.2,cb] w λ r w'=>r=.bool (og f l m)/\Fr none1 w w':=by
 refine c211 _ _ _ _ _ _ cb w _ ?_;have dP:=hu.len;have dD:=hv.len;refine ae.ne (λ h=>?_) (λ h=>?_)
 ·rw[Nq f l m ab];exact⟨rfl,Fr.refl _ _⟩
 refine cp.of (λ s w'=>∃ i:Nat,s.1=i/\i<=l.length/\og f (l.take i) (m.take i)=true/\Fr none1 w w') (λ s _=>(2 - s.1).toNat) ⟨0,rfl,fj _,rfl,Fr.refl _ _⟩ ?_;rintro _ ⟨i',_⟩ w2 ⟨i,hi,jV,hall,f2⟩;dsimp only at hi ⊢;subst hi;refine ae.dec (λ bI=>?_) (λ gk=>?_)
 ·have ir:i<l.length:=ab
  have Nt:i<m.length:=ab;obtain⟨a,ha⟩:∃ a,l[i]? = some a:=⟨_,cV ir⟩;obtain⟨b,hb⟩:∃ b,m[i]? = some b:=⟨_,cV Nt⟩;refine(hu.ag f2).ld ha ?_;refine(hv.ag f2).ld hb ?_;refine HU a (mI ha) b (mI hb) _ _ λ w3 f3=>?_;refine ae.not (ae.by (λ e=>?_) (λ e=>?_))
  ·exact⟨⟨i+1,by rw[wI ab ab];omega,by omega,by rw[Nr f l m i a b ha hb,hall,e];rfl,f2.trans f3⟩,by rw[wI ab ab];omega⟩
  ·rw[Ns f l m i a b ha hb e];exact⟨rfl,f2.trans f3⟩
 ·have:i=l.length:=ab
  subst this;rw[qx,gV ab] at hall;rw[hall];exact⟨rfl,f2⟩
theorem acA (o:Ob):sZ o=0↔o=.none:=by cases o<;>simp[sZ]
theorem acB {a b:Ob}(h:sZ a≠sZ b):lX a b=false:=by cases a<;>cases b<;>simp_all [lX,sZ]
theorem acC {a b:Ob}(h0:sZ a≠0)(h:sZ a=sZ b)(hl:(sL a).1=false):lX a b=og lX (dY a) (dY b):=by
 cases a<;>cases b<;>simp_all [lX,sZ,sL,dY,og]
theorem TW (a b:Ob)(w:ah):au 210 #[a.v,b.v] w λ r w'=>r=.bool (lX a b)/\Fr none1 w w':=by
 have ih:∀ k∈dY a,∀ b w,au 210 #[k.v,b.v] w λ r w'=>r=.bool (lX k b)/\Fr none1 w w':=λ k hk b w=>TW k b w;refine c210 a.v b.v w _ ?_;refine an.of (Np a w) ?_;rintro _ _ ⟨rfl,rfl⟩;refine⟨_,rfl,ae.eq (λ h=>?_) (λ h=>?_)⟩
 ·have:=(acA a).1 h
  subst this;exact⟨by cases b<;>rfl,Fr.refl _ _⟩
 refine an.of (Np a w) ?_;rintro _ _ ⟨rfl,rfl⟩;refine⟨_,rfl,?_⟩;refine an.of (Np b w) ?_;rintro _ _ ⟨rfl,rfl⟩;refine⟨_,rfl,ae.ne (λ hk=>?_) (λ hk=>?_)⟩
 ·rw[acB hk];exact⟨rfl,Fr.refl _ _⟩
 have deep:(sL a).1=false->∀ w2,Fr none1 w w2 ->
   ak 227 #[a.v] w2 aM (λ(dt:aS×Nat×Nat) dQ=>ak 227 #[b.v] dQ aM (λ(fk:aS×Nat×Nat) jc=>
   ak 238 #[.slice dt.1 dt.2.1 dt.2.2,.slice fk.1 fk.2.1 fk.2.2,.func (.func 210) #[] #[]] jc bK (λ(eY:Bool) dW=>(Value.bool eY)=.bool (lX a b)/\Fr none1 w dW))):=λ hl w2 f2=>by
  refine an.of (Ce a w2) ?_;rintro _ w3 ⟨u,rfl,hu,f3⟩;refine⟨u,rfl,?_⟩;refine an.of (Ce b w3) ?_;rintro _ w4 ⟨v,rfl,hv,f4⟩;refine⟨v,rfl,?_⟩;refine an.of (acy (hu.ag f4) hv (HP a) lX λ x hx y hy w K hK=>?_) ?_
  ·refine pC aA Tryz.func210 aA ((ih x hx y w).mono ?_)
   rintro _ w' ⟨rfl,f⟩;exact⟨_,rfl,hK w' f⟩
  ·rintro _ w5 ⟨rfl,f5⟩
   exact⟨_,rfl,by rw[acC h hk hl],((f2.trans f3).trans f4).trans f5⟩
 cases a with
 | none=>exact absurd rfl h
 | const n=>
  cases b<;>simp only[sZ] at hk<;>try (exact absurd hk ar)
  rename_i m;refine aD.hit (n,()) rfl (dO (zs:=[aa 0]) (vs:=[aa n]) rfl rfl λ g w1 hg hb f1=>?_);refine aU.of λ w2 _ f2=>?_;refine aF.aR (cks:=[.int .i64]) (x:=(n,())) (f2.ag hb) ?_;refine aD.hit (m,()) rfl ?_;exact⟨_,w2,acx n m _ _ w2,rfl,f1.trans f2⟩
 | fix s=>
  cases b<;>simp only[sZ] at hk<;>try (exact absurd hk ar)
  rename_i t;refine aD.bn rfl ar (pP (zs:=[aa 0]) (vs:=[aa 0]) rfl rfl λ w0 f0=>?_);refine aD.hit (str s,()) rfl (dO (zs:=[aj]) (vs:=[.string (str s)]) rfl rfl λ g w1 hg hb f1=>?_);refine aU.of λ w2 _ f2=>?_;refine aF.aR (cks:=[.str]) (x:=(str s,())) (f2.ag hb) ?_;refine aD.hit (str t,()) rfl ?_;refine⟨_,w2,fix_eq _ _ _ _ w2,?_,(f0.trans f1).trans f2⟩;show Value.bool _=.bool (s==t);dsimp only;rw[ly]
  by_cases e:s=t<;>simp[e]
 | add l r=>exact aD.bn rfl ar (pP (zs:=[.int .i64 0]) (vs:=[.int .i64 0]) rfl rfl λ w1 f1=>aD.bn rfl ar (pP (zs:=[aj]) (vs:=[aj]) rfl rfl λ w2 f2=>deep rfl w2 (f1.trans f2)))
 | neg x=>exact aD.bn rfl ar (pP (zs:=[.int .i64 0]) (vs:=[.int .i64 0]) rfl rfl λ w1 f1=>aD.bn rfl ar (pP (zs:=[aj]) (vs:=[aj]) rfl rfl λ w2 f2=>deep rfl w2 (f1.trans f2)))
 | mul l r=>exact aD.bn rfl ar (pP (zs:=[.int .i64 0]) (vs:=[.int .i64 0]) rfl rfl λ w1 f1=>aD.bn rfl ar (pP (zs:=[aj]) (vs:=[aj]) rfl rfl λ w2 f2=>deep rfl w2 (f1.trans f2)))
 | max l r=>exact aD.bn rfl ar (pP (zs:=[.int .i64 0]) (vs:=[.int .i64 0]) rfl rfl λ w1 f1=>aD.bn rfl ar (pP (zs:=[aj]) (vs:=[aj]) rfl rfl λ w2 f2=>deep rfl w2 (f1.trans f2)))
termination_by SizeOf.sizeOf a
decreasing_by exact HN hk
theorem acD {a b:Tm}(h:lB a≠lB b):k8 a b=false:=by cases a<;>cases b<;>simp_all [k8,lB]
theorem acE {a b:Tm}(h0:lB a≠0)(h:lB a=lB b):k8 a b=(decide (kg a=kg b)&&((!(iu a).2||lX (iu a).1 (iu b).1)&&og k8 (eK a) (eK b))):=by
 cases a<;>cases b<;>simp_all [k8,lB,kg,iu,eK,og]<;>(try (rw[xL];simp))
theorem TX (a b:Tm)(w:ah):au 179 #[a.v,b.v] w λ r w'=>r=.bool (k8 a b)/\Fr none1 w w':=by
 have ih:∀ k∈eK a,∀ b w,au 179 #[k.v,b.v] w λ r w'=>r=.bool (k8 k b)/\Fr none1 w w':=λ k hk b w=>TX k b w;refine c179 a.v b.v w _ ?_;refine an.of (wo a w) ?_;rintro _ _ ⟨rfl,rfl⟩;refine⟨_,rfl,ae.eq (λ h=>?_) (λ h=>?_)⟩
 ·have:=(LJ a).1 h
  subst this;exact⟨by cases b<;>rfl,Fr.refl _ _⟩
 refine an.of (wo a w) ?_;rintro _ _ ⟨rfl,rfl⟩;refine⟨_,rfl,?_⟩;refine an.of (wo b w) ?_;rintro _ _ ⟨rfl,rfl⟩;refine⟨_,rfl,ae.ne (λ hk=>?_) (λ hk=>?_)⟩
 ·rw[acD hk];exact⟨rfl,Fr.refl _ _⟩
 have hP:=acE h hk;refine an.of (LL a w) ?_;rintro _ w1 ⟨rfl,f1⟩;refine⟨(str (kg a).1,(kg a).2,()),rfl,?_⟩;refine an.of (LL b w1) ?_;rintro _ w2 ⟨rfl,f2⟩;refine⟨(str (kg b).1,(kg b).2,()),rfl,?_⟩;dsimp only;have f12:=f1.trans f2;rw[ly];refine ae.not (ae.dec (λ h1=>?_) (λ h1=>?_))
 case refine_2=>
  rw[hP,decide_eq_false (λ t=>h1 (by rw[t]))];exact⟨rfl,f12⟩
 refine ae.ne (λ h2=>?_) (λ h2=>?_)
 ·rw[hP,decide_eq_false (λ t=>h2 (by rw[t]))];exact⟨rfl,f12⟩
 rw[decide_eq_true (Prod.ext h1 h2),iF] at hP;have deep:∀ w2,Fr none1 w w2->(!(iu a).2||lX (iu a).1 (iu b).1)=true ->
   ak 198 #[a.v] w2 aM (λ(dt:aS×Nat×Nat) dQ=>ak 198 #[b.v] dQ aM (λ(fk:aS×Nat×Nat) jc=>
   ak 211 #[.slice dt.1 dt.2.1 dt.2.2,.slice fk.1 fk.2.1 fk.2.2,.func (.func 179) #[] #[]] jc bK (λ(eY:Bool) dW=>(Value.bool eY)=.bool (k8 a b)/\Fr none1 w dW))):=λ w2 f2 hn=>by
  refine an.of (ED a w2) ?_;rintro _ w3 ⟨u,rfl,hu,f3,_⟩;refine⟨u,rfl,?_⟩;refine an.of (ED b w3) ?_;rintro _ w4 ⟨v,rfl,hv,f4,_⟩;refine⟨v,rfl,?_⟩;refine an.of (acz (hu.ag f4) hv (HR a) k8 λ x hx y hy w K hK=>?_) ?_
  ·refine pC aA Tryz.func179 aA ((ih x hx y w).mono ?_)
   rintro _ w' ⟨rfl,f⟩;exact⟨_,rfl,hK w' f⟩
  ·rintro _ w5 ⟨rfl,f5⟩
   exact⟨_,rfl,by rw[hP,hn,iF],((f2.trans f3).trans f4).trans f5⟩
 refine an.of (HW a w2) ?_;rintro _ w3 ⟨rfl,f3⟩;refine⟨(_,_,()),rfl,ae.by (λ e=>?_) (λ e=>?_)⟩
 ·have e:(iu a).2=true:=e
  refine an.of (HW b w3) ?_;rintro _ w4 ⟨rfl,f4⟩;refine⟨(_,_,()),rfl,?_⟩;refine an.of (TW (iu a).1 (iu b).1 w4) ?_;rintro _ w5 ⟨rfl,f5⟩;refine⟨_,rfl,ae.not (ae.by (λ e2=>?_) (λ e2=>?_))⟩
  ·exact deep w5 (((f12.trans f3).trans f4).trans f5) (by rw[e2];simp)
  ·rw[hP,e,e2];exact⟨rfl,((f12.trans f3).trans f4).trans f5⟩
 ·have e:(iu a).2=false:=e
  exact deep w3 (f12.trans f3) (by rw[e];rfl)
termination_by SizeOf.sizeOf a
decreasing_by exact HO hk
def C143 (p0:di)(p1:di)(w:ah)(K:aP):Prop:=
 aC (.cells ((cO p0).toArray) 34) w (λ g1 w2=>aC (.cells ((cO p1).toArray) 34) w2 (λ g3 w4=>dc (Bool×Unit) (λ J5=>af .raw ((ad g1).add 7) w4 (λ(x8:av)=>aT (do eqGuard .eql 32 (.tmp 7) (.const .nilIface) x8 .nilIface;binOp .eql 32 x8 .nilIface) w4 bK (λ(x9:Bool) aX=>ae x9
 (af .raw ((ad g3).add 7) aX (λ(bQ:av)=>aT (do eqGuard .eql 32 (.tmp 11) (.const .nilIface) bQ .nilIface;binOp .eql 32 bQ .nilIface) aX bK (λ(cn:Bool) bM=>ae cn
 (J5 (true,()) bM)
 (af .raw ((ad g1).add 7) bM (λ(cj:av)=>af .raw ((ad g3).add 7) bM (λ(cm:av)=>ak 179 #[cj,cm] bM bK (λ(bP:Bool) da=>J5 (bP,()) da)))))))
 (af .raw ((ad g1).add 7) aX (λ(cF:av)=>af .raw ((ad g3).add 7) aX (λ(cJ:av)=>ak 179 #[cF,cJ] aX bK (λ(dE:Bool) cr=>J5 (dE,()) cr)))))))
 (λ _ s6 w7=>ae s6.1
 (af (.int .i64) ((ad g1).add 0) w7 (λ(cW:Int)=>af (.int .i64) ((ad g3).add 0) w7 (λ(eB:Int)=>ae (cW==eB)
 (af .str ((ad g1).add 1) w7 (λ(dr:ay)=>af .str ((ad g3).add 1) w7 (λ(cR:ay)=>ae (dr.toList==cR.toList)
 (af .str ((ad g1).add 2) w7 (λ(eX:ay)=>af .str ((ad g3).add 2) w7 (λ(eD:ay)=>ae (eX.toList==eD.toList)
 (af .str ((ad g1).add 3) w7 (λ(ji:ay)=>af .str ((ad g3).add 3) w7 (λ(eQ:ay)=>ae (ji.toList==eQ.toList)
 (af .str ((ad g1).add 4) w7 (λ(gB:ay)=>af .str ((ad g3).add 4) w7 (λ(dt:ay)=>ae (gB.toList==dt.toList)
 (af (.int .i64) ((ad g1).add 5) w7 (λ(gx:Int)=>af (.int .i64) ((ad g3).add 5) w7 (λ(fk:Int)=>ae (gx==fk)
 (af (.int .i64) ((ad g1).add 6) w7 (λ(fD:Int)=>af (.int .i64) ((ad g3).add 6) w7 (λ(eY:Int)=>K (.bool (fD==eY)) w7)))
 (K (.bool false) w7))))
 (K (.bool false) w7))))
 (K (.bool false) w7))))
 (K (.bool false) w7))))
 (K (.bool false) w7))))
 (K (.bool false) w7))))
 (K (.bool false) w7))))
def pl143:aN:=(.seq .auto (.join [(5,.one .bool)] .auto .auto))
theorem c143 (p0 p1 w K)(h:C143 p0 p1 w K):au 143 #[.agg (cO p0).toArray,.agg (cO p1).toArray] w K:=aQ Tryz.func143 (p:=pl143) aA h
def vi (a b:bu):Bool:=((jJ a.t.v&&jJ b.t.v)||k8 a.t b.t)&&(a.1==b.1&&(a.2.1==b.2.1&&(a.2.2.1==b.2.2.1&&(a.2.2.2.1==b.2.2.2.1&&(a.2.2.2.2.1==b.2.2.2.2.1&&(a.2.2.2.2.2.1==b.2.2.2.2.2.1&&a.2.2.2.2.2.2.1==b.2.2.2.2.2.2.1))))))
theorem TY (t:Tm):tO t.v:=by cases t<;>first | (exact .inl rfl) | (exact .inr ⟨_,_,rfl⟩)
theorem acF (a b : bu)(w : ah): au 143 #[ke a.e, ke b.e] w λ r w' => r = .bool (vi a b) /\ Fr none1 w w' := by
  refine c143 a.e b.e w _ ?_;unfold C143;refine aC.of λ g1 w1 eG aE f1 ng => aC.of λ g3 w2 pV bJ f2 iQ => ?_;have aE : w2.heap[g1]? = some (.cells #[aa a.1, .string (str a.2.1), .string (str a.2.2.1), .string (str a.2.2.2.1), .string (str a.2.2.2.2.1), aa a.2.2.2.2.2.1, aa a.2.2.2.2.2.2.1, a.t.v] 34 (0, 0)) := f2.ag aE;have bJ : w2.heap[g3]? = some (.cells #[aa b.1, .string (str b.2.1), .string (str b.2.2.1), .string (str b.2.2.2.1), .string (str b.2.2.2.2.1), aa b.2.2.2.2.2.1, aa b.2.2.2.2.2.2.1, b.t.v] 34 (0, 0)) := bJ;have f12 := f1.trans f2;refine dc.of (λ s w' => s.1 = ((jJ a.t.v && jJ b.t.v) || k8 a.t b.t) /\ Fr none1 w2 w') ?_ ?_
  · have cmp : (jJ a.t.v && jJ b.t.v) = false -> af .raw ((⟨g1, 0, none⟩ : Addr).add 7) w2 (λ(cF : av) => af .raw ((⟨g3, 0, none⟩ : Addr).add 7) w2 (λ(cJ : av) => ak 179 #[cF, cJ] w2 bK (λ(dE : Bool) cr =>
        dE = ((jJ a.t.v && jJ b.t.v) || k8 a.t b.t) /\ Fr none1 w2 cr))) := λ q => by
      refine af.aw aE (x := a.t.v) rfl (af.aw bJ (x := b.t.v) rfl ?_);refine an.of (TX a.t b.t w2) ?_;rintro _ w3 ⟨rfl, f3⟩;exact⟨_, rfl, by rw[q]; rfl, f3⟩
    refine af.aw aE (x := a.t.v) rfl ?_;refine⟨jJ a.t.v, w2, nil_eq Nc _ (TY _) w2, ?_⟩;refine ae.by (λ q => ?_) (λ q => cmp (by rw[q]; rfl));refine af.aw bJ (x := b.t.v) rfl ?_;refine⟨jJ b.t.v, w2, nil_eq Nc _ (TY _) w2, ?_⟩;refine ae.by (λ q' => ?_) (λ q' => cmp (by rw[q, q']; rfl));exact⟨by rw[q, q']; rfl, Fr.refl _ _⟩
  rintro _ ⟨s, _⟩ w3 ⟨hs, f3⟩;dsimp only at hs ⊢;have aE := f3.ag aE;have bJ := f3.ag bJ;have f13 := f12.trans f3;unfold vi;rw[<- hs];refine ae.by (λ q => ?_) (λ q => by rw[q]; exact⟨rfl, f13⟩);rw[q, iF];refine af.aw aE (x := a.1) rfl (af.aw bJ (x := b.1) rfl ?_);refine ae.by (λ q => ?_) (λ q => by rw[q]; exact⟨rfl, f13⟩);rw[q, iF];refine af.aw aE (x := str a.2.1) rfl (af.aw bJ (x := str b.2.1) rfl ?_);rw[ly, <- Bool.beq_eq_decide_eq];refine ae.by (λ q => ?_) (λ q => by rw[q]; exact⟨rfl, f13⟩);rw[q, iF];refine af.aw aE (x := str a.2.2.1) rfl (af.aw bJ (x := str b.2.2.1) rfl ?_);rw[ly, <- Bool.beq_eq_decide_eq];refine ae.by (λ q => ?_) (λ q => by rw[q]; exact⟨rfl, f13⟩);rw[q, iF];refine af.aw aE (x := str a.2.2.2.1) rfl (af.aw bJ (x := str b.2.2.2.1) rfl ?_);rw[ly, <- Bool.beq_eq_decide_eq];refine ae.by (λ q => ?_) (λ q => by rw[q]; exact⟨rfl, f13⟩);rw[q, iF];refine af.aw aE (x := str a.2.2.2.2.1) rfl (af.aw bJ (x := str b.2.2.2.2.1) rfl ?_);rw[ly, <- Bool.beq_eq_decide_eq];refine ae.by (λ q => ?_) (λ q => by rw[q]; exact⟨rfl, f13⟩);rw[q, iF];refine af.aw aE (x := a.2.2.2.2.2.1) rfl (af.aw bJ (x := b.2.2.2.2.2.1) rfl ?_);refine ae.by (λ q => ?_) (λ q => by rw[q]; exact⟨rfl, f13⟩);rw[q, iF];refine af.aw aE (x := a.2.2.2.2.2.2.1) rfl (af.aw bJ (x := b.2.2.2.2.2.2.1) rfl ?_);exact⟨rfl, f13⟩
theorem acG {t:Tm}(h:mu t=0):dJ t=true:=by
 unfold mu at h
 repeat' split at h
 all_goals first | (exact absurd h ar) | skip
 rename_i h1 h2 h3 _;simpa using h1
theorem TZ {m:bu}(h:dZ m=(bs,0)):vi m m=true:=by
 obtain⟨hc,_⟩:=SC h;obtain⟨hk,ho,_,_,_,_,ht⟩:=Iq hc;have key:((jJ m.t.v&&jJ m.t.v)||k8 m.t m.t)=true:=by
  by_cases h2:m.e.1=2
  ·have hw:mu m.t=0:=by
    have:=ht h2;unfold bT at this;split at this
    ·rename_i c;exact(c this).elim
    ·rename_i c;exact iG.1 c
   rw[acw m.t (acG hw),Bool.or_true]
  ·have hn:dX m.e.1 84=false:=by
    unfold dX iS;rw[if_neg h2]
    repeat' split
    all_goals decide
   unfold qB at ho;rw[hn] at ho;simp only[Bool.or_false,dp] at ho;have hh:jJ m.t.v=true:=ho.2.2;rw[hh];rfl
 unfold vi;rw[key];simp
abbrev dS:=bu×Bool
def iz (x:dS):ai×Int:=yo x.1.e (bT x.1.t).1 (bT x.1.t).2 x.2
def dF (kb:ai)(h:Int)(x:dS):Int×Int:=if(iz x).2≠0 then(0,(iz x).2) else(qN kb (jA h++(iz x).1),0)
def pY (f:bS):Int:=mz f.f (bT f.m.t).2
structure PeerM where
 kb:ai
 side:Int
 es:List dS
 hs:List Int
 bX:fE
 off:bu×Bool
 aW:bu×Bool
 wanted:Bool
 bD:Bool
 refused:Int
variable {p q:PeerM}
structure cE where
 cP:Bool
 dz:Bool
 bB:dS
 cI:bu
 drop:Bool
 wanted:Bool
 bD:Bool
 calm:Bool
 bg:List bS
variable {a:cE}
def bq:cE:=⟨false,false,(bH,false),bH,false,false,false,false,[]⟩
def nB:bu:=(1,[],[],[],[],0,0,.none)
def j6 (kb:ai)(side:Int):PeerM:=⟨kb,if side=0 then 0 else 1,[],[0],Au,(bH,false),(bH,false),false,false,0⟩
namespace PeerM
variable (p:PeerM)
def len:Int:=p.es.length
def head:Int:=p.hs.getD p.es.length 0
def at_ (n:Int):Int×Bool:=if n<0\/(p.hs.length:Int)<=n then(0,false) else(p.hs.getD n.toNat 0,true)
def owner (n:Int):Int:=if n % 2=0 then 0 else 1
def full:Bool:=decide (64<=p.es.length)
def fr (kind slot head:Int)(flag:Bool)(m:bu):bS:=(0,0,0,kind,slot,head,flag,m)
def fG (kind:Int)(flag:Bool)(m:bu):bS:=fr kind p.len p.head flag m
def offer (m:bu):PeerM×Int:=
 if p.bD=true then(p,13) else if p.off.2=true\/(p.aW.2=true/\p.aW.1.kind≠1) then(p,9) else if p.full=true then(p,5) else
 if gT p.bX m p.side≠0 then(p,gT p.bX m p.side) else({ p with off:=(m,true) },0)
def fH (m:bu):cE:=if gT p.bX m p.side≠0 then{ bq with drop:=true } else{ bq with dz:=true,cI:=m,bg:=[p.fG 1 false m] }
def tick:cE:=
 if p.bD=true then{ bq with bg:=[p.fG 4 true bH] } else if p.full=true then bq else
 if p.aW.2=true then{ bq with bg:=[p.fG 1 false p.aW.1] } else
 if owner p.len=p.side/\p.off.2=true then p.fH p.off.1 else if owner p.len=p.side/\p.wanted=true then p.fH nB else
 if owner p.len≠p.side/\p.off.2=true then{ bq with bg:=[p.fG 3 false bH] } else bq
def kN (n head:Int):Bool:=((p.at_ n).2&&(p.at_ n).1 != head)||decide (p.len+1<n)
def lH (f:bS):cE:=
 { bq with bD:=p.kN f.2.2.2.2.1 f.2.2.2.2.2.1,calm:=!p.kN f.2.2.2.2.1 f.2.2.2.2.2.1&&(f.2.2.2.2.1==p.len&&p.bD),bg:=if f.2.2.2.2.2.2.1=true then[p.fG 4 false bH] else[] }
def want (f:bS):cE:=if p.kN f.2.2.2.2.1 f.2.2.2.2.2.1=true then{ bq with bD:=true } else{ bq with wanted:=f.2.2.2.2.1==p.len&&owner f.2.2.2.2.1==p.side }
def cu (m:bu):Bool:=gT p.bX m (1 - p.side) != 0||(p.refused / 2 ^ m.kind.toNat) % 2==1
def la (f:bS):cE:=
 if owner f.2.2.2.2.1=p.side\/p.kN f.2.2.2.2.1 f.2.2.2.2.2.1=true then{ bq with bD:=true } else
 if f.2.2.2.2.1<p.len then{ bq with bg:=[fr 2 f.2.2.2.2.1 (p.at_ (f.2.2.2.2.1+1)).1 (p.es.getD f.2.2.2.2.1.toNat (bH,false)).2 bH] } else
 if p.len<f.2.2.2.2.1\/p.full=true then bq else
 if(dF p.kb p.head (f.m,p.cu f.m)).2≠0 then bq else
 { bq with cP:=true,bB:=(f.m,p.cu f.m),bg:=[fr 2 f.2.2.2.2.1 (dF p.kb p.head (f.m,p.cu f.m)).1 (p.cu f.m) bH] }
def mS (f:bS):cE:=
 if owner f.2.2.2.2.1≠p.side\/p.len<f.2.2.2.2.1 then{ bq with bD:=true } else
 if f.2.2.2.2.1<p.len then{ bq with bD:=(p.at_ (f.2.2.2.2.1+1)).1 != f.2.2.2.2.2.1 } else
 if p.aW.2=false then{ bq with bD:=true } else
 if(dF p.kb p.head (p.aW.1,f.2.2.2.2.2.2.1)).2≠0\/(dF p.kb p.head (p.aW.1,f.2.2.2.2.2.2.1)).1≠f.2.2.2.2.2.1 then{ bq with bD:=true } else
 { bq with cP:=true,bB:=(p.aW.1,f.2.2.2.2.2.2.1) }
def take (f:bS):cE:=
 if pY f≠0\/f.1=p.side then bq else if f.2.2.2.1=4 then p.lH f else if p.bD=true then bq else
 if f.2.2.2.1=3 then p.want f else if f.2.2.2.1=1 then p.la f else p.mS f
def entry (x:dS):PeerM×Int:=
 if 64<=p.es.length then(p,5) else if(dF p.kb p.head x).2≠0 then(p,(dF p.kb p.head x).2) else
 if x.2=false/\(jo p.bX x.1 (owner p.len)).2≠0 then(p,(jo p.bX x.1 (owner p.len)).2) else
 ({ p with es:=p.es++[x],hs:=p.hs++[(dF p.kb p.head x).1],bX:=if x.2=true then p.bX else(jo p.bX x.1 (owner p.len)).1,aW:=(bH,false),wanted:=false },0)
def lg (a:cE):PeerM:=if a.dz=true then{ p with aW:=(a.cI,true) } else p
def oI (a:cE):Bool:=a.drop||(a.dz&&(p.off.2&&vi p.off.1 a.cI))
def ended (a:cE):PeerM:=
 { p.lg a with off:=if p.oI a=true then(bH,false) else p.off,wanted:=p.wanted||a.wanted,bD:=(p.bD||a.bD)&&!a.calm }
def bx (a:cE):PeerM×Int:=if a.cP=true then(if(p.entry a.bB).2≠0 then(p,(p.entry a.bB).2) else((p.entry a.bB).1.ended a,0)) else(p.ended a,0)
end PeerM
def C37 (p0:Int)(w:ah)(K:aP):Prop:=
 aC (.cells #[.slice none 0 0,aa (if 65536<(if 0 > p0 then 0 else p0) then 65536 else(if 0 > p0 then 0 else p0)),aa 0,.bool false,aa 0,.bool false] 154) w (λ g1 w2=>K (.pointer (some (ad g1))) w2)
def pl37:aN:=.auto
theorem c37 (p0 w K)(h:C37 p0 w K):au 37 #[aa p0] w K:=aQ Tryz.func37 (p:=pl37) aA h
def C95 (p0:Addr)(w:ah)(K:aP):Prop:=
 af .bE (p0.add 0) w (λ(x1:aB)=>ak 66 #[aO x1] w aM (λ(x2:aB) w3=>K (aO x2) w3))
def pl95:aN:=.auto
theorem c95 (p0 w K)(h:C95 p0 w K):au 95 #[aI p0] w K:=aQ Tryz.func95 (p:=pl95) aA h
def C94 (p0:Addr)(w:ah)(K:aP):Prop:=
 af .bool (p0.add 5) w (λ(x1:Bool)=>K (.bool x1) w)
def pl94:aN:=.auto
theorem c94 (p0 w K)(h:C94 p0 w K):au 94 #[aI p0] w K:=aQ Tryz.func94 (p:=pl94) aA h
def C140 (p0:Addr)(w:ah)(K:aP):Prop:=
 af .bool (p0.add 3) w (λ(x1:Bool)=>ae x1
 (af (.int .i64) (p0.add 4) w (λ(x2:Int)=>ae (x2==0)
 (aK (p0.add 5) (.bool true) w (λ w3=>K (.bool false) w3))
 (af (.int .i64) (p0.add 4) w (λ(x4:Int)=>aK (p0.add 4) (aa (IntKind.i64.wrap (x4 - 1))) w (λ w5=>K (.bool true) w5)))))
 (af (.int .i64) (p0.add 4) w (λ(x6:Int)=>aK (p0.add 4) (aa (IntKind.i64.wrap (x6 - 1))) w (λ w7=>K (.bool true) w7))))
def pl140:aN:=.auto
theorem c140 (p0 w K)(h:C140 p0 w K):au 140 #[aI p0] w K:=aQ Tryz.func140 (p:=pl140) aA h
def C103 (p0:Addr)(p1:aS)(dk dR:Nat)(w:ah)(K:aP):Prop:=
 af .bool (p0.add 5) w (λ(x1:Bool)=>ae x1
 (K (aa 11) w)
 (aU w (λ w2=>af (.int .i64) (p0.add 1) w2 (λ(x3:Int)=>af .bE (p0.add 0) w2 (λ(x4:aB)=>ae (decide ((dk:Int) > (IntKind.i64.wrap (x3 - (x4.2.1:Int)))))
 (K (aa 10) w2)
 (ak 140 #[aI p0] w2 bK (λ(x5:Bool) w6=>ae (!x5)
 (K (aa 11) w6)
 (af .bE (p0.add 0) w6 (λ(x7:aB)=>ak 66 #[aO x7] w6 aM (λ(x8:aB) w9=>aT (Builtin.append_ #[22,22] 22 #[aO x8,.slice p1 dk dR]) w9 aM (λ(bG:aB) bt=>aK (p0.add 0) (aO bG) bt (λ br=>K (aa 0) br))))))))))))
def pl103:aN:=(.seq .auto (.seq (.block (.seq .auto (.cond .auto (.seq .still .auto)))) .auto))
theorem c103 (p0 p1 dk dR w K)(h:C103 p0 p1 dk dR w K):au 103 #[aI p0,.slice p1 dk dR] w K:=aQ Tryz.func103 (p:=pl103) aA h
def C105 (p0:Addr)(w:ah)(K:aP):Prop:=
 af .bool (p0.add 5) w (λ(x1:Bool)=>ae x1
 (K (aa 11) w)
 (ak 140 #[aI p0] w bK (λ(x2:Bool) w3=>ae (!x2)
 (K (aa 11) w3)
 (af .bE (p0.add 0) w3 (λ(x4:aB)=>aK (p0.add 2) (aa (x4.2.1:Int)) w3 (λ w5=>K (aa 0) w5))))))
def pl105:aN:=.auto
theorem c105 (p0 w K)(h:C105 p0 w K):au 105 #[aI p0] w K:=aQ Tryz.func105 (p:=pl105) aA h
def C97 (p0:Addr)(p1:Int)(w:ah)(K:aP):Prop:=
 af .bool (p0.add 5) w (λ(x1:Bool)=>ae x1
 (K (aa 11) w)
 (ae (decide (p1<0))
 (K (aa 1) w)
 (af .bE (p0.add 0) w (λ(x2:aB)=>ae (decide (p1 > (x2.2.1:Int)))
 (K (aa 1) w)
 (ak 140 #[aI p0] w bK (λ(x3:Bool) w4=>ae (!x3)
 (K (aa 11) w4)
 (af .bE (p0.add 0) w4 (λ(x5:aB)=>gQ x5.1 x5.2.2 0 p1 x5.2.2 1 (λ a6 l7 c8=>ak 66 #[.slice a6 l7 c8] w4 aM (λ(x9:aB) aX=>aK (p0.add 0) (aO x9) aX (λ bt=>aK (p0.add 2) (aa p1) bt (λ br=>K (aa 0) br))))))))))))
def pl97:aN:=.auto
theorem c97 (p0 p1 w K)(h:C97 p0 p1 w K):au 97 #[aI p0,aa p1] w K:=aQ Tryz.func97 (p:=pl97) aA h
def C65 (p0:Addr)(p1:Int)(w:ah)(K:aP):Prop:=
 aK (p0.add 3) (.bool true) w (λ w1=>aK (p0.add 4) (aa (if p1 > 0 then p1 else 0)) w1 (λ w2=>K (.tuple #[]) w2))
def pl65:aN:=.auto
theorem c65 (p0 p1 w K)(h:C65 p0 p1 w K):au 65 #[aI p0,aa p1] w K:=aQ Tryz.func65 (p:=pl65) aA h
def C63 (p0:Addr)(p1:Int)(p2:Int)(w:ah)(K:aP):Prop:=
 aU w (λ w1=>af (.int .i64) (p0.add 2) w1 (λ(x2:Int)=>af .bE (p0.add 0) w1 (λ(x3:aB)=>af (.int .i64) (p0.add 2) w1 (λ(x4:Int)=>af .bE (p0.add 0) w1 (λ(x5:aB)=>gQ x5.1 x5.2.2 0 (IntKind.i64.wrap (x2+(if IntKind.i64.wrap ((x3.2.1:Int) - x4)<(if p1 > 0 then p1 else 0) then IntKind.i64.wrap ((x3.2.1:Int) - x4) else(if p1 > 0 then p1 else 0)))) x5.2.2 1 (λ a6 l7 c8=>ak 66 #[.slice a6 l7 c8] w1 aM (λ(x9:aB) aX=>af (.int .i64) (p0.add 2) aX (λ(bQ:Int)=>ae (decide ((IntKind.i64.wrap (x2+(if IntKind.i64.wrap ((x3.2.1:Int) - x4)<(if p1 > 0 then p1 else 0) then IntKind.i64.wrap ((x3.2.1:Int) - x4) else(if p1 > 0 then p1 else 0)))) > bQ))
 (cz x9.1 x9.2.1 (IntKind.i64.wrap ((IntKind.i64.wrap (x2+(if IntKind.i64.wrap ((x3.2.1:Int) - x4)<(if p1 > 0 then p1 else 0) then IntKind.i64.wrap ((x3.2.1:Int) - x4) else(if p1 > 0 then p1 else 0)))) - 1)) 1 (λ a12=>af (.int .u8) a12 aX (λ(cA:Int)=>cz x9.1 x9.2.1 (IntKind.i64.wrap ((IntKind.i64.wrap (x2+(if IntKind.i64.wrap ((x3.2.1:Int) - x4)<(if p1 > 0 then p1 else 0) then IntKind.i64.wrap ((x3.2.1:Int) - x4) else(if p1 > 0 then p1 else 0)))) - 1)) 1 (λ zK=>aK zK (.int .u8 (IntKind.u8.wrap ((BitVec.ofInt 8 cA ^^^ BitVec.ofInt 8 p2).toNat:Int))) aX (λ cB=>aK (p0.add 0) (aO x9) cB (λ bV=>aK (p0.add 2) (aa (IntKind.i64.wrap (x2+(if IntKind.i64.wrap ((x3.2.1:Int) - x4)<(if p1 > 0 then p1 else 0) then IntKind.i64.wrap ((x3.2.1:Int) - x4) else(if p1 > 0 then p1 else 0))))) bV (λ da=>aK (p0.add 5) (.bool false) da (λ b9=>aK (p0.add 3) (.bool false) b9 (λ ct=>aK (p0.add 4) (aa 0) ct (λ bW=>K (.tuple #[]) bW))))))))))
 (aK (p0.add 0) (aO x9) aX (λ cr=>aK (p0.add 2) (aa (IntKind.i64.wrap (x2+(if IntKind.i64.wrap ((x3.2.1:Int) - x4)<(if p1 > 0 then p1 else 0) then IntKind.i64.wrap ((x3.2.1:Int) - x4) else(if p1 > 0 then p1 else 0))))) cr (λ cH=>aK (p0.add 5) (.bool false) cH (λ dM=>aK (p0.add 3) (.bool false) dM (λ cZ=>aK (p0.add 4) (aa 0) cZ (λ eJ=>K (.tuple #[]) eJ))))))))))))))
def pl63:aN:=(.seq .still .auto)
theorem c63 (p0 p1 p2 w K)(h:C63 p0 p1 p2 w K):au 63 #[aI p0,aa p1,.int .u8 p2] w K:=aQ Tryz.func63 (p:=pl63) aA h
def C66 (p0:aS)(bh bC:Nat)(w:ah)(K:aP):Prop:=
 ae (Option.isNone p0)
 (K (.slice none 0 0) w)
 (aT (Instr.buildSlice 22 0 #[]) w aM (λ(x1:aB) w2=>aT (Builtin.append_ #[22,22] 22 #[aO x1,.slice p0 bh bC]) w2 aM (λ(x3:aB) w4=>K (aO x3) w4)))
def pl66:aN:=.auto
theorem c66 (p0 bh bC w K)(h:C66 p0 bh bC w K):au 66 #[.slice p0 bh bC] w K:=aQ Tryz.func66 (p:=pl66) aA h
theorem CQ {v:Sl}(h:bO w v bs)(hl:bs.length<=100000000):
  au 66 #[.slice v.1 v.2.1 v.2.2] w λ r w'=>∃ u:Sl,r=.slice u.1 u.2.1 u.2.2/\cT w' u bs/\Fr none1 w w'/\∀ k,aH u k->w.heap.size<=k:=by
 refine c66 v.1 v.2.1 v.2.2 w _ ?_;refine ae.by (λ hn=>?_) (λ hn=>?_)
 ·obtain⟨_,_,he⟩:=h.2.1 (by simpa using hn)
  exact⟨(none,0,0),rfl,.inl ⟨rfl,he⟩,Fr.refl _ _,λ k ⟨a,ha,_⟩=>(by cases ha)⟩
 ·obtain⟨x,w1,hr,hx,nU,f1,hf⟩:=vR (P:=Tryz.prog) (w:=w) qu [] bm bm
  refine⟨x,w1,hr,?_⟩;have dD:=h.len;obtain⟨u,w2,iD,hu,f2,nP⟩:=vS (xs:=[]) hx (h.ag f1) (by simp;omega);refine⟨u,w2,iD,u,rfl,hu,f1.comp f2 (λ k hk t=>?_),λ k hk=>?_⟩
  ·have:=hf k t;omega
  ·rcases nP k hk with t | t
   ·exact hf k t
   ·exact ez f1.size t
structure cL where
 b:ai
 cK:Int
 synced:Int
 lit:Bool
 lh:Int
 dead:Bool
structure cL.Ok (s:cL):Prop where
 len:s.b.length<=65536
 q0:0<=s.cK
 q1:s.cK<=65536
 s0:0<=s.synced
 s1:s.synced<=s.b.length
structure js (w:ah)(b g:Nat)(s:cL):Prop where
 out:∃ sl:Sl,w.heap[b]? = some (.cells #[.slice sl.1 sl.2.1 sl.2.2,aa s.cK,aa s.synced,.bool s.lit,aa s.lh,.bool s.dead] 154 (0,0))/\cT w sl s.b/\∀ k,aH sl k->k=g/\k≠b
 ug:g<w.heap.size
 ok:s.Ok
theorem js.ao {s:cL}(h:js w b g s){S:bz}(f:Fr S w w')(h1:¬ S b)(h2:¬ S g):js w' b g s:=by
 obtain⟨⟨sl,hb,hs,hg⟩,gl,ok⟩:=h;exact⟨⟨sl,f.ao hb h1,hs.ao f (λ k hk=>by rw[(hg k hk).1];exact h2),hg⟩,nS gl f.size,ok⟩
theorem js.ag {s:cL}(h:js w b g s)(f:Fr none1 w w'):js w' b g s:=h.ao f (λ t=>t) (λ t=>t)
theorem js.lt {s:cL}(h:js w b g s):b<w.heap.size:=by
 obtain⟨⟨sl,hb,_⟩,_⟩:=h;exact cQ hb
def mB (w:ah)(b g:Nat)(s':cL)(w':ah):Prop:=Fr (only b) w w'/\∃ g',(g'=b\/g'=g\/w.heap.size<=g')/\js w' b g' s'
theorem mB.pre {w0:ah}{s':cL}(f:Fr none1 w0 w)(h:mB w b g s' w'):mB w0 b g s' w':=by
 obtain⟨a,g',h1,h2⟩:=h;refine⟨f.fN a,g',?_,h2⟩
 rcases h1 with h | h | h
 ·exact .inl h
 ·exact .inr (.inl h)
 ·exact .inr (.inr (ez f.size h))
theorem mB.same {s:cL}(h:js w b g s)(f:Fr none1 w w'):mB w b g s w':=⟨f.mono λ _ _ t=>t.elim,g,.inr (.inl rfl),h.ag f⟩
theorem Nu {n:Nat}{y:Sl}(bI:b<w'.heap.size)(zz:cT w' y bs)(hy:∀ k,aH y k->n<=k/\k≠b):∃ g',(g'=b\/n<=g')/\g'<w'.heap.size/\∀ k,aH y k->k=g'/\k≠b:=by
 cases IS:y.1 with
 | none=>exact⟨b,.inl rfl,bI,λ k ⟨a,ha,_⟩=>(by rw[IS] at ha;cases ha)⟩
 | some a=>
  have hk:aH y a.block:=⟨a,IS,rfl⟩;refine⟨a.block,.inr (hy _ hk).1,aV.lt zz hk,λ k hk=>⟨?_,(hy k hk).2⟩⟩;obtain⟨a',ha,rfl⟩:=hk;rw[IS] at ha;injection ha with ha;rw[ha]
def iA (q:Int):cL:={ b:=[],cK:=if 65536<(if 0 > q then 0 else q) then 65536 else(if 0 > q then 0 else q),synced:=0,lit:=false,lh:=0,dead:=false }
theorem T0 (q:Int):(iA q).Ok:=by
 unfold iA;refine⟨by simp,?_,?_,by simp,by simp⟩<;>dsimp only<;>repeat' split
 all_goals omega
theorem acH (q:Int)(w:ah):au 37 #[aa q] w λ r w'=>∃ b,r=aZ b/\w.heap.size<=b/\Fr none1 w w'/\js w' b b (iA q):=by
 refine c37 q w _ (aC.of λ b w1 hg hb f hs=>⟨b,rfl,by omega,f,⟨⟨(none,0,0),hb,.inl ⟨rfl,rfl⟩,λ k ⟨a,ha,_⟩=>(by cases ha)⟩,by omega,T0 q⟩⟩)
theorem T1 {s:cL}(h:js w b g s):au 94 #[aZ b] w λ r w'=>r=.bool s.dead/\w=w':=by
 obtain⟨⟨sl,hb,_⟩,_⟩:=h;exact c94 _ w _ (af.aw hb rfl ⟨rfl,rfl⟩)
theorem acI {s:cL}(h:js w b g s):au 95 #[aZ b] w λ r w'=>
  ∃ u:Sl,r=.slice u.1 u.2.1 u.2.2/\cT w' u s.b/\Fr none1 w w'/\∀ k,aH u k->w.heap.size<=k:=by
 obtain⟨⟨sl,hb,hs,_⟩,_,ok⟩:=h;refine c95 _ w _ ?_;refine af.aw hb (x:=sl) rfl ?_;refine an.of (CQ hs.rd (by have:=ok.len;omega)) ?_;rintro _ w' ⟨u,rfl,hu,f,hf⟩;exact⟨u,rfl,u,rfl,hu,f,hf⟩
def eU (s:cL):cL×Bool:=if s.lit&&s.lh==0 then({ s with dead:=true },false) else({ s with lh:=IntKind.i64.wrap (s.lh - 1) },true)
theorem acJ {s:cL}(h:s.Ok):(eU s).1.Ok:=by
 unfold eU;split<;>exact⟨h.len,h.q0,h.q1,h.s0,h.s1⟩
theorem tb (s:cL):(eU s).1.b=s.b/\(eU s).1.cK=s.cK/\(eU s).1.synced=s.synced:=by
 unfold eU;split<;>exact⟨rfl,rfl,rfl⟩
theorem Nv {s:cL}(h:js w b g s):au 140 #[aZ b] w λ r w'=>r=.bool (eU s).2/\Fr (only b) w w'/\js w' b g (eU s).1:=by
 obtain⟨⟨sl,hb,hs,hg⟩,gl,ok⟩:=h;have IT:=acJ ok;refine c140 _ w _ ?_;unfold eU at *;refine af.aw hb rfl ?_;have ao:∀ w',Fr (only b) w w'->cT w' sl s.b:=λ w' f=>hs.ao f (λ k hk t=>(hg k hk).2 t);have run:(s.lit&&s.lh==0)=false->af (.int .i64) ((⟨b,0,none⟩:Addr).add 4) w (λ(x4:Int)=>aK ((⟨b,0,none⟩:Addr).add 4) (aa (IntKind.i64.wrap (x4 - 1))) w (λ w5=>
   (.bool true:av)=.bool (if s.lit&&s.lh==0 then({ s with dead:=true },false) else({ s with lh:=IntKind.i64.wrap (s.lh - 1) },true)).2/\Fr (only b) w w5/\js w5 b g (if s.lit&&s.lh==0 then({ s with dead:=true },false) else({ s with lh:=IntKind.i64.wrap (s.lh - 1) },true)).1)):=λ hc=>by
  rw[hc] at IT ⊢;refine af.aw hb rfl ?_;refine aK.aw hb bm rfl λ w1 aE f1 _=>?_;exact⟨rfl,f1,⟨sl,aE,ao w1 f1,hg⟩,nS gl f1.size,IT⟩
 refine ae.by (λ hl=>?_) (λ hl=>run (by rw[hl];rfl));refine af.aw hb rfl ?_;refine ae.eq (λ hf=>?_) (λ hf=>run (by rw[hl];simpa using hf));have hc:(s.lit&&s.lh==0)=true:=by rw[hl,hf];rfl
 rw[hc] at IT ⊢;refine aK.aw hb bm rfl λ w1 aE f1 _=>?_;exact⟨rfl,f1,⟨sl,aE,ao w1 f1,hg⟩,nS gl f1.size,IT⟩
def gN (s:cL)(x:ai):cL×Int:=
 if s.dead then(s,11) else if(x.length:Int) > s.cK - s.b.length then(s,10) else
 if(eU s).2 then({ (eU s).1 with b:=s.b++x },0) else((eU s).1,11)
theorem acK {s:cL}{v:Sl}(h:js w b g s)(hv:bO w v x)(wL:¬ aH v b):au 103 #[aZ b,.slice v.1 v.2.1 v.2.2] w λ r w'=>
  r=aa (gN s x).2/\mB w b g (gN s x).1 w':=by
 have h0:=h;obtain⟨⟨sl,hb,hs,hg⟩,gl,ok⟩:=h;obtain⟨k1,k2,k3,k4,k5⟩:=ok;have jW:=hs.len;have dD:=hv.len;refine c103 _ v.1 v.2.1 v.2.2 w _ ?_;unfold gN;refine af.aw hb rfl ?_;refine ae.by (λ hd=>?_) (λ hd=>?_)
 ·rw[if_pos hd];exact⟨rfl,mB.same h0 (Fr.refl _ _)⟩
 rw[if_neg (by simp[hd])];refine aU.of λ w1 xF f1=>?_;have aE:=f1.ag hb;refine af.aw aE rfl ?_;refine af.aw aE (x:=sl) rfl ?_;rw[jW,wI (x:=s.cK - (s.b.length:Int)) ab ab];have fx:Fr (only b) w w1:=f1.mono λ _ _ t=>t.elim;refine ae.dec (λ hq=>?_) (λ hq=>?_)
 ·rw[if_pos (by rw[<- dD];exact hq)];exact⟨rfl,mB.same h0 f1⟩
 rw[if_neg (by rw[<- dD];exact hq)];refine an.of (Nv (h0.ag f1)) ?_;rintro _ w2 ⟨rfl,f2,h2⟩;refine⟨_,rfl,?_⟩;refine ae.by (λ dH=>?_) (λ dH=>?_)
 ·have uh:(eU s).2=false:=by simpa using dH
  rw[uh];exact⟨rfl,fx.trans f2,g,.inr (.inl rfl),h2⟩
 ·have uh:(eU s).2=true:=by simpa using dH
  rw[uh,if_pos rfl];obtain⟨⟨yz,ba,iQ,qI⟩,IU,Fs⟩:=h2;obtain⟨e1,e2,e3⟩:=tb s;refine af.aw ba (x:=yz) rfl ?_;refine an.of (CQ iQ.rd (by rw[e1];omega)) ?_;rintro _ w3 ⟨u,rfl,hu,f3,pZ⟩;refine⟨u,rfl,?_⟩;have dP:=hu.len;rw[e1] at dP hu;have uW:bO w3 v x:=((hv.ag f1).ao f2 (λ k hk t=>wL (by have:k=b:=t;rw[<- this];exact hk))).ag f3;obtain⟨y,w4,hr,hy,f4,hf4⟩:=vS hu uW ab;refine⟨y,w4,hr,?_⟩;have acL:w.heap.size<=w2.heap.size:=(fx.trans f2).size;have pF:=cQ hb;have df:=f4.ao (f3.ag ba) (λ t=>by have:=pZ b t;omega);refine aK.aw df bm rfl λ w5 dN f5 _=>?_;have td:∀ k,aH y k->w2.heap.size<=k:=λ k hk=>by
   rcases hf4 k hk with t | t
   ·exact pZ k t
   ·exact ez f3.size t
  have fr:Fr (only b) w w5:=(((fx.trans f2).et f3).comp f4 (λ k hk t=>by have:=pZ k t;omega)).trans f5;have T4:cT w5 y (s.b++x):=hy.ao f5 (λ k hk t=>by have:=td k hk;have:k=b:=t;omega);obtain⟨gy,Ft,o9,Fu⟩:=Nu (b:=b) (n:=w.heap.size) (cQ dN) T4 (λ k hk=>by have:=td k hk;omega);refine⟨rfl,fr,gy,Ft.imp id .inr,⟨y,dN,T4,Fu⟩,o9,?_⟩;refine⟨?_,?_,?_,?_,?_⟩<;>dsimp only
  ·simp only[bU];omega
  ·rw[e2];exact k2
  ·rw[e2];exact k3
  ·rw[e3];exact k4
  ·rw[e3];simp only[bU];omega
def j7 (s:cL):cL×Int:=if s.dead then(s,11) else if(eU s).2 then({ (eU s).1 with synced:=s.b.length },0) else((eU s).1,11)
theorem acM {s:cL}(h:js w b g s):au 105 #[aZ b] w λ r w'=>r=aa (j7 s).2/\mB w b g (j7 s).1 w':=by
 have h0:=h;obtain⟨⟨sl,hb,hs,hg⟩,gl,ok⟩:=h;refine c105 _ w _ ?_;unfold j7;refine af.aw hb rfl ?_;refine ae.by (λ hd=>?_) (λ hd=>?_)
 ·rw[if_pos hd];exact⟨rfl,mB.same h0 (Fr.refl _ _)⟩
 rw[if_neg (by simp[hd])];refine an.of (Nv h0) ?_;rintro _ w2 ⟨rfl,f2,h2⟩;refine⟨_,rfl,?_⟩;refine ae.by (λ dH=>?_) (λ dH=>?_)
 ·have uh:(eU s).2=false:=by simpa using dH
  rw[uh];exact⟨rfl,f2,g,.inr (.inl rfl),h2⟩
 ·have uh:(eU s).2=true:=by simpa using dH
  rw[uh,if_pos rfl];obtain⟨⟨yz,ba,iQ,qI⟩,IU,Fs⟩:=h2;obtain⟨e1,e2,e3⟩:=tb s;refine af.aw ba (x:=yz) rfl ?_;rw[iQ.len,e1];refine aK.aw ba bm rfl λ w5 dN f5 _=>?_;refine⟨rfl,f2.trans f5,g,.inr (.inl rfl),⟨yz,dN,iQ.ao f5 (λ k hk t=>(qI k hk).2 t),qI⟩,nS IU f5.size,?_⟩;obtain⟨k1,k2,k3,k4,k5⟩:=Fs;refine⟨k1,k2,k3,?_,?_⟩<;>dsimp only
  ·omega
  ·rw[e1];omega
def oJ (s:cL)(n:Int):cL×Int:=if s.dead then(s,11) else if n<0 then(s,1) else if n > s.b.length then(s,1) else
 if(eU s).2 then({ (eU s).1 with b:=s.b.take n.toNat,synced:=n },0) else((eU s).1,11)
theorem acN {s:cL}(h:js w b g s)(n:Int):au 97 #[aZ b,aa n] w λ r w'=>r=aa (oJ s n).2/\mB w b g (oJ s n).1 w':=by
 have h0:=h;obtain⟨⟨sl,hb,hs,hg⟩,gl,ok⟩:=h;refine c97 _ n w _ ?_;unfold oJ;refine af.aw hb rfl ?_;refine ae.by (λ hd=>?_) (λ hd=>?_)
 ·rw[if_pos hd];exact⟨rfl,mB.same h0 (Fr.refl _ _)⟩
 rw[if_neg (by simp[hd])];refine ae.dec (λ hq=>?_) (λ hq=>?_)
 ·rw[if_pos hq];exact⟨rfl,mB.same h0 (Fr.refl _ _)⟩
 rw[if_neg hq];refine af.aw hb (x:=sl) rfl ?_;rw[hs.len];refine ae.dec (λ sD=>?_) (λ sD=>?_)
 ·rw[if_pos sD];exact⟨rfl,mB.same h0 (Fr.refl _ _)⟩
 rw[if_neg sD];refine an.of (Nv h0) ?_;rintro _ w2 ⟨rfl,f2,h2⟩;refine⟨_,rfl,?_⟩;refine ae.by (λ dH=>?_) (λ dH=>?_)
 ·have uh:(eU s).2=false:=by simpa using dH
  rw[uh];exact⟨rfl,f2,g,.inr (.inl rfl),h2⟩
 ·have uh:(eU s).2=true:=by simpa using dH
  rw[uh,if_pos rfl];obtain⟨⟨yz,ba,iQ,qI⟩,IU,Fs⟩:=h2;obtain⟨e1,e2,e3⟩:=tb s;refine af.aw ba (x:=yz) rfl ?_;have uO:=iQ.len;rw[e1] at uO;refine bO.sub iQ.rd ab ab iQ.cap λ hu=>?_;rw[e1] at hu;have kk:=Fs.len;rw[e1] at kk;refine an.of (CQ (v:=(yz.1,n.toNat,yz.2.2)) hu (by simp only[ga];omega)) ?_;rintro _ w3 ⟨u,rfl,hu,f3,pZ⟩;refine⟨u,rfl,?_⟩;refine aK.aw (f3.ag ba) bm rfl λ w5 dN f5 _=>?_;refine aK.aw dN bm rfl λ w6 gM f6 _=>?_;have pF:=cQ ba;have T5:cT w6 u (s.b.take n.toNat):=(hu.ao f5 (λ k hk t=>by have:=pZ k hk;have:k=b:=t;omega)).ao f6 (λ k hk t=>by have:=pZ k hk;have:k=b:=t;omega);have fr2:Fr (only b) w2 w6:=(f3.fN f5).trans f6;obtain⟨gy,Ft,o9,Fu⟩:=Nu (b:=b) (n:=w2.heap.size) (cQ gM) T5 (λ k hk=>by have:=pZ k hk;omega);refine⟨rfl,f2.trans fr2,gy,Ft.imp id (λ t=>.inr (ez f2.size t)),⟨u,gM,T5,Fu⟩,o9,?_⟩;obtain⟨k1,k2,k3,k4,k5⟩:=Fs;refine⟨?_,k2,k3,by dsimp only;omega,?_⟩<;>dsimp only<;>simp only[ga]<;>omega
def T6 (s:cL)(n:Int):cL:={ s with lit:=true,lh:=if n > 0 then n else 0 }
theorem acO {s:cL}(h:js w b g s)(n:Int):au 65 #[aZ b,aa n] w λ r w'=>r=.tuple #[]/\mB w b g (T6 s n) w':=by
 obtain⟨⟨sl,hb,hs,hg⟩,gl,ok⟩:=h;refine c65 _ n w _ ?_;refine aK.aw hb bm rfl λ w1 aE f1 _=>?_;refine aK.aw aE bm rfl λ w2 ba f2 _=>?_;exact⟨rfl,f1.trans f2,g,.inr (.inl rfl),⟨sl,ba,hs.ao (f1.trans f2) (λ k hk t=>(hg k hk).2 t),hg⟩,nS gl (f1.trans f2).size,ok.len,ok.q0,ok.q1,ok.s0,ok.s1⟩
def CR (x:UInt8)(p:Int):UInt8:=UInt8.ofNat (BitVec.ofInt 8 (x.toNat:Int) ^^^ BitVec.ofInt 8 p).toNat
theorem T7 (x:UInt8)(p:Int):Value.int .u8 (IntKind.u8.wrap ((BitVec.ofInt 8 (x.toNat:Int) ^^^ BitVec.ofInt 8 p).toNat:Int))=bc (CR x p):=by
 have h:=(BitVec.ofInt 8 (x.toNat:Int) ^^^ BitVec.ofInt 8 p).isLt;rw[wB ab ab];unfold bc CR;rw[UInt8.toNat_ofNat',oA h]
def wX (s:cL)(ao:Int):Int:=s.synced+(if(s.b.length:Int) - s.synced<(if ao > 0 then ao else 0) then(s.b.length:Int) - s.synced else(if ao > 0 then ao else 0))
def T8 (s:cL)(k p:Int):ai:=if k > s.synced then(s.b.take k.toNat).set (k - 1).toNat (CR (s.b.getD (k - 1).toNat 0) p) else s.b.take k.toNat
def CS (s:cL)(ao p:Int):cL:={ s with b:=T8 s (wX s ao) p,synced:=wX s ao,dead:=false,lit:=false,lh:=0 }
theorem acP {s:cL}(h:js w b g s)(n p:Int):au 63 #[aZ b,aa n,.int .u8 p] w λ r w'=>r=.tuple #[]/\mB w b g (CS s n p) w':=by
 have h0:=h;obtain⟨⟨sl,hb,hs,hg⟩,gl,ok⟩:=h;obtain⟨k1,k2,k3,k4,k5⟩:=ok;have jW:=hs.len;refine c63 _ n p w _ ?_;unfold C63 CS;refine aU.of λ w1 xF f1=>?_;have aE:=f1.ag hb;refine af.aw aE rfl ?_;refine af.aw aE (x:=sl) rfl ?_;refine af.aw aE rfl ?_;refine af.aw aE (x:=sl) rfl ?_;dsimp only;have mG:s.synced<=wX s n:=by unfold wX;(repeat' split);all_goals omega
 have o0:wX s n<=s.b.length:=by unfold wX;(repeat' split);all_goals omega
 have ek:IntKind.i64.wrap (s.synced+(if IntKind.i64.wrap ((sl.2.1:Int) - s.synced)<(if n > 0 then n else 0) then IntKind.i64.wrap ((sl.2.1:Int) - s.synced) else(if n > 0 then n else 0)))=wX s n:=by
  rw[jW,wI (x:=(s.b.length:Int) - s.synced) ab ab];exact wI (x:=wX s n) ab ab
 rw[ek];generalize wX s n=k at *;refine bO.sub (hs.rd.ag f1) ab ab hs.cap λ hu=>?_;refine an.of (CQ (v:=(sl.1,k.toNat,sl.2.2)) hu (by simp only[ga];omega)) ?_;rintro _ w3 ⟨u,rfl,hu,f3,pZ⟩;refine⟨u,rfl,?_⟩;have bJ:=f3.ag aE;have pF:=cQ aE;have dP:=hu.len;rw[ga] at dP;refine af.aw bJ rfl ?_;have fin:∀ (K:ah->Prop) (w5:ah) (bs:ai),bs.length=k.toNat->Fr (aH u) w3 w5->cT w5 u bs->(∀ w',mB w b g { s with b:=bs,synced:=k,dead:=false,lit:=false,lh:=0 } w'->K w')->aK ((⟨b,0,none⟩:Addr).add 0) (.slice u.1 u.2.1 u.2.2) w5 (λ cr=>aK ((⟨b,0,none⟩:Addr).add 2) (aa k) cr (λ cH=>aK ((⟨b,0,none⟩:Addr).add 5) (.bool false) cH (λ dM=>aK ((⟨b,0,none⟩:Addr).add 3) (.bool false) dM (λ cZ=>aK ((⟨b,0,none⟩:Addr).add 4) (aa 0) cZ K)))):=λ K w5 bs T9 f5 qE hK=>by
  have pU:¬ aH u b:=λ t=>by have:=pZ b t;omega
  refine aK.aw (f5.ao bJ pU) bm rfl λ w6 gM f6 _=>?_;refine aK.aw gM bm rfl λ w7 gL f7 _=>?_;refine aK.aw gL bm rfl λ w8 lU f8 _=>?_;refine aK.aw lU bm rfl λ w9 oG f9 _=>?_;refine aK.aw oG bm rfl λ aX oK f10 _=>?_;have ft:Fr (only b) w5 aX:=(((f6.trans f7).trans f8).trans f9).trans f10;have hy:cT aX u bs:=qE.ao ft (λ k hk t=>pU (by have:k=b:=t;rw[<- this];exact hk));have fr:Fr (only b) w aX:=((f1.trans f3).comp f5 (λ x hx t=>by have:=pZ x t;have:=f1.size;omega)).fN ft;obtain⟨gy,Ft,o9,Fu⟩:=Nu (b:=b) (n:=w.heap.size) (cQ oK) hy (λ k hk=>⟨ez f1.size (pZ k hk),λ t=>pU (t ▸ hk)⟩);refine hK _ ⟨fr,gy,Ft.imp id .inr,⟨u,oK,hy,Fu⟩,o9,?_⟩;refine⟨?_,k2,k3,?_,?_⟩<;>dsimp only<;>omega
 unfold T8;refine ae.dec (λ hq=>?_) (λ hq=>?_)
 ·rw[if_pos hq,wI (x:=k - 1) ab ab]
  have hx:(s.b.take k.toNat)[(k - 1).toNat]? = some (s.b.getD (k - 1).toNat 0):=by
   rw[List.getElem?_take_of_lt ab,dB,cV ab];rfl
  refine aV.ld hu ab ab (x:=((s.b.getD (k - 1).toNat 0).toNat:Int)) (by rw[ig,hx];rfl) ?_;rw[T7];refine aV.st hu ab ab rfl λ w5 qE f5 _=>?_;refine fin _ w5 ((s.b.take k.toNat).set (k - 1).toNat (CR (s.b.getD (k - 1).toNat 0) p)) (by simp;omega) f5 (by unfold cT;rw[vW];exact qE) λ w' CT=>⟨rfl,CT⟩
 ·rw[if_neg hq]
  exact fin _ w3 (s.b.take k.toNat) (by simp;omega) (Fr.refl _ _) hu λ w' CT=>⟨rfl,CT⟩
def C69  (w:ah) (K:aP):Prop:=
 aC (.cells #[aa (-1),aa (-1),.int .u64 0] 226) w (λ g1 w2=>K (.pointer (some (ad g1))) w2)
def pl69:aN:=.auto
theorem c69 (w K)(h:C69  w K):au 69 #[] w K:=aQ Tryz.func69 (p:=pl69) aA h
def C91 (p0:Addr)(p1:Int)(p2:Int)(w:ah)(K:aP):Prop:=
 ae (decide (p1<0))
 (K (.bool false) w)
 (ae (decide (p2<0))
 (K (.bool false) w)
 (af (.int .i64) (p0.add 0) w (λ(x1:Int)=>ae (decide (p1<x1))
 (K (.bool false) w)
 (af (.int .i64) (p0.add 0) w (λ(x2:Int)=>ae (decide (p1 > x2))
 (aK (p0.add 0) (aa p1) w (λ w3=>aK (p0.add 1) (aa p2) w3 (λ w4=>aK (p0.add 2) (.int .u64 1) w4 (λ w5=>K (.bool true) w5))))
 (af (.int .i64) (p0.add 1) w (λ(x6:Int)=>ae (decide (p2 > x6))
 (af (.int .i64) (p0.add 1) w (λ(x7:Int)=>aK (p0.add 1) (aa p2) w (λ w8=>ae (decide ((IntKind.i64.wrap (p2 - x7)) >= 64))
 (aK (p0.add 2) (.int .u64 0) w8 (λ w9=>af (.int .u64) (p0.add 2) w9 (λ(bG:Int)=>mb (if 63<IntKind.i64.wrap (p2 - x7) then 63 else IntKind.i64.wrap (p2 - x7)) (aK (p0.add 2) (.int .u64 (IntKind.u64.wrap ((BitVec.ofInt 64 (IntKind.u64.wrap (bG * 2 ^ (min (Int.toNat (if 63<IntKind.i64.wrap (p2 - x7) then 63 else IntKind.i64.wrap (p2 - x7))) 64))) ||| BitVec.ofInt 64 1).toNat:Int))) w9 (λ bt=>K (.bool true) bt)))))
 (af (.int .u64) (p0.add 2) w8 (λ(cn:Int)=>mb (if 63<IntKind.i64.wrap (p2 - x7) then 63 else IntKind.i64.wrap (p2 - x7)) (aK (p0.add 2) (.int .u64 (IntKind.u64.wrap ((BitVec.ofInt 64 (IntKind.u64.wrap (cn * 2 ^ (min (Int.toNat (if 63<IntKind.i64.wrap (p2 - x7) then 63 else IntKind.i64.wrap (p2 - x7))) 64))) ||| BitVec.ofInt 64 1).toNat:Int))) w8 (λ bM=>K (.bool true) bM)))))))
 (af (.int .i64) (p0.add 1) w (λ(cj:Int)=>ae (decide ((IntKind.i64.wrap (cj - p2)) >= 64))
 (K (.bool false) w)
 (af (.int .u64) (p0.add 2) w (λ(cm:Int)=>mb (IntKind.i64.wrap (cj - p2)) (ae ((IntKind.u64.wrap ((BitVec.ofInt 64 (Int.fdiv cm (2 ^ (min (Int.toNat (IntKind.i64.wrap (cj - p2))) 64))) &&& BitVec.ofInt 64 1).toNat:Int))==1)
 (K (.bool false) w)
 (aU w (λ bV=>af (.int .u64) (p0.add 2) bV (λ(bZ:Int)=>mb (IntKind.i64.wrap (cj - p2)) (aK (p0.add 2) (.int .u64 (IntKind.u64.wrap ((BitVec.ofInt 64 bZ ||| BitVec.ofInt 64 (IntKind.u64.wrap (1 * 2 ^ (min (Int.toNat (IntKind.i64.wrap (cj - p2))) 64)))).toNat:Int))) bV (λ b9=>K (.bool true) b9)))))))))))))))))
def pl91:aN:=(.seq .auto (.seq .auto (.seq .auto (.seq .auto (.seq (.tail 10) .auto)))))
theorem c91 (p0 p1 p2 w K)(h:C91 p0 p1 p2 w K):au 91 #[aI p0,aa p1,aa p2] w K:=aQ Tryz.func91 (p:=pl91) aA h
def rQ (w:ah)(b:Nat)(e h:Int)(S:Int->Bool):Prop:=
 ∃ x:Nat,w.heap[b]? = some (.cells #[aa e,aa h,.int .u64 (x:Int)] 226 (0,0))/\x<2 ^ 64 /\
  -1<=e/\-1<=h/\(0<=e->0<=h)/\e<=9223372036854775807/\h<=9223372036854775807/\(∀ i:Nat,i<64->x.testBit i=S (h - i))/\∀ m,h<m->S m=false
theorem rQ.ao {e h:Int}{S:Int->Bool}(hw:rQ w b e h S){T:bz}(f:Fr T w w')(hn:¬ T b):rQ w' b e h S:=by
 obtain⟨x,hb,r⟩:=hw;exact⟨x,f.ao hb hn,r⟩
theorem rQ.lt {e h:Int}{S:Int->Bool}(hw:rQ w b e h S):b<w.heap.size:=by
 obtain⟨x,hb,r⟩:=hw;exact cQ hb
theorem rQ.ne {e h:Int}{S:Int->Bool}(hw:rQ w b e h S){c:Nat}{o:Obj}(hc:w.heap[c]? = some o)(ho:∀ cs fr,o≠.cells cs 226 fr):b≠c:=by
 obtain⟨x,hb,r⟩:=hw;intro e;subst e;rw[hb] at hc;exact ho _ _ (Option.some.inj hc).symm
theorem acQ (w:ah):au 69 #[] w λ r w'=>∃ b,w.heap.size<=b/\r=aZ b/\Fr none1 w w'/\rQ w' b (-1) (-1) (λ _=>false):=by
 refine c69 w _ (aC.of λ g w1 hg hb hf hs=>⟨g,by omega,rfl,hf,0,hb,by decide,by omega,by omega,by omega,by omega,by omega,λ i _=>by simp,λ _ _=>rfl⟩)
def lj (e h:Int)(S:Int->Bool)(ep n:Int):Bool:=
 if ep<0\/n<0\/ep<e then false else if e<ep then true else decide (h - 64<n)&&!S n
def vj (e ep:Int)(r:Bool):Int:=if r then(if e<ep then ep else e) else e
def qS (e h ep n:Int)(r:Bool):Int:=if r then(if e<ep then n else if h<n then n else h) else h
def vk (e ep n:Int)(S:Int->Bool)(r:Bool):Int->Bool:=λ m=>if r then(if e<ep then m==n else S m||m==n) else S m
theorem acR {e ep:Int}(hl:e<ep):vj e ep true=ep:=by simp[vj,hl]
theorem acS {e h ep n:Int}(hl:e<ep):qS e h ep n true=n:=by simp[qS,hl]
theorem acT {e ep n:Int}{S:Int->Bool}(hl:e<ep):vk e ep n S true=λ m=>m==n:=by funext m;simp[vk,hl]
theorem Ua (e:Int):vj e e true=e:=by simp[vj]
theorem acU {e h n:Int}(hl:h<n):qS e h e n true=n:=by simp[qS,hl]
theorem acV {e h n:Int}(hl:¬ h<n):qS e h e n true=h:=by simp[qS,hl]
theorem Ub (e n:Int)(S:Int->Bool):vk e e n S true=λ m=>S m||m==n:=by funext m;simp[vk]
theorem Uc (n:Int)(i:Nat):Nat.testBit 1 i=(n - (i:Int)==n):=by
 rw[show(1:Nat)=2 ^ 0 by decide,Nat.testBit_two_pow]
 by_cases h:i=0
 ·subst h;simp
 ·have h1:(n - (i:Int)==n)=false:=by simp;omega
  have h2:decide (0=i)=false:=by simp;omega
  rw[h1,h2]
theorem acW (x k:Nat)(hx:x<18446744073709551616)(hk:k<64):
  (IntKind.u64.wrap ((BitVec.ofInt 64 (Int.fdiv (x:Int) (2 ^ (min k 64))) &&& BitVec.ofInt 64 1).toNat:Int)==1)=x.testBit k:=by
 have h2:x / 2 ^ k<=x:=Nat.div_le_self _ _;rw[Hw x k hk,BS,BitVec.toNat_and,D6,show(BitVec.ofInt 64 1).toNat=1 by decide,oA (by omega:x / 2 ^ k<_),Nat.and_one_is_mod];have h3:x / 2 ^ k % 2<2:=tK _ ar;rw[oA (by omega:x / 2 ^ k % 2<18446744073709551616)];rw[Nat.testBit_eq_decide_div_mod_eq]
 rcases (by omega:x / 2 ^ k % 2=0\/x / 2 ^ k % 2=1) with h | h<;>rw[h]<;>rfl
theorem acX (k:Nat)(hk:k<64):2 ^ k<18446744073709551616:=Nat.pow_lt_pow_right (a:=2) ar hk
theorem acY (x k i:Nat)(hi:i<64):(x * 2 ^ k % 18446744073709551616 ||| 1).testBit i=(decide (i=0)||(decide (k<=i)&&x.testBit (i - k))):=by
 rw[Nat.testBit_or,show(18446744073709551616:Nat)=2 ^ 64 by decide,Nat.testBit_mod_two_pow,Nat.testBit_mul_two_pow];have h1:Nat.testBit 1 i=decide (i=0):=by
  rw[show(1:Nat)=2 ^ 0 by decide,Nat.testBit_two_pow]
  by_cases h:i=0<;>simp[h,eq_comm]
 rw[h1];simp only[hi,decide_true,iF];rw[Bool.or_comm]
theorem acZ (x k i:Nat):(x ||| 2 ^ k).testBit i=(x.testBit i||decide (i=k)):=by
 rw[Nat.testBit_or,Nat.testBit_two_pow]
 congr 1
 by_cases h:i=k
 ·simp[h]
 ·simp[h,Ne.symm h]
theorem ac0 {e h:Int}{S:Int->Bool}(ep n:Int)(hw:rQ w b e h S)(he:ep<=9223372036854775807)(hn:n<=9223372036854775807):
  au 91 #[aZ b,aa ep,aa n] w λ r w'=>
   r=.bool (lj e h S ep n)/\Fr (only b) w w'/\rQ w' b (vj e ep (lj e h S ep n)) (qS e h ep n (lj e h S ep n)) (vk e ep n S (lj e h S ep n)):=by
 have Nw:=hw;obtain⟨x,hb,hx,h1,h2,h3,h4,h5,hS,hH⟩:=hw;have zV:x<18446744073709551616:=hx;refine c91 _ ep n w _ ?_;unfold C91;have no:lj e h S ep n=false->(.bool false:av)=.bool (lj e h S ep n)/\Fr (only b) w w/\rQ w b (vj e ep (lj e h S ep n)) (qS e h ep n (lj e h S ep n)) (vk e ep n S (lj e h S ep n)):=λ hr=>by
  rw[hr];exact⟨rfl,Fr.refl _ _,Nw⟩
 refine ae.dec (λ c1=>no (by simp[lj,c1])) (λ c1=>?_);refine ae.dec (λ c2=>no (by simp[lj,c2])) (λ c2=>?_);refine af.aw hb rfl ?_;refine ae.dec (λ c3=>no (by simp[lj,c3])) (λ c3=>?_);refine af.aw hb rfl ?_;refine ae.dec (λ c4=>?_) (λ c4=>?_)
 ·have hr:lj e h S ep n=true:=by unfold lj;rw[if_neg ab,if_pos ab]
  refine aK.aw hb bm rfl λ w1 aE f1 _=>?_;refine aK.aw aE bm rfl λ w2 ba f2 _=>?_;refine aK.aw ba bm rfl λ w3 bJ f3 _=>?_;have Nx:e<ep:=c4;rw[hr,acR Nx,acS Nx,acT Nx];refine⟨rfl,(f1.trans f2).trans f3,1,?_⟩;refine⟨bJ,by decide,by omega,by omega,by omega,by omega,by omega,λ i hi=>?_,λ m hm=>by simp;omega⟩;exact Uc n i
 ·have MD:ep=e:=ab
  subst MD;have hh0:0<=h:=h3 ab;refine af.aw hb rfl ?_;refine ae.dec (λ c5=>?_) (λ c5=>?_)
  ·have hr:lj ep h S ep n=true:=by
    unfold lj;rw[if_neg ab,if_neg ab,hH n c5];simp;omega
   have bI:¬ ep<ep:=ab;have c5':h<n:=c5;rw[hr,Ua,acU c5',Ub];refine af.aw hb rfl ?_;refine aK.aw hb bm rfl λ w1 aE f1 _=>?_;have e1:IntKind.i64.wrap (n - h)=n - h:=wI ab ab;rw[e1];obtain⟨k,hk⟩:∃ k:Nat,n - h=k:=⟨(n - h).toNat,by omega⟩;rw[hk];refine ae.dec (λ c6=>?_) (λ c6=>?_)
   ·refine aK.aw aE bm rfl λ w2 ba f2 _=>?_
    refine af.aw ba (x:=(0:Int)) rfl ?_;rw[if_pos ab];refine⟨by omega,?_⟩;refine aK.aw ba bm rfl λ w3 bJ f3 _=>?_;refine⟨rfl,(f1.trans f2).trans f3,1,?_⟩;refine⟨?_,by decide,by omega,by omega,by omega,by omega,by omega,λ i hi=>?_,λ m hm=>by have:=hH m ab;simp[this];omega⟩
    ·have ee:(IntKind.u64.wrap ((BitVec.ofInt 64 (IntKind.u64.wrap (0 * 2 ^ (min (Int.toNat 63) 64))) ||| BitVec.ofInt 64 1).toNat:Int))=((1:Nat):Int):=ar
     rw[ee] at bJ;exact bJ
    ·rw[Uc n i]
     by_cases CI:i=0
     ·subst CI;simp
     ·have u2:=hH (n - i) ab
      simp[u2]
   ·refine af.aw aE (x:=(x:Int)) rfl ?_
    have ac1:¬ (63:Int)<k:=ab;rw[if_neg ac1];refine⟨by omega,?_⟩;refine aK.aw aE bm rfl λ w3 bJ f3 _=>?_;refine⟨rfl,f1.trans f3,(x * 2 ^ k % 18446744073709551616 ||| 1),?_⟩;have l1:x * 2 ^ k % 18446744073709551616<18446744073709551616:=tK _ ar;refine⟨?_,Nat.or_lt_two_pow (n:=64) l1 ar,by omega,by omega,by omega,by omega,by omega,λ i hi=>?_,λ m hm=>by have:=hH m ab;simp[this];omega⟩
    ·rw[iH,D7 x k ab,show(1:Int)=((1:Nat):Int) by rfl,D8 _ 1 l1 ar] at bJ
     exact bJ
    ·rw[acY x k i hi]
     by_cases CI:i=0
     ·subst CI;simp
     ·have u1:¬ (n - (i:Int)=n):=ab
      simp only[CI,decide_false,lv]
      by_cases BG:k<=i
      ·rw[hS (i - k) ab]
       have:h - ((i - k:Nat):Int)=n - i:=ab;rw[this];simp[BG,u1]
      ·have:=hH (n - i) ab
       simp[BG,this,u1]
  ·have e1:IntKind.i64.wrap (h - n)=h - n:=wI ab ab
   refine af.aw hb rfl ?_;rw[e1];obtain⟨k,hk⟩:∃ k:Nat,h - n=k:=⟨(h - n).toNat,by omega⟩;rw[hk];refine ae.dec (λ c6=>no ?_) (λ c6=>?_)
   ·unfold lj;rw[if_neg ab,if_neg ab];simp;omega
   ·have rB:h - (k:Int)=n:=ab
    refine af.aw hb rfl ⟨by omega,?_⟩;rw[iH,acW x k zV ab];refine ae.by (λ c7=>no ?_) (λ c7=>?_)
    ·rw[hS k ab,rB] at c7
     unfold lj;rw[if_neg ab,if_neg ab,c7];simp
    ·rw[hS k ab,rB] at c7
     have hr:lj ep h S ep n=true:=by
      unfold lj;rw[if_neg ab,if_neg ab,c7];simp;omega
     have bI:¬ ep<ep:=ab;have rR:¬ h<n:=ab;rw[hr,Ua,acV rR,Ub];refine aU.of λ w0 Nw f0=>?_;rw[<- Nw] at hb;refine af.aw hb rfl ⟨by omega,?_⟩;refine aK.aw hb bm rfl λ w3 bJ f3 _=>?_;refine⟨rfl,f0.fN f3,(x ||| 2 ^ k),?_⟩;have l1:=acX k ab;refine⟨?_,Nat.or_lt_two_pow (n:=64) zV l1,by omega,by omega,by omega,by omega,by omega,λ i hi=>?_,λ m hm=>by have:=hH m hm;simp[this];omega⟩
     ·have ee:=D7 1 k ab
      rw[Nat.one_mul,oA l1] at ee;have ee':IntKind.u64.wrap (1 * 2 ^ (min k 64))=((2 ^ k:Nat):Int):=ee;rw[ee',D8 _ _ zV l1] at bJ;exact bJ
     ·rw[acZ,hS i hi]
      by_cases Ud:i=k
      ·subst Ud;simp[rB]
      ·have:¬ (h - (i:Int)=n):=ab
       simp[Ud,this]
theorem ac2 {s:cL}(hl:s.lit=false)(hd:s.dead=false)(h:(x.length:Int)<=s.cK - s.b.length):(gN s x).2=0/\(gN s x).1.b=s.b++x/\(gN s x).1.cK=s.cK/\(gN s x).1.synced=s.synced/\(gN s x).1.lit=false/\(gN s x).1.dead=false:=by
 unfold gN eU;rw[hl,hd];simp only[Bool.false_and,BU,if_false,if_true];rw[if_neg ab];exact⟨rfl,rfl,rfl,rfl,rfl,rfl⟩
theorem ac3 {s:cL}(hd:s.dead=false)(h:(x.length:Int) > s.cK - s.b.length):gN s x=(s,10):=by
 unfold gN;rw[hd,if_neg bm,if_pos h]
theorem ac4 {s:cL}(hl:s.lit=false)(hd:s.dead=false):(j7 s).2=0/\(j7 s).1.b=s.b/\(j7 s).1.cK=s.cK/\(j7 s).1.synced=s.b.length/\(j7 s).1.lit=false/\(j7 s).1.dead=false:=by
 unfold j7 eU;rw[hl,hd];refine⟨rfl,rfl,rfl,rfl,rfl,rfl⟩
theorem yA (D:Nat->Bool)(i:Nat):xx D i i=true:=by unfold xx;simp
theorem ia (D:Nat->Bool){i j:Nat}(h:j≠i):xx D i j=D j:=by
 unfold xx;have:Nat.beq j i=false:=by rw[<- Bool.not_eq_true];intro t;exact h (Nat.eq_of_beq_eq_true t)
 rw[this]
theorem Ny {z:Int}(h0:0<=z)(h1:z<=255):Value.int .u8 z=bc (toByte z):=by
 unfold bc toByte;rw[UInt8.toNat_ofNat',oA ab]
 congr 1;omega
def Ue (w:ah)(v:Sl):Prop:=v.2.2<=9223372036854775807/\∃ cs:ai,cT w (v.1,v.2.2,v.2.2) cs
theorem ac5 {x y:Sl}{ys:ai}(Fi:x.2.1=0)(yx:x.2.2=0)(hx:cT w x [])(hy:bO w y ys)(hl:ys.length<=100000000):
  ∃ (v:Sl) (w':ah),(Builtin.append_ #[22,22] 22 #[.slice x.1 x.2.1 x.2.2,.slice y.1 y.2.1 y.2.2]).run Tryz.prog w=.ok (.slice v.1 v.2.1 v.2.2) w'/\cT w' v ys/\Fr none1 w w' /\
   (∀ k,aH v k->aH x k\/w.heap.size<=k)/\Ue w' v:=by
 obtain⟨hu,⟨i,hi,hs,hz,uN⟩,hc,sE⟩:=qu;have gG:=hy.len;unfold Builtin.append_;have pH:∀ w,(sizeOf 5).run Tryz.prog w=.ok 1 w:=λ w=>by rw[mZ hi,hs]
 have hlen:∀ w,(Builtin.lenOf (.slice y.1 y.2.1 y.2.2)).run Tryz.prog w=.ok y.2.1 w:=λ w=>rfl;simp only[Sem.run_bind,under hu,Result.andThen_ok,pH,pJ,List.getElem?_cons_zero,List.getElem?_cons_succ,Sem.run_pure,BU,if_false,hlen]
 by_cases nN:x.2.1+y.2.1<=x.2.2
 ·rw[if_pos nN]
  have zv:y.2.1=0:=ab;have zz:ys=[]:=by rw[zv] at gG;exact tH gG.symm
  subst zz;simp only[Bool.not_false,if_true,Sem.run_bind,eW.first hy,Result.andThen_ok]
  have xJ:Ue w x:=⟨by omega,[],by
   rcases hx with⟨rfl,_⟩ | ⟨g,off,cs,h1,h2,h3,h4,h5,h6⟩
   ·exact .inl ⟨rfl,rfl⟩
   ·exact .inr ⟨g,off,cs,h1,h2,eR _,h4,by simp[yx],h6⟩⟩
  rcases Uf:x.1 with _ | a
  ·refine⟨x,w,?_,hx,Fr.refl _ _,λ k hk=>.inl hk,xJ⟩
   have:(x.2.1+y.2.1)=0:=ab;simp[Uf,Fi,zv,yx]
  ·refine⟨x,w,?_,hx,Fr.refl _ _,λ k hk=>.inl hk,xJ⟩
   simp only[gb,Sem.run_bind];rw[show(storeCells (a.add (x.2.1 * 1)) (([]:List av).toArray).toList 0).run Tryz.prog w=.ok () w from rfl];simp only[Result.andThen_ok,Sem.run_pure,Uf,zv,tJ]
 ·rw[if_neg nN]
  have rv:∀ w,(typeInfo 5).run Tryz.prog w=.ok i w:=λ w=>by simp[typeInfo,hi]
  have BP:Builtin.nextslicecap (x.2.1+y.2.1) x.2.2 * i.bytes<=2 ^ 48:=by
   rw[uN];have:=Qy (n:=x.2.1+y.2.1) (c:=x.2.2) ab;omega
  have nO:¬ (((x.2.1+y.2.1:Nat):Int) > IntKind.i64.max/\(False\/i.bytes=0)):=by
   rintro⟨_,h | h⟩
   ·exact h
   ·omega
  simp only[Sem.run_bind,rv,Result.andThen_ok,Sem.run_ite];rw[if_neg nO,if_neg (show ¬ (Builtin.nextslicecap (x.2.1+y.2.1) x.2.2 * i.bytes > 2 ^ 48) by omega)];simp only[run_choose,Question.forced,BU,if_false,Result.andThen_ok,run_askRoom];generalize zA:(Question.appendCap (x.2.1+y.2.1) x.2.2 5).cut _=nc;have gk:x.2.1+y.2.1<=nc:=by rw[<- zA];simp[Question.cut]
  have hle:nc<=9223372036854775807:=by
   rw[<- zA];simp only[Question.cut];have:=tK (w.tape w.drawn (Question.appendCap (x.2.1+y.2.1) x.2.2 5)) (show 2 ^ 63 - (x.2.1+y.2.1) > 0 by omega);omega
  have f1:=BM w;rw[aV.first (hx.ag f1)]
  simp only[Result.andThen_ok,Bool.not_false,if_true];rw[eW.first (hy.ag f1)]
  simp only[Result.andThen_ok,uG hi hz,newRow,Sem.run_bind,run_newObj,Sem.run_pure];have zB:Builtin.zeroCells (Value.int .u8 0).cells (nc - (x.2.1+y.2.1))=((List.replicate (nc - (x.2.1+y.2.1)) (0:UInt8)).map bc).toArray:=by
   unfold Builtin.zeroCells;apply Array.ext
   ·simp[Value.cells]
   ·intro j h1 h2
    simp[Value.cells,Nat.mod_one,bc]
  have Ay:∀ (h:Array Obj) (o:Obj),(h.push o)[h.size]? = some o:=λ h o=>D9 ..;have hcs:(([]:ai).map bc).toArray++(ys.map bc).toArray++Builtin.zeroCells (Value.int .u8 0).cells (nc - (x.2.1+y.2.1))=((ys++List.replicate (nc - (x.2.1+y.2.1)) (0:UInt8)).map bc).toArray:=by rw[zB];simp
  refine⟨(some ⟨w.heap.size,0,none⟩,x.2.1+y.2.1,nc),_,rfl,.inr ⟨w.heap.size,0,_,rfl,Ay _ _,gk,?_,by simp;omega,λ j hj=>?_⟩,
   ((f1.trans (pG _ _)).mono λ _ _ t=>t.elim),λ k ⟨a,ha,hk⟩=>.inr (by injection ha with ha;subst ha;subst hk;exact eR _),
   hle,ys++List.replicate (nc - (x.2.1+y.2.1)) 0,.inr ⟨w.heap.size,0,_,rfl,Ay _ _,eR _,?_,by simp;omega,λ j hj=>?_⟩⟩
  ·rw[hcs];simp;omega
  ·rw[hcs,eP]
   simp only[eI] at hj;simp[List.getElem?_append,hj]
  ·rw[hcs];simp;omega
  ·rw[hcs,eP];simp
theorem ac6 (w:ah):∃ w',(Instr.buildSlice 22 0 #[]).run Tryz.prog w=.ok (.slice (some ⟨w.heap.size,0,none⟩) 0 0) w'/\w'.heap[w.heap.size]? = some (.cells #[] 5 (0,0))/\Fr none1 w w':=by
 obtain⟨hu,⟨i,hi,hs,hz,uN⟩,hc,sE⟩:=qu;have pH:∀ w,(sizeOf 5).run Tryz.prog w=.ok 1 w:=λ w=>by rw[mZ hi,hs]
 unfold Instr.buildSlice;simp only[Sem.run_bind,under hu,Result.andThen_ok,pH];rw[if_neg ab];simp only[Nat.zero_mul,if_true,Sem.run_bind,Sem.run_pure,Result.andThen_ok];simp only[Instr.fill,newRow,Sem.run_bind,run_newObj,Result.andThen_ok,Sem.run_pure];exact⟨_,rfl,by simp,pG _ _⟩
def C139 (p0:aS)(bh bC:Nat)(w:ah)(K:aP):Prop:=
 cp (Int×Int×Unit) (λ _ s1 w2 jh=>ae (decide (s1.2.1<(bh:Int)))
 (cz p0 bh s1.2.1 1 (λ a4=>af (.int .u8) a4 w2 (λ(x5:Int)=>jh (IntKind.u8.wrap ((BitVec.ofInt 8 s1.1 ^^^ BitVec.ofInt 8 x5).toNat:Int),IntKind.i64.wrap (s1.2.1+1),()) w2)))
 (K (.int .u8 s1.1) w2))
 (150,0,()) w
def pl139:aN:=(.seq .auto (.seq .auto (.seq (.seq .auto (.block (.loop [(3,.one (.int .u8)),(8,.one (.int .i64))] .auto))) .auto)))
theorem c139 (p0 bh bC w K)(h:C139 p0 bh bC w K):au 139 #[.slice p0 bh bC] w K:=aQ Tryz.func139 (p:=pl139) aA h
def C104 (p0:aS)(bh bC:Nat)(w:ah)(K:aP):Prop:=
 mb 8 (aT (Instr.buildSlice 22 2 #[(0,.int .u8 (IntKind.u8.wrap (Int.fdiv (bh:Int) (2 ^ (min (Int.toNat 8) 64))))),(1,.int .u8 (IntKind.u8.wrap (bh:Int)))]) w aM (λ(x1:aB) w2=>aT (Builtin.append_ #[22,22] 22 #[aO x1,.slice p0 bh bC]) w2 aM (λ(x3:aB) w4=>ak 139 #[aO x3] w4 (.v (.one (.int .u8))) (λ(x5:Int) w6=>aT (Instr.buildSlice 22 1 #[(0,.int .u8 x5)]) w6 aM (λ(x7:aB) w8=>aT (Builtin.append_ #[22,22] 22 #[aO x3,aO x7]) w8 aM (λ(x9:aB) aX=>K (aO x9) aX))))))
def pl104:aN:=.auto
theorem c104 (p0 bh bC w K)(h:C104 p0 bh bC w K):au 104 #[.slice p0 bh bC] w K:=aQ Tryz.func104 (p:=pl104) aA h
def C96 (p0:Option Addr)(bh bC:Nat)(w:World)(K:Value->World->Prop):Prop:=
 ae (decide ((bh:Int)<2))
 (K (.tuple #[.slice none 0 0,.slice p0 bh bC,.bool false]) w)
 (su w (λ C1=>cz p0 bh 0 1 (λ a2=>iZ C1 2 [] (.v (.one (.int .u8))) (λ w4 k5=>af (.int .u8) a2 w4 (λ(x6:Int)=>k5 (.int .u8 x6) w4))
 (λ(x3:Int)=>iZ C1 3 [2] (.v (.one (.int .i64))) (λ w8 k9=>k9 (.int .i64 (IntKind.i64.wrap x3)) w8)
 (λ(x7:Int)=>mb 8 (cz p0 bh 1 1 (λ tU=>iZ C1 7 [] (.v (.one (.int .u8))) (λ br k13=>af (.int .u8) tU br (λ(cj:Int)=>k13 (.int .u8 cj) br))
 (λ(bQ:Int)=>iZ C1 8 [7] (.v (.one (.int .i64))) (λ bV k17=>k17 (.int .i64 (IntKind.i64.wrap bQ)) bV)
 (λ(cm:Int)=>(∀ b9,C1 (mem [2,3,7,8]) b9->su b9 (λ C19=>ae (decide ((IntKind.i64.wrap ((BitVec.ofInt 64 (IntKind.i64.wrap (x7 * 2 ^ (min (Int.toNat 8) 64))) ||| BitVec.ofInt 64 cm).toNat:Int)) > 4000))
 (xy C19 15 (xy C19 20 ((∀ bW,C19 (mem [15,20]) bW->K (.tuple #[.slice none 0 0,.slice p0 bh bC,.bool false]) bW))))
 (ae (decide ((bh:Int)<(IntKind.i64.wrap ((IntKind.i64.wrap (2+(IntKind.i64.wrap ((BitVec.ofInt 64 (IntKind.i64.wrap (x7 * 2 ^ (min (Int.toNat 8) 64))) ||| BitVec.ofInt 64 cm).toNat:Int))))+1))))
 (xy C19 15 (xy C19 20 ((∀ cr,C19 (mem [15,20]) cr->K (.tuple #[.slice none 0 0,.slice p0 bh bC,.bool false]) cr))))
 (cz p0 bh (IntKind.i64.wrap (2+(IntKind.i64.wrap ((BitVec.ofInt 64 (IntKind.i64.wrap (x7 * 2 ^ (min (Int.toNat 8) 64))) ||| BitVec.ofInt 64 cm).toNat:Int)))) 1 (λ a22=>iZ C19 15 [] (.v (.one (.int .u8))) (λ cZ k25=>af (.int .u8) a22 cZ (λ(eX:Int)=>k25 (.int .u8 eX) cZ))
 (λ(eB:Int)=>gQ p0 bC 0 (IntKind.i64.wrap (2+(IntKind.i64.wrap ((BitVec.ofInt 64 (IntKind.i64.wrap (x7 * 2 ^ (min (Int.toNat 8) 64))) ||| BitVec.ofInt 64 cm).toNat:Int)))) bC 1 (λ E8 E9 c29=>iZ C19 20 [] (.v (.one (.int .u8))) (λ gZ k32=>an Tryz.prog 139 #[.slice E8 E9 c29] gZ (.v (.one (.int .u8))) (λ(fk:Int) jc=>k32 (.int .u8 fk) jc))
 (λ(gB:Int)=>(∀ gh,C19 (mem [15,20]) gh->ae (eB != gB)
 (K (.tuple #[.slice none 0 0,.slice p0 bh bC,.bool false]) gh)
 (su gh (λ C36=>gQ p0 bC 2 (IntKind.i64.wrap (2+(IntKind.i64.wrap ((BitVec.ofInt 64 (IntKind.i64.wrap (x7 * 2 ^ (min (Int.toNat 8) 64))) ||| BitVec.ofInt 64 cm).toNat:Int)))) bC 1 (λ a37 l38 c39=>iZ C36 4 [] (.v (.one .bE)) (λ oB k42=>an Tryz.prog 66 #[.slice a37 l38 c39] oB (.v (.one .bE)) (λ(mL:aB) ij=>k42 (.slice mL.1 mL.2.1 mL.2.2) ij))
 (λ(mi:aB)=>gQ p0 bC (IntKind.i64.wrap ((IntKind.i64.wrap (2+(IntKind.i64.wrap ((BitVec.ofInt 64 (IntKind.i64.wrap (x7 * 2 ^ (min (Int.toNat 8) 64))) ||| BitVec.ofInt 64 cm).toNat:Int))))+1)) bh bC 1 (λ a45 l46 c47=>(∀ jv,C36 (mem [4]) jv->K (.tuple #[.slice mi.1 mi.2.1 mi.2.2,.slice a45 l46 c47,.bool true]) jv))))))))))))))))))))))))
def pl96:aN:=(.seq .auto (.seq .auto (.seq (.any [(2,.v (.one (.int .u8))),(3,.v (.one (.int .i64))),(7,.v (.one (.int .u8))),(8,.v (.one (.int .i64)))]) (.seq (.seq (.any [(15,.v (.one (.int .u8))),(20,.v (.one (.int .u8)))]) .auto) (.seq (.any [(4,.v (.one .bE))]) .auto)))))
theorem c96 (p0 bh bC w K)(h:C96 p0 bh bC w K):au 96 #[.slice p0 bh bC] w K:=aQ Tryz.func96 (p:=pl96) aA h
def C67 (p0:Addr)(w:ah)(K:aP):Prop:=
 ak 94 #[aI p0] w bK (λ(x1:Bool) w2=>ae x1
 (K (.tuple #[.pointer none,aa 11]) w2)
 (aC (.cells #[aI p0,.slice none 0 0,.bool false] 220) w2 (λ g3 w4=>ak 95 #[aI p0] w4 aM (λ(x5:aB) w6=>cp (aB×Unit) (λ _ s7 w8 Ah=>ak 96 #[.slice s7.1.1 s7.1.2.1 s7.1.2.2] w8 (.bR [.one .bE,.one .bE,.one .bool]) (λ(bG:aB×aB×Bool×Unit) bt=>ae (!bG.2.2.1)
 (ae (decide ((s7.1.2.1:Int) > 0))
 (ak 97 #[aI p0,aa (IntKind.i64.wrap ((x5.2.1:Int) - (s7.1.2.1:Int)))] bt bN (λ(cn:Int) bM=>ae (cn != 0)
 (K (.tuple #[.pointer none,aa cn]) bM)
 (K (.tuple #[.pointer (some (ad g3)),aa 0]) bM)))
 (K (.tuple #[.pointer (some (ad g3)),aa 0]) bt))
 (af .bE ((ad g3).add 1) bt (λ(cj:aB)=>aT (Instr.buildSlice 98 1 #[(0,.slice bG.1.1 bG.1.2.1 bG.1.2.2)]) bt aM (λ(cm:aB) bV=>aT (Builtin.append_ #[98,98] 98 #[aO cj,aO cm]) bV aM (λ(bZ:aB) b9=>aK ((ad g3).add 1) (aO bZ) b9 (λ ct=>Ah ((bG.2.1.1,bG.2.1.2.1,bG.2.1.2.2),()) ct)))))))
 ((x5.1,x5.2.1,x5.2.2),()) w6))))
def pl67:aN:=(.seq .auto (.seq .auto (.seq .auto (.seq .auto (.seq .auto (.seq (.block (.loop [(6,.one .bE)] .auto)) .auto))))))
theorem c67 (p0 w K)(h:C67 p0 w K):au 67 #[aI p0] w K:=aQ Tryz.func67 (p:=pl67) aA h
def C93 (p0:Addr)(w:ah)(K:aP):Prop:=
 af .bool (p0.add 2) w (λ(x1:Bool)=>K (.bool x1) w)
def pl93:aN:=.auto
theorem c93 (p0 w K)(h:C93 p0 w K):au 93 #[aI p0] w K:=aQ Tryz.func93 (p:=pl93) aA h
def C72 (p0:Addr)(p1:Option Addr)(dk dR:Nat)(w:World)(K:Value->World->Prop):Prop:=
 dc (Unit) (λ J1=>af .bool (p0.add 2) w (λ(x4:Bool)=>ae x4
 (aK (p0.add 2) (.bool true) w (λ w5=>J1 (()) w5))
 (af .ptr (p0.add 0) w (λ(x6:Option Addr)=>an Tryz.prog 94 #[.pointer x6] w (.v (.one .bool)) (λ(x7:Bool) w8=>aK (p0.add 2) (.bool x7) w8 (λ w9=>J1 (()) w9))))))
 (λ _ s2 w3=>af .bool (p0.add 2) w3 (λ(bG:Bool)=>ae bG
 (K (.int .i64 11) w3)
 (ae (decide ((dk:Int) > 4000))
 (K (.int .i64 5) w3)
 (su w3 (λ C11=>iZ C11 3 [] (.v (.one .ptr)) (λ bM k14=>af .ptr (p0.add 0) bM (λ(cm:Option Addr)=>k14 (.pointer cm) bM))
 (λ(cn:Option Addr)=>iZ C11 5 [] (.v (.one .bE)) (λ da k18=>an Tryz.prog 104 #[.slice p1 dk dR] da (.v (.one .bE)) (λ(cJ:aB) bW=>k18 (.slice cJ.1 cJ.2.1 cJ.2.2) bW))
 (λ(bP:aB)=>iZ C11 6 [3,5] (.v (.one (.int .i64))) (λ cH k23=>an Tryz.prog 103 #[.pointer cn,.slice bP.1 bP.2.1 bP.2.2] cH (.v (.one (.int .i64))) (λ(dr:Int) eJ=>k23 (.int .i64 dr) eJ))
 (λ(du:Int)=>(∀ de,C11 (mem [3,5,6]) de->ae (du==0)
 (af .ptr (p0.add 0) de (λ(eD:Option Addr)=>an Tryz.prog 105 #[.pointer eD] de (.v (.one (.int .i64))) (λ(ji:Int) gr=>ae (ji != 0)
 (aK (p0.add 2) (.bool (ji==11)) gr (λ cN=>K (.int .i64 ji) cN))
 (su gr (λ C31=>iZ C31 4 [] (.v (.one .bE)) (λ fT k34=>af .bE (p0.add 1) fT (λ(eY:aB)=>k34 (.slice eY.1 eY.2.1 eY.2.2) fT))
 (λ(gx:aB)=>iZ C31 6 [] (.v (.one .bE)) (λ fI k38=>an Tryz.prog 66 #[.slice p1 dk dR] fI (.v (.one .bE)) (λ(iT:aB) fw=>k38 (.slice iT.1 iT.2.1 iT.2.2) fw))
 (λ(gW:aB)=>iZ C31 7 [6] (.v (.one .bE)) (λ iI k43=>kT Tryz.prog (Instr.buildSlice 98 1 #[(0,.slice gW.1 gW.2.1 gW.2.2)]) iI (.v (.one .bE)) (λ(lP:aB) jH=>k43 (.slice lP.1 lP.2.1 lP.2.2) jH))
 (λ(gC:aB)=>iZ C31 8 [4,6,7] (.v (.one .bE)) (λ jb k48=>kT Tryz.prog (Builtin.append_ #[98,98] 98 #[.slice gx.1 gx.2.1 gx.2.2,.slice gC.1 gC.2.1 gC.2.2]) jb (.v (.one .bE)) (λ(iJ:aB) pT=>k48 (.slice iJ.1 iJ.2.1 iJ.2.2) pT))
 (λ(nq:aB)=>iZ C31 11 [4,6,7,8] (.bR []) (λ jx k53=>aK (p0.add 1) (.slice nq.1 nq.2.1 nq.2.2) jx (λ kn=>k53 undef kn))
 (λ(nV:Unit)=>(∀ jI,C31 (mem [4,6,7,8,11]) jI->K (.int .i64 0) jI)))))))))))
 (ae (du != 0)
 (aK (p0.add 2) (.bool (du==11)) de (λ wj=>K (.int .i64 du) wj))
 (su de (λ C57=>iZ C57 4 [] (.v (.one .bE)) (λ oZ k60=>af .bE (p0.add 1) oZ (λ(vl:aB)=>k60 (.slice vl.1 vl.2.1 vl.2.2) oZ))
 (λ(rC:aB)=>iZ C57 6 [] (.v (.one .bE)) (λ xY k64=>an Tryz.prog 66 #[.slice p1 dk dR] xY (.v (.one .bE)) (λ(ya:aB) AK=>k64 (.slice ya.1 ya.2.1 ya.2.2) AK))
 (λ(Ep:aB)=>iZ C57 7 [6] (.v (.one .bE)) (λ yB k69=>kT Tryz.prog (Instr.buildSlice 98 1 #[(0,.slice Ep.1 Ep.2.1 Ep.2.2)]) yB (.v (.one .bE)) (λ(Ak:aB) wv=>k69 (.slice Ak.1 Ak.2.1 Ak.2.2) wv))
 (λ(uZ:aB)=>iZ C57 8 [4,6,7] (.v (.one .bE)) (λ u0 k74=>kT Tryz.prog (Builtin.append_ #[98,98] 98 #[.slice rC.1 rC.2.1 rC.2.2,.slice uZ.1 uZ.2.1 uZ.2.2]) u0 (.v (.one .bE)) (λ(AL:aB) u6=>k74 (.slice AL.1 AL.2.1 AL.2.2) u6))
 (λ(wA:aB)=>iZ C57 11 [4,6,7,8] (.bR []) (λ pR k79=>aK (p0.add 1) (.slice wA.1 wA.2.1 wA.2.2) pR (λ Nz=>k79 undef Nz))
 (λ(Fv:Unit)=>(∀ IV,C57 (mem [4,6,7,8,11]) IV->K (.int .i64 0) IV))))))))))))))))))
def pl72:aN:=(.seq .auto (.join [] .auto (.seq .auto (.seq (.any [(3,.v (.one .ptr)),(5,.v (.one .bE)),(6,.v (.one (.int .i64)))]) (.seq .auto (.seq .auto (.seq (.any [(4,.v (.one .bE)),(6,.v (.one .bE)),(7,.v (.one .bE)),(8,.v (.one .bE)),(11,.bR [])]) .auto)))))))
theorem c72 (p0 p1 dk dR w K)(h:C72 p0 p1 dk dR w K):au 72 #[aI p0,.slice p1 dk dR] w K:=aQ Tryz.func72 (p:=pl72) aA h
def C70 (p0:Addr)(w:ah)(K:aP):Prop:=
 af .bE (p0.add 1) w (λ(x1:aB)=>cp (aB×Int×Unit) (λ _ s2 w3 NA=>ae (decide (s2.2.1<(x1.2.1:Int)))
 (cz x1.1 x1.2.1 s2.2.1 1 (λ a5=>af .bE a5 w3 (λ(x6:aB)=>ak 66 #[aO x6] w3 aM (λ(x7:aB) w8=>aT (Instr.buildSlice 98 1 #[(0,aO x7)]) w8 aM (λ(x9:aB) aX=>aT (Builtin.append_ #[98,98] 98 #[.slice s2.1.1 s2.1.2.1 s2.1.2.2,aO x9]) aX aM (λ(bQ:aB) br=>NA ((bQ.1,bQ.2.1,bQ.2.2),IntKind.i64.wrap (s2.2.1+1),()) br))))))
 (K (.slice s2.1.1 s2.1.2.1 s2.1.2.2) w3))
 ((none,0,0),0,()) w)
def pl70:aN:=(.seq .auto (.seq .auto (.seq (.seq .auto (.block (.loop [(3,.one .bE),(11,.one (.int .i64))] .auto))) .auto)))
theorem c70 (p0 w K)(h:C70 p0 w K):au 70 #[aI p0] w K:=aQ Tryz.func70 (p:=pl70) aA h
theorem Ug:jR Tryz.prog 98 22 1 (.slice none 0 0) 24:=⟨Tryz.underlying98,⟨Tryz.t22,by kernel_rfl,rfl,rfl,rfl⟩,rfl,by decide⟩
def pc (u:Sl):av:=.slice u.1 u.2.1 u.2.2
def yC:Sl:=(none,0,0)
structure kv (w:ah)(S:bz)(v:Sl)(rs:List (ai)):Prop where
 out:∃ us:List Sl,aV w 22 1 v (us.map pc)/\us.length=rs.length/\(∀ i,i<us.length->bO w (us.getD i yC) (rs.getD i []))/\∀ u∈us,(∀ k,aH u k->S k/\¬ aH v k)/\u.2.1<=u.2.2
 own:∀ k,aH v k->S k
 lt:∀ k,S k->k<w.heap.size
theorem kv.ao {v:Sl}{rs:List (ai)}(h:kv w S v rs){T:bz}(f:Fr T w w')(hT:∀ k,S k->¬ T k):kv w' S v rs:=by
 obtain⟨⟨us,a,b,c,d⟩,o,l⟩:=h;refine⟨⟨us,a.ao f (λ k hk=>hT k (o k hk)),b,λ i hi=>(c i hi).ao f (λ k hk=>?_),d⟩,o,λ k hk=>nS (l k hk) f.size⟩;rw[dB,cV hi] at hk;exact hT k ((d _ (nQ hi)).1 k hk).1
theorem kv.ag {v:Sl}{rs:List (ai)}(h:kv w S v rs)(f:Fr none1 w w'):kv w' S v rs:=h.ao f (λ _ _ t=>t)
theorem kv.len {v:Sl}{rs:List (ai)}(h:kv w S v rs):v.2.1=rs.length:=by
 obtain⟨⟨us,a,b,_⟩,_⟩:=h;have:=a.len;simp at this;omega
theorem Fw (w:ah)(S:bz)(hS:∀ k,S k->k<w.heap.size):kv w S (none,0,0) []:=
 ⟨⟨[],.inl ⟨rfl,rfl⟩,rfl,λ i hi=>by simp at hi,λ u hu=>by simp at hu⟩,(λ k ⟨a,ha,_⟩=>by cases ha),hS⟩
theorem kv.snoc {v u:Sl}{rs:List (ai)}{b:ai}(h:kv w S v rs)(hu:bO w u b)(AM:u.2.1<=u.2.2)(dP:∀ k,aH u k->k<w.heap.size/\¬ S k)(hl:rs.length<=1000000):
  ∃ (y:Sl) (w2:ah) (z:Sl) (w3:ah),(Instr.buildSlice 98 1 #[(0,.slice u.1 u.2.1 u.2.2)]).run Tryz.prog w=.ok (.slice y.1 y.2.1 y.2.2) w2/\Fr none1 w w2 /\
   (Builtin.append_ #[98,98] 98 #[.slice v.1 v.2.1 v.2.2,.slice y.1 y.2.1 y.2.2]).run Tryz.prog w2=.ok (.slice z.1 z.2.1 z.2.2) w3 /\
   Fr (aH v) w w3/\∃ S',(∀ k,S' k->S k\/aH u k\/w.heap.size<=k)/\kv w3 S' z (rs++[b]):=by
 have dD:=h.len;obtain⟨⟨us,a1,a2,a3,a4⟩,o,l⟩:=h;obtain⟨y,w2,hr,hy,gG,f1,hf⟩:=oT (P:=Tryz.prog) (w:=w) Ug (pc u) rfl;obtain⟨z,w3,iD,hz,hzl,f2,nP⟩:=jf Ug 98 (a1.ag f1) hy.rd (by simp[pc,cG]) (by rw[gG,dD];omega);have f3:Fr (aH v) w w3:=f1.fN f2;refine⟨y,w2,z,w3,hr,f1,iD,f3,λ k=>S k\/aH u k\/aH z k,λ k hk=>?_,?_⟩
 ·rcases hk with t | t | t
  ·exact .inl t
  ·exact .inr (.inl t)
  ·rcases nP k t with t | t
   ·exact .inl (o k t)
   ·exact .inr (.inr (ez f1.size t))
 ·refine⟨⟨us++[u],?_,by simp[a2],λ i hi=>?_,λ x hx=>⟨λ k hk=>?_,?_⟩⟩,λ k hk=>.inr (.inr hk),λ k hk=>?_⟩
  ·rw[jG];exact hz
  ·by_cases wY:i<us.length
   ·rw[IE _ _ _ wY,IE _ _ _ ab]
    refine(a3 i wY).ao f3 (λ k hk=>?_);rw[dB,cV wY] at hk;exact((a4 _ (nQ wY)).1 k hk).2
   ·have:i=us.length:=by simp at hi;omega
    subst this;rw[IF,a2,IF];exact hu.ao f3 (λ k hk t=>(dP k hk).2 (o k t))
  ·rcases kE.1 hx with hx | hx
   ·obtain⟨t1,t2⟩:=(a4 x hx).1 k hk
    refine⟨.inl t1,λ t=>?_⟩
    rcases nP k t with t | t
    ·exact t2 t
    ·have:=l k t1;have:=f1.size;omega
   ·simp at hx;subst hx
    refine⟨.inr (.inl hk),λ t=>?_⟩
    rcases nP k t with t | t
    ·exact(dP k hk).2 (o k t)
    ·have:=(dP k hk).1;have:=f1.size;omega
  ·rcases kE.1 hx with hx | hx
   ·exact(a4 x hx).2
   ·simp at hx;subst hx;exact AM
  ·have s3:=f3.size
   rcases hk with t | t | t
   ·have:=l k t;omega
   ·have:=(dP k t).1;omega
   ·exact aV.lt hz t
theorem Uh {v:Sl}(h:bO w v bs)(hl:bs.length<=100000000):
  ∃ (u:Sl) (w1:ah),au 66 #[.slice v.1 v.2.1 v.2.2] w (λ r w'=>r=.slice u.1 u.2.1 u.2.2/\w1=w')/\cT w1 u bs/\Fr none1 w w1/\∀ k,aH u k->w.heap.size<=k:=by
 cases hn:v.1 with
 | none=>
  obtain⟨_,_,he⟩:=h.2.1 hn;refine⟨(none,0,0),w,?_,.inl ⟨rfl,he⟩,Fr.refl _ _,λ k ⟨a,ha,_⟩=>(by cases ha)⟩;refine c66 none v.2.1 v.2.2 w _ ?_;exact ae.t rfl ⟨rfl,rfl⟩
 | some a=>
  obtain⟨w1,hr,aE,f1⟩:=ac6 w;have hx:cT w1 (some ⟨w.heap.size,0,none⟩,0,0) []:=.inr ⟨w.heap.size,0,#[],rfl,aE,eR _,by simp,by simp,λ i hi=>by simp at hi⟩;obtain⟨u,w2,iD,hu,f2,nP,hq⟩:=ac5 rfl rfl hx (h.ag f1) hl;refine⟨u,w2,?_,hu,f1.trans f2,λ k hk=>?_⟩
  ·refine c66 (some a) v.2.1 v.2.2 w _ ?_
   refine ae.f rfl ?_;rw[hn] at iD;exact⟨(some ⟨w.heap.size,0,none⟩,0,0),w1,hr,u,w2,iD,rfl,rfl⟩
  ·rcases nP k hk with⟨a,ha,hk⟩ | t
   ·injection ha with ha;subst ha;subst hk;exact eR _
   ·exact ez f1.size t
theorem ac7 (x:UInt8)(p:Int):IntKind.u8.wrap ((BitVec.ofInt 8 (x.toNat:Int) ^^^ BitVec.ofInt 8 p).toNat:Int)=((CR x p).toNat:Int):=by
 have:=T7 x p;unfold bc at this;injection this
def ui (x:UInt8)(bs:ai):UInt8:=bs.foldl (λ a c=>CR a (c.toNat:Int)) x
theorem Ui {v:Sl}(h:bO w v bs)(hl:bs.length<=100000000):au 139 #[.slice v.1 v.2.1 v.2.2] w λ r w'=>r=.int .u8 ((ui 150 bs).toNat:Int)/\w=w':=by
 refine c139 v.1 v.2.1 v.2.2 w _ ?_;have dD:=h.len;refine cp.of (λ s w'=>w=w'/\0<=s.2.1/\s.2.1<=v.2.1/\s.1=((ui 150 (bs.take s.2.1.toNat)).toNat:Int)) (λ s _=>(v.2.1 - s.2.1).toNat) ⟨rfl,by dsimp only;omega,by dsimp only;omega,rfl⟩ ?_;rintro _ ⟨x,i,_⟩ _ ⟨rfl,i0,i1,hx⟩;dsimp only at i0 i1 hx ⊢;refine ae.dec (λ bI=>?_) (λ gk=>?_)
 ·refine bO.at h i0 bI ?_
  rw[wI ab ab,hx,ac7];refine⟨⟨rfl,by omega,by omega,?_⟩,by omega⟩;rw[show(i+1).toNat=i.toNat+1 by omega,zG ab];unfold ui;rw[sF,dB,cV ab];rfl
 ·rw[gV ab] at hx
  rw[hx];exact⟨rfl,rfl⟩
def uj (bs:ai):ai:=[toByte ((bs.length:Int) / 256),toByte ((bs.length:Int) % 256)]
def eL (bs:ai):ai:=uj bs++bs++[ui 150 (uj bs++bs)]
theorem wZ (bs:ai):(eL bs).length=bs.length+3:=by unfold eL uj;simp
theorem ac8 {v:Sl}(h:bO w v bs)(hl:bs.length<=4000):
  ∃ (u:Sl) (w1:ah),au 104 #[.slice v.1 v.2.1 v.2.2] w (λ r w'=>r=.slice u.1 u.2.1 u.2.2/\w1=w')/\cT w1 u (eL bs)/\Fr none1 w w1/\∀ k,aH u k->w.heap.size<=k:=by
 have dD:=h.len;obtain⟨x,w1,r1,hx,nU,f1,xf⟩:=vR (P:=Tryz.prog) (w:=w) qu ((uj bs).map bc) (by intro v hv;obtain⟨x,_,rfl⟩:=kF.1 hv;rfl) (by simp[uj]);have zV:cT w1 x (uj bs):=hx;obtain⟨y,w2,r2,hy,f2,yf⟩:=vS zV (h.ag f1) (by simp[uj];omega);obtain⟨z,w3,r3,hz,hzl,f3,zf⟩:=oT (P:=Tryz.prog) (w:=w2) qu (bc (ui 150 (uj bs++bs))) rfl;have ME:bO w3 z [ui 150 (uj bs++bs)]:=hz.rd;have hy3:=hy.ag f3;obtain⟨u,w4,r4,hu,f4,uf⟩:=vS hy3 ME (by simp[uj];omega);have Uj:∀ k,aH y k->w.heap.size<=k:=λ k hk=>by
  rcases yf k hk with t | t
  ·exact xf k t
  ·exact ez f1.size t
 have f12:Fr none1 w w2:=f1.comp f2 (λ k hk t=>by have:=xf k t;omega);refine⟨u,w4,?_,hu,(f12.trans f3).comp f4 (λ k hk t=>by have:=Uj k t;omega),λ k hk=>?_⟩
 ·refine c104 v.1 v.2.1 v.2.2 w _ ?_
  refine⟨by omega,x,w1,?_,y,w2,r2,?_⟩
  ·refine Eq.trans ?_ r1
   have e1:IntKind.u8.wrap (Int.fdiv (v.2.1:Int) (2 ^ (min (Int.toNat 8) 64)))=(bs.length:Int) / 256:=by
    rw[show(2:Int) ^ (min (Int.toNat 8) 64)=256 from rfl,Int.fdiv_eq_ediv_of_nonneg _ ab,dD,wB ab ab]
   have e2:IntKind.u8.wrap (v.2.1:Int)=(bs.length:Int) % 256:=by rw[IntKind.wrap_u8,dD]
   rw[e1,e2,Ny (z:=(bs.length:Int) / 256) ab ab,Ny (z:=(bs.length:Int) % 256) ab ab];rfl
  ·refine an.of (Ui hy.rd (by simp[uj];omega)) ?_
   rintro _ _ ⟨rfl,rfl⟩;exact⟨_,rfl,z,w3,r3,u,w4,r4,rfl,rfl⟩
 ·rcases uf k hk with t | t
  ·exact Uj k t
  ·exact ez (f12.trans f3).size t
structure kO (w:ah)(S:bz)(p b g:Nat)(s:cL)(d:Bool)(rs:List (ai)):Prop where
 file:js w b g s
 out:∃ jl:Sl,w.heap[p]? = some (.cells #[aZ b,.slice jl.1 jl.2.1 jl.2.2,.bool d] 220 (0,0))/\kv w S jl rs
 ne:p≠b/\p≠g
 off:∀ k,S k->k≠p/\k≠b/\k≠g
theorem kO.ao {p:Nat}{s:cL}{d:Bool}{rs:List (ai)}(h:kO w S p b g s d rs){T:bz}(f:Fr T w w')(h1:¬ T p)(h2:¬ T b)(h3:¬ T g)(h4:∀ k,S k->¬ T k):kO w' S p b g s d rs:=by
 obtain⟨a,⟨jl,b1,b2⟩,c,d⟩:=h;exact⟨a.ao f h2 h3,⟨jl,f.ao b1 h1,b2.ao f h4⟩,c,d⟩
theorem kO.ag {p:Nat}{s:cL}{d:Bool}{rs:List (ai)}(h:kO w S p b g s d rs)(f:Fr none1 w w'):kO w' S p b g s d rs:=h.ao f (λ t=>t) (λ t=>t) (λ t=>t) (λ _ _ t=>t)
theorem kO.Fy {p:Nat}{s:cL}{d:Bool}{rs:List (ai)}(h:kO w S p b g s d rs):p<w.heap.size:=by
 obtain⟨_,⟨jl,b1,_⟩,_⟩:=h;exact cQ b1
theorem kO.slt {p:Nat}{s:cL}{d:Bool}{rs:List (ai)}(h:kO w S p b g s d rs):∀ k,S k->k<w.heap.size:=by
 obtain⟨_,⟨jl,_,b2⟩,_⟩:=h;exact b2.lt
def yD (S:bz)(p b:Nat):bz:=λ k=>k=p\/k=b\/S k
def NB (w:ah)(S:bz)(p b g:Nat)(s':cL)(d':Bool)(rs':List (ai))(w':ah):Prop:=
 Fr (yD S p b) w w'/\∃ S' g',(∀ k,S' k->S k\/w.heap.size<=k)/\(g'=b\/g'=g\/w.heap.size<=g')/\kO w' S' p b g' s' d' rs'
theorem kO.uk {p:Nat}{s s':cL}{d:Bool}{rs:List (ai)}(h:kO w S p b g s d rs)(t:mB w b g s' w'):∃ g',(g'=b\/g'=g\/w.heap.size<=g')/\kO w' S p b g' s' d rs:=by
 obtain⟨f,g',hg,i⟩:=t;have hp:=h.Fy;have hs:=h.slt;obtain⟨a,⟨jl,b1,b2⟩,c,o⟩:=h;refine⟨g',hg,i,⟨jl,f.ao b1 (λ t=>c.1 t),b2.ao f (λ k hk t=>(o k hk).2.1 t)⟩,⟨c.1,?_⟩,λ k hk=>⟨(o k hk).1,(o k hk).2.1,?_⟩⟩
 ·rcases hg with t | t | t
  ·rw[t];exact c.1
  ·rw[t];exact c.2
  ·omega
 ·have:=hs k hk
  rcases hg with t | t | t
  ·rw[t];exact(o k hk).2.1
  ·rw[t];exact(o k hk).2.2
  ·omega
theorem ac9 {p:Nat}{s:cL}{d:Bool}{rs:List (ai)}(h:kO w S p b g s d rs):au 93 #[aZ p] w λ r w'=>r=.bool d/\w=w':=by
 obtain⟨_,⟨jl,hp,_⟩,_⟩:=h;exact c93 _ w _ (af.aw hp rfl ⟨rfl,rfl⟩)
theorem ada {p:Nat}{s:cL}{d:Bool}{rs:List (ai)}(h:kO w S p b g s d rs)(hl:rs.length<=1000000)(hr:∀ r∈rs,r.length<=100000000):
  au 70 #[aZ p] w λ r w'=>∃ (v:Sl) (S':bz),r=.slice v.1 v.2.1 v.2.2/\kv w' S' v rs/\Fr none1 w w'/\∀ k,S' k->w.heap.size<=k:=by
 obtain⟨_,⟨jl,hp,hj⟩,_⟩:=h;have IW:=hj.len;refine c70 _ w _ ?_;refine af.aw hp (x:=jl) rfl ?_;refine cp.of (λ q w'=>0<=q.2.1/\q.2.1<=jl.2.1/\Fr none1 w w'/\∃ S',kv w' S' q.1 (rs.take q.2.1.toNat)/\∀ k,S' k->w.heap.size<=k) (λ q _=>(jl.2.1 - q.2.1).toNat)
  ⟨by dsimp only;omega,by dsimp only;omega,Fr.refl _ _,λ _=>False,Fw _ _ (λ k t=>t.elim),λ k t=>t.elim⟩ ?_
 rintro _ ⟨v,i,_⟩ w1 ⟨i0,i1,f1,S',hv,hS⟩;dsimp only at i0 i1 hv ⊢;refine ae.dec (λ bI=>?_) (λ gk=>?_)
 ·obtain⟨⟨us,a1,a2,a3,a4⟩,o,l⟩:=hj.ag f1
  have hi:i.toNat<us.length:=ab;have adb:=a3 i.toNat hi;refine aV.ld a1 i0 bI (x:=us.getD i.toNat yC) (by rw[ig,dB,cV hi];rfl) ?_;have Fb:(rs.getD i.toNat []).length<=100000000:=by
   rw[dB,cV ab];exact hr _ (nQ _)
  refine an.of (CQ adb Fb) ?_;rintro _ w2 ⟨u,rfl,hu,f2,yE⟩;refine⟨u,rfl,?_⟩;have zr:=hv.ag f2;obtain⟨y,w3,z,w4,r1,f3,r2,f4,S2,vm,hz⟩:=zr.snoc hu.rd hu.cap (λ k hk=>⟨aV.lt hu hk,λ t=>by have:=hv.lt k t;have:=yE k hk;omega⟩) (by simp only[ga];omega);refine⟨y,w3,r1,z,w4,r2,?_⟩;rw[wI ab ab];refine⟨⟨by omega,by omega,(f1.trans f2).comp f4 (λ k hk t=>by have:=hS k (hv.own k t);omega),S2,?_,λ k hk=>?_⟩,by omega⟩
  ·rw[show(i+1).toNat=i.toNat+1 by omega,zG ab]
   rw[dB,cV ab] at hz;exact hz
  ·have:=f1.size
   have:=f2.size
   rcases vm k hk with t | t | t
   ·exact hS k t
   ·have:=yE k t;omega
   ·omega
 ·rw[gV ab] at hv
  exact⟨v,S',rfl,hv,f1,hS⟩
end Go.Proofs.YtfolkckcakndkaaGreatDoor
