/-
  Texts of this claim, put together: TakeSpec, VcCmd, DoSpec, RefEv2, TakeSpec2, TakeSpec3, CSipG, SipSpec, NilNe, CFrameG, FrameSpec, FrameF, CSameG, SameSpec, CEvSame, EvSame, AgreeF, CFile, FileSpec, CWindow, WinSpec, FQuota, FCuts, FFuse, FMem, CJournal, JSpec.
  Conditions: those of each theorem.
-/
import Derived.Test.YtmkehncgjnhhcaaGreatDoorQNF22x0
import Derived.Test.YtmkehncgjnhhcaaGreatDoorQNF22x1
import Derived.Test.YtmkehncgjnhhcaaGreatDoorQNF22x2
import Derived.KernelRfl
import Derived.Laws.BytesString
import Derived.Laws.IdiomStrings
import Derived.Laws.StructEq
import Derived.Lib.Bytes
import Derived.Test.YtmkehncgjnhhcaaGreatDoorProg
set_option linter.unusedVariables false
set_option maxRecDepth 100000
namespace Go.Proofs.YtmkehncgjnhhcaaGreatDoor
open Vc
def jw (T:TypeId)(w:World)(g n:Nat)(s:iE):Prop:=
 ∃ u:Sl,w.heap[g]? = some (.cells #[.slice u.1 u.2.1 u.2.2,.bool s.2] T (0,0))/\aZ w u s.1/\u.2.1<=u.2.2/\(s.1≠[]->∀ k,aw u k->k<n)
theorem jw.ag {T:TypeId}{w w':World}{g n:Nat}{s:iE}(h:jw T w g n s){S:Nat->Prop}(f:Fr S w w')(hg:¬ S g)(hS:∀ k,S k->n<=k):jw T w' g n s:=by
 obtain⟨u,a,b,c,d⟩:=h;exact⟨u,f.ag a hg,b.tG f fun hn k U t=>by have:=d hn k U;have:=hS k t;omega,c,d⟩
theorem jw.af {T:TypeId}{w w':World}{g n:Nat}{s:iE}(h:jw T w g n s)(f:Fr none1 w w'):jw T w' g n s:=h.ag f (fun t=>t) (fun _ t=>t.elim)
theorem Vd (w:World):aZ w (none,0,0) []:=(Ep w).rd
theorem Ve (m:Nat)(b:UInt8)(hm:m<65536):IntKind.i64.wrap ((BitVec.ofInt 64 (IntKind.i64.wrap ((m:Int) * 2 ^ (min (Int.toNat 8) 64))) ||| BitVec.ofInt 64 (IntKind.i64.wrap (b.toNat:Int))).toNat:Int)=((m * 256+b.toNat:Nat):Int):=by
 have hb:=b.toNat_lt;have e1:((m:Int) * 2 ^ (min (Int.toNat 8) 64))=((m * 256:Nat):Int):=by
  rw[show min (Int.toNat 8) 64=8 by decide];norm_cast
 rw[e1,wI (x:=((m * 256:Nat):Int)) (by omega) (by omega),wI (x:=(b.toNat:Int)) (by omega) (by omega),BitVec.toNat_or,yI,yI,Nat.mod_eq_of_lt (by omega),Nat.mod_eq_of_lt (by omega)];have e2:m * 256 ||| b.toNat=m * 256+b.toNat:=by
  rw[show m * 256=m <<< 8 by rw[Nat.shiftLeft_eq],<- Nat.shiftLeft_add_eq_or_of_lt (show b.toNat<2 ^ 8 from hb)]
 rw[e2,wI (by omega) (by omega)]
theorem Vf {z:Bool}{n:Nat}{s:iE}(h:s.2=true\/s.1.length<n):dL z n s=(if z=true then List.replicate n 0 else[],(s.1,true)):=by unfold dL;rw[if_pos h]
theorem Vg {z:Bool}{n:Nat}{s:iE}(h:s.2=false)(h':n<=s.1.length):dL z n s=(s.1.take n,(s.1.drop n,false)):=by
 unfold dL;rw[if_neg (by rw[h];simp;omega)]
theorem Co {w:World}{g n0:Nat}{s:iE}(h:jw 274 w g n0 s)(hg:n0<=g)(n:Nat):Ret Tryz.prog 150 #[.pointer (some ⟨g,0,none⟩),.int .i64 (n:Int)] w fun r w'=>
  ∃ v:Sl,r=.slice v.1 v.2.1 v.2.2/\aZ w' v (dL false n s).1/\((dL false n s).1≠[]->∀ k,aw v k->k<n0)/\jw 274 w' g n0 (dL false n s).2/\Fr (only g) w w':=by
 obtain⟨u,hb,hu,hc,aS⟩:=h;have dm:=hu.len;refine c150 _ _ w _ ?_;unfold C150;have bad:s.2=true\/s.1.length<n->∀ w1,w1.heap[g]? = some (.cells #[.slice u.1 u.2.1 u.2.2,.bool true] 274 (0,0))->Fr (only g) w w1 ->
   ∃ v:Sl,(Value.slice none 0 0)=.slice v.1 v.2.1 v.2.2/\aZ w1 v (dL false n s).1/\((dL false n s).1≠[]->∀ k,aw v k->k<n0)/\jw 274 w1 g n0 (dL false n s).2/\Fr (only g) w w1:=fun Vh w1 au f1=>by
  rw[Vf Vh];exact⟨(none,0,0),rfl,Vd w1,(fun h=>(h rfl).elim),⟨u,au,hu.tG f1 fun hn k U t=>by have:=aS hn k U;have:k=g:=t;omega,hc,aS⟩,f1⟩
 refine ae.ah hb (x:=s.2) rfl ?_;refine aa.by (fun e=>?_) (fun e=>?_)
 ·exact aA.ah hb (by show 0+1<2;omega) rfl fun w1 au f1 _=>bad (.inl e) w1 au f1
 refine ae.ah hb (x:=u) rfl ?_;refine aa.dec (fun oe=>?_) (fun hle=>?_)
 ·exact aA.ah hb (by show 0+1<2;omega) rfl fun w1 au f1 _=>bad (.inr (by omega)) w1 au f1
 refine ae.ah hb (x:=u) rfl ?_;refine aZ.sub hu (by omega) (by omega) hc fun ha=>?_;refine ae.ah hb (x:=u) rfl ?_;refine aZ.jM hu (by omega) (by omega) (Int.le_refl _) hc fun v hv Vi cM MK=>?_;refine aA.ah hb (by show 0+0<2;omega) rfl fun w1 au f1 _=>?_;rw[Int.toNat_natCast] at ha hv ⊢;have e2:(s.1.drop n).take ((u.2.1:Int) - (n:Int)).toNat=s.1.drop n:=List.take_of_length_le (by rw[List.length_drop];omega);rw[e2] at hv;rw[Vg e (by omega)];have ML:s.1.take n≠[]->s.1≠[]:=fun h t=>h (by rw[t];simp);have MM:s.1.drop n≠[]->s.1≠[]:=fun h t=>h (by rw[t];simp);refine⟨(u.1,n,u.2.2),rfl,ha.tG f1 fun hn k U t=>by have:=aS (ML hn) k U;have:k=g:=t;omega,(fun hn k U=>aS (ML hn) k U),⟨v,?_,hv.tG f1 fun hn k U t=>by have:=aS (MM hn) k (MK k U);have:k=g:=t;omega,Vi,fun hn k U=>aS (MM hn) k (MK k U)⟩,f1⟩;rw[au,<- e];rfl
theorem MN {w:World}{g n0:Nat}{s:iE}(h:jw 274 w g n0 s)(hg:n0<=g)(size:Nat)(hs:size<=2):Ret Tryz.prog 194 #[.pointer (some ⟨g,0,none⟩),.int .i64 (size:Int)] w fun r w'=>
  r=.string (str (fG false size s).1)/\jw 274 w' g n0 (fG false size s).2/\Fr (only g) w w':=by
 refine c194 _ _ w _ ?_;unfold C194;refine ab.of (Co h hg size) ?_;rintro _ w1 ⟨v,rfl,hv,_,h1,f1⟩;refine⟨v,rfl,?_⟩;have cM:=hv.len;have qK:(dL false size s).1.length<=2:=by
  unfold dL;split
  ·simp
  ·dsimp only;rw[List.length_take];omega
 unfold fG;generalize dL false size s=x at *;have Vj:∀ i,i<=2->fA (x.1.take i)<65536:=fun i hi=>by
  have h1:=Et (x.1.take i);have h2:256 ^ (x.1.take i).length<=256 ^ 2:=Nat.pow_le_pow_right (by decide) (by rw[List.length_take];omega);have:(256:Nat) ^ 2=65536:=by decide
  omega
 refine bw.of (fun st w'=>∃ i:Nat,st.2.1=i/\i<=x.1.length/\st.1=(fA (x.1.take i):Int)/\w1=w') (fun st _=>(2 - st.2.1).toNat) ⟨0,rfl,by omega,rfl,rfl⟩ ?_;rintro _ ⟨m,i',_⟩ _ ⟨i,hi,yM,hm,rfl⟩;dsimp only at hi hm ⊢;subst hi hm;refine aa.dec (fun aS=>?_) (fun dQ=>?_)
 ·refine aZ.at hv (by omega) aS ?_
  refine⟨by omega,?_⟩;rw[Int.toNat_natCast,Ve _ _ (Vj i (by omega)),wI (by omega) (by omega)];refine⟨⟨i+1,by omega,by omega,?_,rfl⟩,by omega⟩;rw[Ev x.1 i (by omega)]
 ·rw[List.take_of_length_le (by omega)]
  refine ab.of (Co h1 hg (fA x.1)) ?_;rintro _ w2 ⟨u,rfl,hu,_,h2,f2⟩;refine⟨u,rfl,?_⟩;exact⟨_,w2,Ga hu,rfl,h2,f1.trans f2⟩
theorem Vk {w:World}{g n0:Nat}{s:iE}(h:jw 274 w g n0 s)(hg:n0<=g):Ret Tryz.prog 192 #[.pointer (some ⟨g,0,none⟩)] w fun r w'=>
  r=.int .i64 (je false s).1/\jw 274 w' g n0 (je false s).2/\Fr (only g) w w':=by
 refine c192 _ w _ ?_;unfold C192;refine ab.of (Co h hg 8) ?_;rintro _ w1 ⟨v,rfl,hv,_,h1,f1⟩;refine⟨v,rfl,?_⟩;unfold je;generalize dL false 8 s=x at *;refine ab.of (Bs hv) ?_;rintro _ _ ⟨rfl,rfl⟩;refine⟨((gU x.1).1,(gU x.1).2,()),rfl,?_⟩;obtain⟨u,hb,hu,hc,aS⟩:=h1;have kp:∀ w2,Fr (only g) w1 w2->aZ w2 u x.2.1:=fun w2 f2=>hu.tG f2 fun hn k U t=>by have:=aS hn k U;have:k=g:=t;omega
 refine ae.ah hb (x:=x.2.2) rfl ?_;refine aa.by (fun e=>?_) (fun e=>?_)
 ·refine aA.ah hb (by show 0+1<2;omega) rfl fun w2 aK f2 _=>?_
  exact⟨rfl,⟨u,by rw[aK,e];rfl,kp w2 f2,hc,aS⟩,f1.trans f2⟩
 ·refine aA.ah hb (by show 0+1<2;omega) rfl fun w2 aK f2 _=>?_
  exact⟨rfl,⟨u,by rw[aK,e];simp,kp w2 f2,hc,aS⟩,f1.trans f2⟩
theorem MO (z:Bool)(size:Nat)(hs:size<=2)(s:iE):(fG z size s).1.length<=65535:=by
 have hb:fA (dL z size s).1<=65535:=by
  have qK:(dL z size s).1.length<=2:=by
   unfold dL;split
   ·dsimp only;split<;>simp<;>omega
   ·dsimp only;rw[List.length_take];omega
  have h1:=Et (dL z size s).1;have h2:256 ^ (dL z size s).1.length<=256 ^ 2:=Nat.pow_le_pow_right (by decide) qK;have:(256:Nat) ^ 2=65536:=by decide
  omega
 unfold fG;generalize(dL z size s).2=t;generalize fA (dL z size s).1=n at *;unfold dL;split
 ·dsimp only;split<;>simp;omega
 ·dsimp only;rw[List.length_take];omega
theorem Vl {w:World}{g n0:Nat}{s:iE}(h:jw 274 w g n0 s)(hg:n0<=g):Ret Tryz.prog 193 #[.pointer (some ⟨g,0,none⟩)] w fun r w'=>
  r=(sh false s).1.v/\jw 274 w' g n0 (sh false s).2/\Fr (only g) w w':=by
 refine c193 _ w _ ?_;unfold C193;refine ab.of (MN h hg 2 (by decide)) ?_;rintro _ w1 ⟨rfl,h1,f1⟩;have hl:=MO false 2 (by decide) s;unfold sh;generalize fG false 2 s=x at *;refine⟨_,rfl,?_⟩;refine ab.of (U7 x.1 (by omega) w1) ?_;rintro _ w2 ⟨rfl,f2⟩;refine⟨((nk x.1).1.v,(nk x.1).2.1,(nk x.1).2.2,()),rfl,?_⟩;obtain⟨u,hb,hu,hc,aS⟩:=h1.af f2;have kp:∀ w3,Fr (only g) w2 w3->aZ w3 u x.2.1:=fun w3 f3=>hu.tG f3 fun hn k U t=>by have:=aS hn k U;have:k=g:=t;omega
 refine ae.ah hb (x:=x.2.2) rfl ?_;have f12:Fr (only g) w w2:=f1.dh f2;refine aa.by (fun e=>?_) (fun e=>?_)
 ·refine aA.ah hb (by show 0+1<2;omega) rfl fun w3 aU f3 _=>?_
  exact⟨rfl,⟨u,by rw[aU,e];rfl,kp w3 f3,hc,aS⟩,f12.trans f3⟩
 ·refine aA.ah hb (by show 0+1<2;omega) rfl fun w3 aU f3 _=>?_
  exact⟨rfl,⟨u,by rw[aU,e];simp,kp w3 f3,hc,aS⟩,f12.trans f3⟩
def og (m:aT):Obj:=.cells (xx m) 36 (0,0)
 where xx (m:aT):Array Value:=#[.int .i64 m.1,.string (str m.2.1),.string (str m.2.2.1),.string (str m.2.2.2.1),.string (str m.2.2.2.2.1),.int .i64 m.2.2.2.2.2.1,.int .i64 m.2.2.2.2.2.2.1,m.2.2.2.2.2.2.2.v]
theorem GA {g b:Nat}{w w1 w2:World}(f1:Fr (only g) w w1)(f2:Fr (only b) w1 w2):Fr (fun k=>k=g\/k=b) w w2:=(f1.mono fun k _ t=>.inl t).trans (f2.mono fun k _ t=>.inr t)
theorem Vm {w:World}{g b n0:Nat}{x:iE×aT}(h:jw 274 w g n0 x.1)(hg:n0<=g)(hb:w.heap[b]? = some (og x.2))(hn:n0<=b)(jX:b≠g)(c:UInt8)(hc:c=73\/c=78\/c=76\/c=67\/c=68\/c=86\/c=84):
  Ret Tryz.prog 151 #[.pointer (some ⟨g,0,none⟩),.pointer (some ⟨b,0,none⟩),.int .i32 (dU c)] w fun r w'=>
   r=.tuple #[]/\jw 274 w' g n0 (gO false x c).1/\w'.heap[b]? = some (og (gO false x c).2)/\Fr (fun k=>k=g\/k=b) w w':=by
 refine c151 _ _ _ w _ ?_;unfold C151;have hd:∀ (a:UInt8) (n:Int),dU a=n->c≠a->(dU c==n)=false:=fun a n ha ay=>by
  subst ha;unfold dU;have:c.toNat≠a.toNat:=fun t=>ay (UInt8.toNat_inj.1 t);simp;omega
 have num:∀ (o:Nat) (ho:o<8) (m':aT) (hm:((og.xx x.2).setIfInBounds o (.int .i64 (je false x.1).1))=og.xx m') (hs:gO false x c=((je false x.1).2,m')),
   ab Tryz.prog 192 #[.pointer (some ⟨g,0,none⟩)] w (.v (.one (.int .i64))) (fun(x1:Int) w2=>aA ((⟨b,0,none⟩:Addr).add o) (.int .i64 x1) w2 (fun w3=>(Value.tuple #[])=.tuple #[]/\jw 274 w3 g n0 (gO false x c).1/\w3.heap[b]? = some (og (gO false x c).2)/\Fr (fun k=>k=g\/k=b) w w3)):=fun o ho m' hm hs=>by
  refine ab.of (Vk h hg) ?_;rintro _ w1 ⟨rfl,h1,f1⟩;refine⟨_,rfl,?_⟩;have au:=f1.jD hb jX;refine aA.ah au (by show 0+o<8;omega) rfl fun w2 aK f2 _=>?_;rw[hs];refine⟨rfl,h1.ag f2 (fun t=>by have:g=b:=t;omega) (fun k t=>by have:k=b:=t;omega),?_,GA f1 f2⟩;rw[aK,Nat.zero_add,hm];rfl
 have ef:∀ (o:Nat) (ho:o<8) (m':aT) (hm:((og.xx x.2).setIfInBounds o (.string (str (fG false 1 x.1).1)))=og.xx m') (hs:gO false x c=((fG false 1 x.1).2,m')),
   ab Tryz.prog 194 #[.pointer (some ⟨g,0,none⟩),.int .i64 1] w (.v (.one .str)) (fun(x1:ByteArray) w2=>aA ((⟨b,0,none⟩:Addr).add o) (.string x1) w2 (fun w3=>(Value.tuple #[])=.tuple #[]/\jw 274 w3 g n0 (gO false x c).1/\w3.heap[b]? = some (og (gO false x c).2)/\Fr (fun k=>k=g\/k=b) w w3)):=fun o ho m' hm hs=>by
  refine ab.of (MN h hg 1 (by decide)) ?_;rintro _ w1 ⟨rfl,h1,f1⟩;refine⟨_,rfl,?_⟩;have au:=f1.jD hb jX;refine aA.ah au (by show 0+o<8;omega) rfl fun w2 aK f2 _=>?_;rw[hs];refine⟨rfl,h1.ag f2 (fun t=>by have:g=b:=t;omega) (fun k t=>by have:k=b:=t;omega),?_,GA f1 f2⟩;rw[aK,Nat.zero_add,hm];rfl
 rcases hc with rfl | rfl | rfl | rfl | rfl | rfl | rfl
 ·exact aa.f (by decide) (aa.f (by decide) (aa.f (by decide) (aa.t (by decide) (ef 1 (by decide) _ rfl rfl))))
 ·exact aa.f (by decide) (aa.f (by decide) (aa.f (by decide) (aa.f (by decide) (aa.t (by decide) (ef 2 (by decide) _ rfl rfl)))))
 ·exact aa.f (by decide) (aa.f (by decide) (aa.f (by decide) (aa.f (by decide) (aa.f (by decide) (aa.t (by decide) (ef 3 (by decide) _ rfl rfl))))))
 ·exact aa.f (by decide) (aa.f (by decide) (aa.f (by decide) (aa.f (by decide) (aa.f (by decide) (aa.f (by decide) (aa.t (by decide) (ef 4 (by decide) _ rfl rfl)))))))
 ·exact aa.t (by decide) (num 5 (by decide) _ rfl rfl)
 ·exact aa.f (by decide) (aa.t (by decide) (num 6 (by decide) _ rfl rfl))
 ·refine aa.f (by decide) (aa.f (by decide) (aa.t (by decide) ?_))
  refine ab.of (Vl h hg) ?_;rintro _ w1 ⟨rfl,h1,f1⟩;refine⟨_,rfl,?_⟩;have au:=f1.jD hb jX;refine⟨Tm.fN _,ar.one au (by show 7<8;omega) (Tm.bU _) fun w2 aK f2 _=>?_⟩;refine⟨rfl,h1.ag f2 (fun t=>by have:g=b:=t;omega) (fun k t=>by have:k=b:=t;omega),?_,GA f1 f2⟩;rw[aK];rfl
def dB (m:aT):Prop:=m.2.1.length<=65535/\m.2.2.1.length<=65535/\m.2.2.2.1.length<=65535/\m.2.2.2.2.1.length<=65535/\aJ m.2.2.2.2.2.2.2<=1000000
theorem Vn (bs:List UInt8):aJ (nk bs).1<=1000000:=by
 unfold nk;split
 ·show aJ .none<=_;decide
 split
 ·show aJ .none<=_;decide
 ·rename_i h _
  exact MG (Classical.not_not.1 h)
theorem Vo (z:Bool)(x:iE×aT)(c:UInt8)(h:dB x.2):dB (gO z x c).2:=by
 obtain⟨h1,h2,h3,h4,h5⟩:=h;have ht:=MO z 1 (by decide) x.1;unfold gO
 repeat' split
 ·exact⟨h1,h2,h3,h4,h5⟩
 ·exact⟨h1,h2,h3,h4,h5⟩
 ·exact⟨h1,h2,h3,h4,Vn _⟩
 ·exact⟨ht,h2,h3,h4,h5⟩
 ·exact⟨h1,ht,h3,h4,h5⟩
 ·exact⟨h1,h2,ht,h4,h5⟩
 ·exact⟨h1,h2,h3,ht,h5⟩
theorem MP (z:Bool):∀ (l:List UInt8) (x:iE×aT),dB x.2->dB (l.foldl (gO z) x).2
 | [],x,h=>h
 | c::l,x,h=>MP z l _ (Vo z x c h)
theorem GB (z:Bool)(bs:List UInt8):dB (lp z bs).2:=MP z _ _ ⟨by simp,by simp,by simp,by simp,by show aJ .none<=_;decide⟩
theorem dB.e {m:aT}(h:dB m):pM m.e:=by
 obtain⟨h1,h2,h3,h4,h5⟩:=h;exact⟨by show(str _).size<=_;rw[dR];omega,by show(str _).size<=_;rw[dR];omega,by show(str _).size<=_;rw[dR];omega,by show(str _).size<=_;rw[dR];omega⟩
theorem vm (t:Tm):pK t.v:=by cases t<;>first | (exact .inl rfl) | (exact .inr ⟨_,_,rfl⟩)
theorem MQ (m:aT)(h:dB m)(w:World)(ht:TabW w):Ret Tryz.prog 33 #[gX m.e] w fun r w'=>∃ v:Sl,r=.tuple #[.slice v.1 v.2.1 v.2.2,.int .i64 (du m).2]/\cg w' v (du m).1/\Fr none1 w w'/\∀ k,aw v k->w.heap.size<=k:=by
 have hl:=tz m.t;exact ET m.e (vm m.t) h.e (bp m.t).1 (by omega) (bp m.t).2 w fun _ w1 f=>BT m.t h.2.2.2.2 w1 (ht.af f)
theorem MR (m:aT)(h:dB m):(du m).1.length<=10000000:=by
 have hl:=tz m.t;exact zL m.e h.e _ (by omega) _
theorem MS (bs:List UInt8):Go.strOfNums (bs.map fun b=>(b.toNat:Int))=str bs:=by
 unfold Go.strOfNums str
 congr 1
 rw[List.map_map]
 congr 1
 conv=>rhs;rw[<- List.map_id bs]
 refine List.map_congr_left fun b _=>?_;simp
theorem MT (bs:List UInt8):Lib.bytesOf (bs.map fun b=>(b.toNat:Int))=bs:=by
 unfold Lib.bytesOf;rw[List.map_map]
 conv=>rhs;rw[<- List.map_id bs]
 refine List.map_congr_left fun b _=>?_;simp
theorem GC {w:World}{v u:Sl}{bs cs:List UInt8}(h:aZ w v bs)(h':aZ w u cs):Ret Tryz.prog 53 #[.slice v.1 v.2.1 v.2.2,.slice u.1 u.2.1 u.2.2] w fun r w'=>r=.bool (bs==cs)/\w=w':=by
 refine(Tryz.bytes_Equal _ _ (bs.map fun b=>(b.toNat:Int)) (cs.map fun b=>(b.toNat:Int)) w (by rw[MS];exact Ga h) (by rw[MS];exact Ga h')).mono ?_;rintro e w' ⟨rfl,rfl⟩;exact⟨_,rfl,by rw[MT,MT],rfl⟩
theorem Vp {c:UInt8}{k:Int}(h:c∈eM k):c=73\/c=78\/c=76\/c=67\/c=68\/c=86\/c=84:=by
 have:=(List.mem_filter.1 h).1;simpa[pL] using this
theorem GD {w:World}{v:Sl}{bs:List UInt8}(h:aZ w v bs)(hc:v.2.1<=v.2.2)(ht:TabW w):Ret Tryz.prog 93 #[.slice v.1 v.2.1 v.2.2] w fun r w'=>
  r=.tuple #[gX (fQ false bs).1.e,.int .i64 (fQ false bs).2]/\Fr none1 w w':=by
 refine c93 v.1 v.2.1 v.2.2 w _ ?_;unfold C93;refine ak.of fun g1 w1 df au f1 ka=>ak.of fun g3 w2 qe aU f2 gk=>ak.of fun g5 w3 xy cW f3 o6=>?_;have xz:w3.heap[g5]? = some (.cells (gz bb.e).toArray 36 (0,0)):=cW;refine ar.aE (cs:=gz bb.e) (vs:=gz bb.e) xz rfl rfl fun w4 Vq f4 sq=>?_;have f13:=(f1.trans f2).trans f3;have f14:Fr none1 w w4:=f13.fresh f4 (by have:=f13.size;omega);have Vr:w4.heap[g3]? = _:=f4.ag (f3.af aU) (fun t=>by have:g3=g5:=t;omega);have zV:w4.heap[g1]? = some (.cells (gz bb.e).toArray 36 (0,0)):=f4.ag (f3.af (f2.af au)) (fun t=>by have:g1=g5:=t;omega);have Vs:jw 274 w4 g3 w.heap.size (bs,false):=⟨v,Vr,h.af f14,hc,fun hn k U=>h.Gw hn U⟩;refine ab.of (Co Vs (by omega) 1) ?_;rintro _ w5 ⟨x8,rfl,hx,MU,Vt,f5⟩;refine⟨x8,rfl,?_⟩;have Vu:w5.heap[g5]? = some (og bb):=f5.jD Vq (by omega);have Vv:=f5.jD zV (by omega);have f15:Fr none1 w w5:=f14.fresh f5 (by omega);have kN:(dL false 1 (bs,false)).1.length<=1:=by
  unfold dL;split
  ·simp
  ·dsimp only;rw[List.length_take];omega
 have hM:lp false bs=(eM (fA (dL false 1 (bs,false)).1:Int)).foldl (gO false) ((dL false 1 (bs,false)).2,((fA (dL false 1 (bs,false)).1:Int),[],[],[],[],0,0,.none)):=rfl;have qg:=GB false bs;have hP:fQ false bs=if zG false bs=true then((lp false bs).2,0) else(bb,2):=rfl;have hO:zG false bs=(!(lp false bs).1.2&&((du (lp false bs).2).2==0&&((du (lp false bs).2).1==bs&&(!false||(lp false bs).1.1==[])))):=rfl;generalize fQ false bs=P at *;generalize zG false bs=O at *;generalize lp false bs=M at *;generalize dL false 1 (bs,false)=x at *;have ab7:=hx.len;refine bw.of (fun st w'=>∃ i:Nat,st.1=i/\i<=x.1.length/\w'.heap[g5]? = some (og ((fA (x.1.take i):Int),[],[],[],[],0,0,.none))/\Fr (only g5) w5 w') (fun st _=>(1 - st.1).toNat) ⟨0,rfl,by omega,Vu,Fr.refl _ _⟩ ?_;rintro _ ⟨i',_⟩ w6 ⟨i,hi,ja,zW,f6⟩;dsimp only at hi ⊢;subst hi;have MV:aZ w6 x8 x.1:=hx.tG f6 fun hn k U t=>by have:=MU hn k U;have:k=g5:=t;omega
 have Vw:=Vt.ag f6 (fun t=>by have:g3=g5:=t;omega) (fun k t=>by have:k=g5:=t;omega);have Cp:=f6.jD Vv (by omega);refine aa.dec (fun aS=>?_) (fun dQ=>?_)
 ·refine aZ.at MV (by omega) aS ?_
  have hb:=(x.1.getD (Int.toNat (i:Int)) 0).toNat_lt;refine aA.ah zW (by show 0+0<8;omega) rfl fun w7 xA f7 _=>?_;rw[wI (by omega) (by omega)] at xA;refine⟨⟨i+1,by rw[wI (by omega) (by omega)];omega,by omega,?_,f6.trans f7⟩,by rw[wI (by omega) (by omega)];omega⟩;have xB:i=0:=by omega
  subst xB;rw[xA,Ev x.1 0 (by omega)];show some (Obj.cells _ _ _)=some (Obj.cells _ _ _);simp[og.xx,fA]
 rw[List.take_of_length_le (by omega)] at zW;clear hx MV MU;refine ae.ah zW (x:=(fA x.1:Int)) rfl ?_;refine ab.of (KR (fA x.1:Int) w6) ?_;rintro _ w7 ⟨fv,rfl,yZ,f7,ff⟩;refine⟨fv,rfl,?_⟩;have s5:=f15.size;have s6:=f6.size;have s7:=f7.size;have xA:=f7.af zW;have Vx:=f7.af Cp;have GF:=Vw.af f7;have f17:Fr none1 w w7:=(f15.fresh f6 (by omega)).trans f7;have jI:=yZ.len;rw[List.length_map] at jI;have BE:(eM (fA x.1:Int)).length<=7:=by unfold eM;exact Nat.le_trans (List.length_filter_le _ _) (by decide)
 have tc:∀ c∈eM (fA x.1:Int),c=73\/c=78\/c=76\/c=67\/c=68\/c=86\/c=84:=fun c h=>Vp h;generalize eM (fA x.1:Int)=L at *;obtain⟨X,hX⟩:∃ X:iE×aT,X=(x.2,((fA x.1:Int),[],[],[],[],0,0,.none)):=⟨_,rfl⟩;rw[<- hX] at hM;have GF:jw 274 w7 g3 w.heap.size X.1:=by rw[hX];exact GF
 have xA:w7.heap[g5]? = some (og X.2):=by rw[hX];exact xA
 refine bw.of (fun st w'=>∃ i:Nat,st.1=i/\i<=L.length/\jw 274 w' g3 w.heap.size ((L.take i).foldl (gO false) X).1/\w'.heap[g5]? = some (og ((L.take i).foldl (gO false) X).2)/\Fr (fun k=>k=g3\/k=g5) w7 w') (fun st _=>(L.length - st.1).toNat) ⟨0,rfl,by omega,GF,xA,Fr.refl _ _⟩ ?_;rintro _ ⟨i',_⟩ w8 ⟨i,hi,ja,GG,Cq,f8⟩;dsimp only at hi ⊢;subst hi;have Vy:kP w8 fv (L.map dU):=aF.ag yZ f8 fun k U t=>by have:=ff k U;have h5:=bQ zW;rcases t with t | t<;>omega
 refine aa.dec (fun aS=>?_) (fun dQ=>?_)
 ·have EW:i<L.length:=by omega
  refine kP.ld Vy (by omega) aS ?_;obtain⟨c,hc⟩:∃ c,L[i]? = some c:=⟨_,List.getElem?_eq_getElem EW⟩;have EX:(L.map dU).getD (Int.toNat (i:Int)) 0=dU c:=by
   rw[Int.toNat_natCast,List.getD_eq_getElem?_getD,List.getElem?_map,hc];rfl
  rw[EX];refine ab.of (Vm GG (by omega) Cq (by omega) (by omega) c (tc c (List.mem_of_getElem? hc))) ?_;rintro _ w9 ⟨rfl,Vz,GH,f9⟩;refine⟨(),rfl,⟨i+1,by rw[wI (by omega) (by omega)];omega,by omega,?_,?_,f8.trans f9⟩,by rw[wI (by omega) (by omega)];omega⟩
  ·rw[List.take_add_one,hc,List.foldl_append];exact Vz
  ·rw[List.take_add_one,hc,List.foldl_append];exact GH
 rw[List.take_of_length_le (by omega),<- hM] at GG Cq;have f18:Fr none1 w w8:=f17.comp f8 fun k U t=>by rcases t with t | t<;>omega
 have VA:w8.heap[g1]? = _:=f8.ag Vx (fun t=>by rcases t with t | t<;>omega)
 refine aq.aE (cks:=EK) (x:=M.2.e) Cq ?_;refine ab.of (MQ M.2 qg w8 (ht.af f18)) ?_;rintro _ w9 ⟨u,rfl,hu,f9,uf⟩;refine⟨(u,(du M.2).2,()),rfl,?_⟩;have Cr:=f9.af VA;have GH:=f9.af Cq;have f19:=f18.trans f9;have fail:O=false->∀ aG,aG.heap[g1]? = some (.cells (gz bb.e).toArray 36 (0,0))->Fr none1 w aG->ar ⟨g1,0,none⟩ (gz bb.e) aG (fun bO=>aq EK ⟨g1,0,none⟩ bO (fun(y:dT)=>(Value.tuple #[gX y,.int .i64 2])=.tuple #[gX P.1.e,.int .i64 P.2]/\Fr none1 w bO)):=fun ho aG hb f10=>by
  rw[hP,ho];refine ar.aE (cs:=gz bb.e) (vs:=gz bb.e) hb rfl rfl fun aO o7 f11 _=>aq.aE (cks:=EK) (x:=bb.e) o7 ?_;exact⟨rfl,f10.fresh f11 (by omega)⟩
 obtain⟨ru,VB,hru,hrc,zT⟩:=GG.af f9;refine ae.ah VB (x:=M.1.2) rfl ?_;refine aa.by (fun e=>fail (by rw[hO,e];rfl) w9 Cr f19) (fun e=>?_);dsimp only;refine aa.ne (fun ay=>fail (by rw[hO,e];simp[ay]) w9 Cr f19) (fun he=>?_);refine ab.of (GC hu.rd (h.af f19)) ?_;rintro _ _ ⟨rfl,rfl⟩;refine⟨_,rfl,aa.not (aa.by (fun eq=>?_) (fun ne=>fail (by rw[hO,ne];simp) w9 Cr f19))⟩;have ho:O=true:=by rw[hO,e,he,eq];rfl
 rw[hP,ho];refine aq.aE (cks:=EK) (x:=M.2.e) GH ?_;refine ar.aE (cs:=gz bb.e) (vs:=gz M.2.e) Cr rfl (Gi (Tm.bU _)) fun aG VC f10 _=>aq.aE (cks:=EK) (x:=M.2.e) VC ?_;exact⟨rfl,f19.fresh f10 (by omega)⟩
namespace Vc
variable {P:Program}
abbrev CmV:=Int×Int×Int×Int×Int×ByteArray×(Option Addr×Nat×Nat)×(Option Addr×Nat×Nat)×Unit
def cmL (c:CmV):List Value:=[.int .i64 c.1,.int .i64 c.2.1,.int .i64 c.2.2.1,.int .i64 c.2.2.2.1,.int .i64 c.2.2.2.2.1,.string c.2.2.2.2.2.1,.slice c.2.2.2.2.2.2.1.1 c.2.2.2.2.2.2.1.2.1 c.2.2.2.2.2.2.1.2.2,.slice c.2.2.2.2.2.2.2.1.1 c.2.2.2.2.2.2.2.1.2.1 c.2.2.2.2.2.2.2.1.2.2]
def MW (c:CmV):PlV:=(c.2.2.2.2.2.2.1,c.2.2.2.2.2.2.2.1,())
def IsCm (w:World)(c:CmV):Prop:=IsPl w (MW c)/\(Lit.int .i64 c.1).wf=true/\(Lit.int .i64 c.2.1).wf=true/\(Lit.int .i64 c.2.2.1).wf=true/\(Lit.int .i64 c.2.2.2.1).wf=true/\(Lit.int .i64 c.2.2.2.2.1).wf=true/\c.2.2.2.2.2.1.size<=maxLen
theorem open_cmd {H:Type}{enc:TypeId×Value->H}{w:World}{base:Nat}{held:Bool}{t ti ts tp t0 t1 e0 e1:TypeId}{f0 f1 f2 f3 f4 f5 f6 g0 g1:Field}{fuel:Nat}{cs:List Value}{x:DataW H×List MemPlace}
  (ht:P.underlying t=some (.struct #[f0,f1,f2,f3,f4,f5,f6]))
  (q0:f0.type=ti/\f0.offset=0) (q1:f1.type=ti/\f1.offset=1) (q2:f2.type=ti/\f2.offset=2) (q3:f3.type=ti/\f3.offset=3) (q4:f4.type=ti/\f4.offset=4) (q5:f5.type=ts/\f5.offset=5) (q6:f6.type=tp/\f6.offset=6)
  (nQ:P.underlying ti=some (.int .i64)) (jY:P.underlying ts=some .string) (VD:P.underlying tp=some (.struct #[g0,g1])) (GI:g0.type=t0) (df:g1.type=t1) (Gf:g0.offset=0) (Gg:g1.offset=1)
  (hc:P.cellsOf t=8) (vn:P.cellsOf ti=1) (hcs:P.cellsOf ts=1) (wA:P.cellsOf tp=2) (Gh:P.cellsOf t0=1) (oa:P.cellsOf t1=1)
  (h0:P.underlying t0=some (.slice e0)) (h1:P.underlying t1=some (.slice e1)) (k0:P.underlying e0=some (.int .i64)) (k1:P.underlying e1=some .string) (d0:P.cellsOf e0=1) (d1:P.cellsOf e1=1)
  (h:DataW.trod enc P w base (fun _=>true) held fuel t cs=some x):∃ c:CmV,cs=cmL c/\IsCm w c:=by
 obtain⟨xs,n,_,_,hl,hlen,hf⟩:=DataW.trod_struct ht h;rw[hc] at hl
 match xs,hlen with
 | [y0,y1,y2,y3,y4,y5,y6],_=>
  match cs,hl with
  | [c0,c1,c2,c3,c4,c5,c6,c7],_=>
   have a0:=hf 0 f0 rfl;have a1:=hf 1 f1 rfl;have a2:=hf 2 f2 rfl;have a3:=hf 3 f3 rfl;have a4:=hf 4 f4 rfl;have a5:=hf 5 f5 rfl;have a6:=hf 6 f6 rfl;rw[q0.1,q0.2,vn] at a0;rw[q1.1,q1.2,vn] at a1;rw[q2.1,q2.2,vn] at a2;rw[q3.1,q3.2,vn] at a3;rw[q4.1,q4.2,vn] at a4;rw[q5.1,q5.2,hcs] at a5;rw[q6.1,q6.2,wA] at a6;simp only[List.drop_zero,List.drop_succ_cons,List.take_succ_cons,List.take_zero,List.getElem?_cons_zero,List.getElem?_cons_succ] at a0 a1 a2 a3 a4 a5 a6;obtain⟨z0,e0,_,w0⟩:=DataW.trod_int nQ a0;obtain⟨z1,e1,_,w1⟩:=DataW.trod_int nQ a1;obtain⟨z2,e2,_,w2⟩:=DataW.trod_int nQ a2;obtain⟨z3,e3,_,w3⟩:=DataW.trod_int nQ a3;obtain⟨z4,e4,_,w4⟩:=DataW.trod_int nQ a4;obtain⟨s5,e5,_,w5⟩:=DataW.trod_string jY a5;obtain⟨p,ep,hp⟩:=open_plan VD GI df Gf Gg wA Gh oa h0 h1 k0 k1 d0 d1 a6;simp only[List.cons.injEq,and_true] at e0 e1 e2 e3 e4 e5 ep;obtain⟨p1,p2⟩:=ep;subst e0;subst e1;subst e2;subst e3;subst e4;subst e5;subst p1;subst p2;exact⟨(z0,z1,z2,z3,z4,s5,p.1,p.2.1,()),rfl,hp,w0,w1,w2,w3,w4,w5⟩
end Vc
def xC (w:World)(S:Nat->Prop)(x:qc):Prop:=∃ (e:dT) (t:Tm) (v:TV),x=Ch e v/\e.2.2.2.2.2.2.2.1=t.v/\pM e/\aJ t<=2000/\ra t/\lv w S (q9 t) v
structure lQ (w wc:World)(g1 g3 g5:Nat)(c:CmV):Prop where
 b1:wc.heap[g1]? = some (.cells (cmL c).toArray 55 (0,0))
 pl:IsPl w (MW c)
 b3:∃ x:qc,wc.heap[g3]? = some (.cells (vi x).toArray 62 (0,0))
 b5:∃ x:qc,wc.heap[g5]? = some (.cells (vi x).toArray 62 (0,0))/\xC wc (fun k=>w.heap.size<=k/\k<wc.heap.size/\k≠g3/\k≠g5) x
 fr:Fr none1 w wc
 lo:w.heap.size<=g1/\w.heap.size<=g3/\w.heap.size<=g5/\g1≠g3/\g1≠g5/\g3≠g5
theorem xC.ag {w w':World}{S S' T:Nat->Prop}{x:qc}(h:xC w S x)(f:Fr T w w')(hn:∀ k,S k->¬ T k)(hs:∀ k,S k->S' k):xC w' S' x:=by
 obtain⟨e,t,v,h1,h2,h3,h4,h5,h6⟩:=h;exact⟨e,t,v,h1,h2,h3,h4,h5,lv.mono hs _ _ (lv.ag f hn _ _ h6)⟩
def Told (w:World)(r:Value)(w':World):Prop:=∃ x:qc,r=Mv x/\xC w' (fun k=>w.heap.size<=k/\k<w'.heap.size) x/\Fr none1 w w'
theorem lQ.fin {w wc:World}{g1 g3 g5:Nat}{c:CmV}(h:lQ w wc g1 g3 g5 c):
  aq Ci ⟨g5,0,none⟩ wc (fun(x:qc)=>ar ⟨g3,0,none⟩ (vi x) wc (fun w2=>aq Ci ⟨g3,0,none⟩ w2 (fun(y:qc)=>Told w (Mv y) w2))):=by
 obtain⟨x3,h3⟩:=h.b3;obtain⟨x5,h5,hf⟩:=h.b5;refine aq.aE (cks:=Ci) (x:=x5) h5 ?_;refine ar.aE (cs:=vi x3) (vs:=vi x5) h3 rfl rfl fun w2 aK f2 _=>aq.aE (cks:=Ci) (x:=x5) aK ?_;exact⟨x5,rfl,hf.ag f2 (fun k U t=>U.2.2.1 t) (fun k U=>⟨U.1,Nat.lt_of_lt_of_le U.2.1 f2.size⟩),h.fr.fresh f2 h.lo.2.1⟩
theorem lQ.put {w wc wd:World}{g1 g3 g5:Nat}{c:CmV}(h:lQ w wc g1 g3 g5 c){x x':qc}(hx:wc.heap[g5]? = some (.cells (vi x).toArray 62 (0,0)))(f:Fr (only g5) wc wd)(hb:wd.heap[g5]? = some (.cells (vi x').toArray 62 (0,0)))
  (hf:xC wc (fun k=>w.heap.size<=k/\k<wc.heap.size/\k≠g3/\k≠g5) x'):lQ w wd g1 g3 g5 c:=by
 obtain⟨x3,h3⟩:=h.b3;obtain⟨l1,l2,l3,l4,l5,l6⟩:=h.lo;exact⟨f.ag h.b1 (fun t=>l5 t),h.pl,⟨x3,f.ag h3 (fun t=>l6 t)⟩,⟨x',hb,hf.ag f (fun k U t=>U.2.2.2 t) fun k U=>⟨U.1,Nat.lt_of_lt_of_le U.2.1 f.size,U.2.2⟩⟩,h.fr.fresh f l3,h.lo⟩
theorem lQ.s1 {w wc:World}{g1 g3 g5:Nat}{c:CmV}(h:lQ w wc g1 g3 g5 c)(s:ByteArray)(hs:s.size<=1000000){K:World->Prop}(k:∀ wd,lQ w wd g1 g3 g5 c->Fr (only g5) wc wd->K wd):aA ((⟨g5,0,none⟩:Addr).add 1) (.string s) wc K:=by
 obtain⟨x5,h5,e,t,v,rfl,he,hz,hn,vj,hT⟩:=h.b5;exact aA.ah h5 (by show 0+1<11;omega) rfl fun wd hb f _=>k wd (h.put h5 (x':=Ch (e.1,s,e.2.2) v) f hb ⟨(e.1,s,e.2.2),t,v,rfl,he,⟨hs,hz.2⟩,hn,vj,hT⟩) f
theorem lQ.s2 {w wc:World}{g1 g3 g5:Nat}{c:CmV}(h:lQ w wc g1 g3 g5 c)(s:ByteArray)(hs:s.size<=1000000){K:World->Prop}(k:∀ wd,lQ w wd g1 g3 g5 c->Fr (only g5) wc wd->K wd):aA ((⟨g5,0,none⟩:Addr).add 2) (.string s) wc K:=by
 obtain⟨x5,h5,e,t,v,rfl,he,hz,hn,vj,hT⟩:=h.b5;exact aA.ah h5 (by show 0+2<11;omega) rfl fun wd hb f _=>k wd (h.put h5 (x':=Ch (e.1,e.2.1,s,e.2.2.2) v) f hb ⟨(e.1,e.2.1,s,e.2.2.2),t,v,rfl,he,⟨hz.1,hs,hz.2.2⟩,hn,vj,hT⟩) f
theorem lQ.s3 {w wc:World}{g1 g3 g5:Nat}{c:CmV}(h:lQ w wc g1 g3 g5 c)(s:ByteArray)(hs:s.size<=1000000){K:World->Prop}(k:∀ wd,lQ w wd g1 g3 g5 c->Fr (only g5) wc wd->K wd):aA ((⟨g5,0,none⟩:Addr).add 3) (.string s) wc K:=by
 obtain⟨x5,h5,e,t,v,rfl,he,hz,hn,vj,hT⟩:=h.b5;exact aA.ah h5 (by show 0+3<11;omega) rfl fun wd hb f _=>k wd (h.put h5 (x':=Ch (e.1,e.2.1,e.2.2.1,s,e.2.2.2.2) v) f hb ⟨(e.1,e.2.1,e.2.2.1,s,e.2.2.2.2),t,v,rfl,he,⟨hz.1,hz.2.1,hs,hz.2.2.2⟩,hn,vj,hT⟩) f
theorem MX {p:Addr}{m:Nat}:∀ (vs:List Value) (w:World) (i:Nat),pw w p (m+i) vs->pw w (p.add m) i vs
 | [],_,_,_=>trivial
 | v::vs,w,i,⟨h1,h2,h3,h4⟩=>⟨h1,by rw[add_add];exact h2,by rw[add_add];exact h3,by rw[add_add];exact MX vs _ (i+1) h4⟩
theorem MY {p:Addr}{m:Nat}:∀ (vs:List Value) (w:World) (i:Nat),setCells w (p.add m) i vs=setCells w p (m+i) vs
 | [],_,_=>rfl
 | v::vs,w,i=>by
  show setCells (w.setCell ((p.add m).add i) v) (p.add m) (i+1) vs=setCells (w.setCell (p.add (m+i)) v) p (m+i+1) vs;rw[add_add,MY vs _ (i+1)];rfl
theorem lQ.rs {w wc:World}{g1 g3 g5:Nat}{c:CmV}(h:lQ w wc g1 g3 g5 c){K:ByteArray->Prop}(k:∀ x,K x):ae .str ((⟨g1,0,none⟩:Addr).add 5) wc K:=ae.ah h.b1 (x:=c.2.2.2.2.2.1) rfl (k _)
theorem xD {S:Nat->Prop}{g i:Nat}{K:Prop}(hS:S g)(k:K):av S ((⟨g,0,none⟩:Addr).add i) K:=⟨by rw[dP];exact hS,k⟩
theorem VE {w:World}{x:Sl}{xs:List UInt8}(hx:cg w x xs){y:Sl}{ys:List UInt8}(hy:cg w y ys)(hl:xs.length+ys.length<=140737488355000){K:(Option Addr×Nat×Nat)->World->Prop}
  (k:∀ (u:Sl) w',cg w' u (xs++ys)->Fr (aw x) w w'->(∀ k,aw u k->aw x k\/w.heap.size<=k)->K u w') :
  az Tryz.prog (Builtin.append_ #[22,22] 22 #[.slice x.1 x.2.1 x.2.2,.slice y.1 y.2.1 y.2.2]) w (.v (.one .aj)) (fun(u:Option Addr×Nat×Nat) w'=>K u w'):=by
 obtain⟨u,w',hr,hu,f,uf⟩:=rK hx hy.rd hl;exact⟨u,w',hr,k u w' hu f uf⟩
def iH (z:Bool)(bs:List UInt8):(aT×Bool)×Int:=
 if bs=[]\/1<bs.getD 0 0 then((bb,false),2) else if(fQ z (bs.drop 1)).2≠0 then((bb,false),(fQ z (bs.drop 1)).2) else(((fQ z (bs.drop 1)).1,bs.getD 0 0==1),0)
abbrev nv:List Ck:=[.int .i64,.str,.str,.str,.str,.int .i64,.int .i64,.raw,.bool]
def qh (e:dT)(r:Bool):List Value:=[.int .i64 e.1,.string e.2.1,.string e.2.2.1,.string e.2.2.2.1,.string e.2.2.2.2.1,.int .i64 e.2.2.2.2.2.1,.int .i64 e.2.2.2.2.2.2.1,e.2.2.2.2.2.2.2.1,.bool r]
theorem GJ {e:dT}(r:Bool)(h:bI e.2.2.2.2.2.2.2.1=true):(qh e r).all bI=true:=by
 show(bI (.int .i64 _)&&(bI (.string _)&&(bI (.string _)&&(bI (.string _)&&(bI (.string _)&&(bI (.int .i64 _)&&(bI (.int .i64 _)&&(bI e.2.2.2.2.2.2.2.1&&(bI (.bool r)&&true)))))))))=true;rw[h];rfl
theorem VF {w:World}{v:Sl}{bs:List UInt8}(h:aZ w v bs)(hc:v.2.1<=v.2.2)(ht:TabW w):Ret Tryz.prog 91 #[.slice v.1 v.2.1 v.2.2] w fun r w'=>
  r=.tuple #[Gb (iH false bs).1.1.e (iH false bs).1.2,.int .i64 (iH false bs).2]/\Fr none1 w w':=by
 refine c91 v.1 v.2.1 v.2.2 w _ ?_;unfold C91;have hl:=h.len;refine ak.of fun g1 w1 df au f1 ka=>?_;have au:w1.heap[g1]? = some (.cells (qh bb.e false).toArray 110 (0,0)):=au;have fail:∀ (code:Int) (q:iH false bs=((bb,false),code)) (w2:World),w2.heap[g1]? = some (.cells (qh bb.e false).toArray 110 (0,0))->Fr none1 w w2->ar ⟨g1,0,none⟩ (qh bb.e false) w2 (fun w3=>aq nv ⟨g1,0,none⟩ w3 (fun(y:Mk)=>(Value.tuple #[.agg #[.int .i64 y.1,.string y.2.1,.string y.2.2.1,.string y.2.2.2.1,.string y.2.2.2.2.1,.int .i64 y.2.2.2.2.2.1,.int .i64 y.2.2.2.2.2.2.1,y.2.2.2.2.2.2.2.1,.bool y.2.2.2.2.2.2.2.2.1],.int .i64 code])=.tuple #[Gb (iH false bs).1.1.e (iH false bs).1.2,.int .i64 (iH false bs).2]/\Fr none1 w w3)):=fun code q w2 hb f2=>by
  rw[q];refine ar.aE (cs:=qh bb.e false) (vs:=qh bb.e false) hb rfl rfl fun w3 aU f3 _=>aq.aE (cks:=nv) (x:=kU bb.e false) aU ?_;exact⟨rfl,f2.fresh f3 (by omega)⟩
 refine aa.eq (fun e=>?_) (fun e=>?_)
 ·have:bs=[]:=List.eq_nil_of_length_eq_zero (by omega)
  exact fail 2 (by unfold iH;rw[if_pos (.inl this)]) w1 au f1
 have ay:bs≠[]:=fun t=>by subst t;exact e (by rw[hl];rfl)
 have hlp:0<bs.length:=by cases bs with
  | nil=>exact(ay rfl).elim
  | cons _ _=>simp
 refine aZ.at (h.af f1) (Int.le_refl _) (by omega) ?_;rw[show Int.toNat 0=0 by rfl];refine aa.dec (fun oe=>?_) (fun hle=>?_)
 ·exact fail 2 (by unfold iH;rw[if_pos (.inr (by rw[UInt8.lt_iff_toNat_lt];show 1<_;omega))]) w1 au f1
 have Ej:¬ 1<bs.getD 0 0:=fun t=>hle (by rw[UInt8.lt_iff_toNat_lt] at t;have:(1:UInt8).toNat=1:=rfl;omega);have hE:iH false bs=if(fQ false (bs.drop 1)).2≠0 then((bb,false),(fQ false (bs.drop 1)).2) else(((fQ false (bs.drop 1)).1,bs.getD 0 0==1),0):=by
  unfold iH;rw[if_neg (fun t=>t.elim ay Ej)]
 refine aZ.jM (h.af f1) (by omega) (by omega) (Int.le_refl _) hc fun u hu rb dm qd=>?_;have e2:(bs.drop (1:Int).toNat).take ((v.2.1:Int) - 1).toNat=bs.drop 1:=by
  rw[show(1:Int).toNat=1 by rfl];exact List.take_of_length_le (by rw[List.length_drop];omega)
 rw[e2] at hu;refine ab.of (GD hu rb (ht.af f1)) ?_;rintro _ w2 ⟨rfl,f2⟩;refine⟨((fQ false (bs.drop 1)).1.e,(fQ false (bs.drop 1)).2,()),rfl,?_⟩;generalize fQ false (bs.drop 1)=P at *;have f12:=f1.trans f2;refine cK (zs:=gz bb.e) (vs:=gz P.1.e) rfl (Gi (Tm.bU _)) fun g4 w4 VG dw f4=>?_;have s2:=f2.size;have zV:=f4.af (f2.af au);have f14:=f12.trans f4;refine aa.ne (fun hc=>?_) (fun hc=>?_)
 ·exact fail P.2 (by rw[hE,if_pos hc]) w4 zV f14
 refine aD.of fun w5 _ f5=>?_;refine aq.aE (cks:=EK) (x:=P.1.e) (f5.af dw) ?_;refine aZ.at ((h.af f14).af f5) (Int.le_refl _) (by omega) ?_;rw[show Int.toNat 0=0 by rfl];have VH:(((bs.getD 0 0).toNat:Int)==1)=(bs.getD 0 0==1):=by
  rw[Bool.eq_iff_iff];simp only[beq_iff_eq];exact⟨fun t=>UInt8.toNat_inj.1 (by have:(1:UInt8).toNat=1:=rfl;omega),fun t=>by rw[t];rfl⟩
 rw[VH];refine ar.aE (cs:=qh bb.e false) (vs:=qh P.1.e (bs.getD 0 0==1)) (f5.af zV) rfl (GJ _ (Tm.bU _)) fun w6 fI f6 _=>aq.aE (cks:=nv) (x:=kU P.1.e (bs.getD 0 0==1)) fI ?_;rw[hE,if_neg (fun t=>t hc)];exact⟨rfl,(f14.trans f5).fresh f6 (by omega)⟩
namespace Vc
theorem bK.GK {base:Option Addr}{len:Nat}{i:Int}{size:Nat}{K:Addr->Prop}{S:Nat->Prop}(hS:∀ a,base=some a->S a.block)(h:bK base len i size K):bK base len i size fun p=>av S p (K p):=by
 obtain⟨a,ha,h0,h1,k⟩:=h.out;exact⟨a,ha,h0,h1,⟨by rw[JV];exact hS a ha,k⟩⟩
theorem ai.same {S:Nat->Prop}{w:World}{K:Prop}(k:K):ai S w w K:=ai.of (Fr.refl _ _) k
end Vc
def C199 (p0:Int)(p1:Int)(w:World)(K:Value->World->Prop):Prop:=
 jC (IntKind.u64.wrap ((BitVec.ofInt 64 (IntKind.u64.wrap p1) &&& BitVec.ofInt 64 63).toNat:Int)) (jC (IntKind.u64.wrap (64 - (IntKind.u64.wrap ((BitVec.ofInt 64 (IntKind.u64.wrap p1) &&& BitVec.ofInt 64 63).toNat:Int)))) (K (.int .u64 (IntKind.u64.wrap ((BitVec.ofInt 64 (IntKind.u64.wrap (p0 * 2 ^ (min (Int.toNat (IntKind.u64.wrap ((BitVec.ofInt 64 (IntKind.u64.wrap p1) &&& BitVec.ofInt 64 63).toNat:Int))) 64))) ||| BitVec.ofInt 64 (Int.fdiv p0 (2 ^ (min (Int.toNat (IntKind.u64.wrap (64 - (IntKind.u64.wrap ((BitVec.ofInt 64 (IntKind.u64.wrap p1) &&& BitVec.ofInt 64 63).toNat:Int))))) 64)))).toNat:Int))) w))
def pl199:aB:=.auto
theorem c199 (p0:Int)(p1:Int)(w:World)(K:Value->World->Prop)(h:C199 p0 p1 w K):Ret Tryz.prog 199 #[.int .u64 p0,.int .i64 p1] w K:=aC (by kernel_rfl) Tryz.func199 (p:=pl199) (Eq.mpr (by kernel_rfl) h)
def C154 (p0:Addr)(w:World)(K:Value->World->Prop):Prop:=
 aD w (fun w1=>ae (.int .u64) (p0.add 0) w1 (fun(x2:Int)=>ae (.int .u64) (p0.add 1) w1 (fun(x3:Int)=>aA (p0.add 0) (.int .u64 (IntKind.u64.wrap (x2+x3))) w1 (fun w4=>aD w4 (fun w5=>aV (fun S6=>av S6 (p0.add 1) (ae (.int .u64) (p0.add 1) w5 (fun(x7:Int)=>av S6 (p0.add 0) (ae (.int .u64) (p0.add 0) w5 (fun(x8:Int)=>ab Tryz.prog 199 #[.int .u64 x7,.int .i64 13] w5 (.v (.one (.int .u64))) (fun(x9:Int) aG=>ai S6 w5 aG (aA (p0.add 1) (.int .u64 (IntKind.u64.wrap ((BitVec.ofInt 64 x9 ^^^ BitVec.ofInt 64 x8).toNat:Int))) aG (fun aO=>ae (.int .u64) (p0.add 0) aO (fun(bt:Int)=>ab Tryz.prog 199 #[.int .u64 bt,.int .i64 32] aO (.v (.one (.int .u64))) (fun(bD:Int) bm=>aA (p0.add 0) (.int .u64 bD) bm (fun bL=>aD bL (fun bn=>ae (.int .u64) (p0.add 2) bn (fun(aX:Int)=>ae (.int .u64) (p0.add 3) bn (fun(br:Int)=>aA (p0.add 2) (.int .u64 (IntKind.u64.wrap (aX+br))) bn (fun bx=>aD bx (fun bo=>aV (fun mC=>av mC (p0.add 3) (ae (.int .u64) (p0.add 3) bo (fun(bR:Int)=>av mC (p0.add 2) (ae (.int .u64) (p0.add 2) bo (fun(cr:Int)=>ab Tryz.prog 199 #[.int .u64 bR,.int .i64 16] bo (.v (.one (.int .u64))) (fun(cj:Int) dk=>ai mC bo dk (aA (p0.add 3) (.int .u64 (IntKind.u64.wrap ((BitVec.ofInt 64 cj ^^^ BitVec.ofInt 64 cr).toNat:Int))) dk (fun ct=>aD ct (fun eJ=>ae (.int .u64) (p0.add 0) eJ (fun(eN:Int)=>ae (.int .u64) (p0.add 3) eJ (fun(cx:Int)=>aA (p0.add 0) (.int .u64 (IntKind.u64.wrap (eN+cx))) eJ (fun bO=>aD bO (fun fh=>aV (fun GL=>av GL (p0.add 3) (ae (.int .u64) (p0.add 3) fh (fun(dp:Int)=>av GL (p0.add 0) (ae (.int .u64) (p0.add 0) fh (fun(dj:Int)=>ab Tryz.prog 199 #[.int .u64 dp,.int .i64 21] fh (.v (.one (.int .u64))) (fun(de:Int) cQ=>ai GL fh cQ (aA (p0.add 3) (.int .u64 (IntKind.u64.wrap ((BitVec.ofInt 64 de ^^^ BitVec.ofInt 64 dj).toNat:Int))) cQ (fun dG=>aD dG (fun gu=>ae (.int .u64) (p0.add 2) gu (fun(eP:Int)=>ae (.int .u64) (p0.add 1) gu (fun(iX:Int)=>aA (p0.add 2) (.int .u64 (IntKind.u64.wrap (eP+iX))) gu (fun ll=>aD ll (fun fM=>aV (fun GM=>av GM (p0.add 1) (ae (.int .u64) (p0.add 1) fM (fun(jq:Int)=>av GM (p0.add 2) (ae (.int .u64) (p0.add 2) fM (fun(gQ:Int)=>ab Tryz.prog 199 #[.int .u64 jq,.int .i64 17] fM (.v (.one (.int .u64))) (fun(jW:Int) gd=>ai GM fM gd (aA (p0.add 1) (.int .u64 (IntKind.u64.wrap ((BitVec.ofInt 64 jW ^^^ BitVec.ofInt 64 gQ).toNat:Int))) gd (fun gB=>ae (.int .u64) (p0.add 2) gB (fun(fu:Int)=>ab Tryz.prog 199 #[.int .u64 fu,.int .i64 32] gB (.v (.one (.int .u64))) (fun(gW:Int) jZ=>aA (p0.add 2) (.int .u64 gW) jZ (fun gC=>K (.tuple #[]) gC))))))))))))))))))))))))))))))))))))))))))))))))))))))))))
def pl154:aB:=(.seq (.tail 11) (.seq (.held (.soft 0 (.soft 1 (.soft 2 (.soft 3 (.soft 4 (.soft 6 (.soft 7 (.soft 8 (.soft 9 (.pick 5 (.soft 10 (.soft 11 (.soft 12 (.last 13 .done)))) .stop))))))))))) (.seq .auto (.seq (.tail 11) (.seq (.held (.soft 0 (.soft 1 (.soft 2 (.soft 3 (.soft 4 (.soft 6 (.soft 7 (.soft 8 (.soft 9 (.pick 5 (.soft 10 (.soft 11 (.soft 12 (.last 13 .done)))) .stop))))))))))) (.seq (.tail 11) (.seq (.held (.soft 0 (.soft 1 (.soft 2 (.soft 3 (.soft 4 (.soft 6 (.soft 7 (.soft 8 (.soft 9 (.pick 5 (.soft 10 (.soft 11 (.soft 12 (.last 13 .done)))) .stop))))))))))) (.seq (.tail 11) (.seq (.held (.soft 0 (.soft 1 (.soft 2 (.soft 3 (.soft 4 (.soft 6 (.soft 7 (.soft 8 (.soft 9 (.pick 5 (.soft 10 (.soft 11 (.soft 12 (.last 13 .done)))) .stop))))))))))) .auto)))))))))
theorem c154 (p0:Addr)(w:World)(K:Value->World->Prop)(h:C154 p0 w K):Ret Tryz.prog 154 #[.pointer (some p0)] w K:=aC (by kernel_rfl) Tryz.func154 (p:=pl154) (Eq.mpr (by kernel_rfl) h)
def C106 (p0:Addr)(p1:Int)(w:World)(K:Value->World->Prop):Prop:=
 bw (Int×Unit) (fun _ s1 w2 gm=>aa (decide (s1.1<p1))
 (ab Tryz.prog 154 #[.pointer (some p0)] w2 (.aN []) (fun(x4:Unit) w5=>gm (IntKind.i64.wrap (s1.1+1),()) w5))
 (K (.tuple #[]) w2))
 (0,()) w
def pl106:aB:=(.seq .auto (.block (.loop [(5,.one (.int .i64))] .auto)))
theorem c106 (p0:Addr)(p1:Int)(w:World)(K:Value->World->Prop)(h:C106 p0 p1 w K):Ret Tryz.prog 106 #[.pointer (some p0),.int .i64 p1] w K:=aC (by kernel_rfl) Tryz.func106 (p:=pl106) (Eq.mpr (by kernel_rfl) h)
def C105 (p0:Addr)(p1:Int)(w:World)(K:Value->World->Prop):Prop:=
 ae (.int .u64) (p0.add 3) w (fun(x1:Int)=>aA (p0.add 3) (.int .u64 (IntKind.u64.wrap ((BitVec.ofInt 64 x1 ^^^ BitVec.ofInt 64 p1).toNat:Int))) w (fun w2=>ab Tryz.prog 106 #[.pointer (some p0),.int .i64 2] w2 (.aN []) (fun(x3:Unit) w4=>ae (.int .u64) (p0.add 0) w4 (fun(x5:Int)=>aA (p0.add 0) (.int .u64 (IntKind.u64.wrap ((BitVec.ofInt 64 x5 ^^^ BitVec.ofInt 64 p1).toNat:Int))) w4 (fun w6=>K (.tuple #[]) w6)))))
def pl105:aB:=.auto
theorem c105 (p0:Addr)(p1:Int)(w:World)(K:Value->World->Prop)(h:C105 p0 p1 w K):Ret Tryz.prog 105 #[.pointer (some p0),.int .u64 p1] w K:=aC (by kernel_rfl) Tryz.func105 (p:=pl105) (Eq.mpr (by kernel_rfl) h)
def C104 (p0:Option Addr)(aH aP:Nat)(w:World)(K:Value->World->Prop):Prop:=
 bw (Int×Int×Unit) (fun _ s1 w2 gm=>aa (decide (s1.2.1<(aH:Int)))
 (bK p0 aH s1.2.1 1 (fun a4=>ae (.int .u8) a4 w2 (fun(x5:Int)=>jC (IntKind.i64.wrap (8 * s1.2.1)) (gm (IntKind.u64.wrap ((BitVec.ofInt 64 s1.1 ||| BitVec.ofInt 64 (IntKind.u64.wrap ((IntKind.u64.wrap x5) * 2 ^ (min (Int.toNat (IntKind.i64.wrap (8 * s1.2.1))) 64)))).toNat:Int),IntKind.i64.wrap (s1.2.1+1),()) w2))))
 (K (.int .u64 s1.1) w2))
 (0,0,()) w
def pl104:aB:=(.seq .auto (.seq .auto (.seq (.seq .auto (.block (.loop [(3,.one (.int .u64)),(8,.one (.int .i64))] .auto))) .auto)))
theorem c104 (p0:Option Addr)(aH aP:Nat)(w:World)(K:Value->World->Prop)(h:C104 p0 aH aP w K):Ret Tryz.prog 104 #[.slice p0 aH aP] w K:=aC (by kernel_rfl) Tryz.func104 (p:=pl104) (Eq.mpr (by kernel_rfl) h)
def C50 (p0:List Value)(p1:Option Addr)(bY cE:Nat)(w:World)(K:Value->World->Prop):Prop:=
 ak (.cells p0.toArray 24) w (fun g1 w2=>aD w2 (fun w3=>aV (fun S4=>eX (some (ad g1)) 16 0 8 16 1 (fun a5 l6 c7=>eX (some (ad g1)) 16 8 16 16 1 (fun a8 l9 c10=>ab Tryz.prog 104 #[.slice a5 l6 c7] w3 (.v (.one (.int .u64))) (fun(ba:Int) aM=>ai S4 w3 aM (ab Tryz.prog 104 #[.slice a8 l9 c10] aM (.v (.one (.int .u64))) (fun(bD:Int) bm=>ai S4 aM bm (ak (.cells #[.int .u64 (IntKind.u64.wrap ((BitVec.ofInt 64 ba ^^^ BitVec.ofInt 64 8317987319222330741).toNat:Int)),.int .u64 (IntKind.u64.wrap ((BitVec.ofInt 64 bD ^^^ BitVec.ofInt 64 7237128888997146477).toNat:Int)),.int .u64 (IntKind.u64.wrap ((BitVec.ofInt 64 ba ^^^ BitVec.ofInt 64 7816392313619706465).toNat:Int)),.int .u64 (IntKind.u64.wrap ((BitVec.ofInt 64 bD ^^^ BitVec.ofInt 64 8387220255154660723).toNat:Int))] 202) bm (fun g15 bn=>uh 8 (bw (Int×Unit) (fun _ vo bz VI=>aa (decide (vo.1<(IntKind.i64.wrap ((IntKind.i64.wrap (Int.tdiv (bY:Int) 8)) * 8))))
 (eX p1 cE vo.1 (IntKind.i64.wrap (vo.1+8)) cE 1 (fun a20 GN c22=>ab Tryz.prog 104 #[.slice a20 GN c22] bz (.v (.one (.int .u64))) (fun(cr:Int) cm=>ab Tryz.prog 105 #[.pointer (some (ad g15)),.int .u64 cr] cm (.aN []) (fun(bC:Unit) ct=>VI (IntKind.i64.wrap (vo.1+8),()) ct))))
 (eX p1 cE (IntKind.i64.wrap ((IntKind.i64.wrap (Int.tdiv (bY:Int) 8)) * 8)) bY cE 1 (fun zQ zR c29=>ab Tryz.prog 104 #[.slice zQ zR c29] bz (.v (.one (.int .u64))) (fun(eg:Int) fh=>jC 56 (ab Tryz.prog 105 #[.pointer (some (ad g15)),.int .u64 (IntKind.u64.wrap ((BitVec.ofInt 64 eg ||| BitVec.ofInt 64 (IntKind.u64.wrap ((IntKind.u64.wrap (bY:Int)) * 2 ^ (min (Int.toNat 56) 64)))).toNat:Int))] fh (.aN []) (fun(dK:Unit) dS=>ae (.int .u64) ((ad g15).add 2) dS (fun(dj:Int)=>aA ((ad g15).add 2) (.int .u64 (IntKind.u64.wrap ((BitVec.ofInt 64 dj ^^^ BitVec.ofInt 64 255).toNat:Int))) dS (fun dX=>ab Tryz.prog 106 #[.pointer (some (ad g15)),.int .i64 4] dX (.aN []) (fun(eF:Unit) dG=>aD dG (fun gu=>ae (.int .u64) ((ad g15).add 0) gu (fun(eP:Int)=>ae (.int .u64) ((ad g15).add 1) gu (fun(iX:Int)=>ae (.int .u64) ((ad g15).add 2) gu (fun(ek:Int)=>ae (.int .u64) ((ad g15).add 3) gu (fun(iQ:Int)=>K (.int .u64 (IntKind.u64.wrap ((BitVec.ofInt 64 (IntKind.u64.wrap ((BitVec.ofInt 64 (IntKind.u64.wrap ((BitVec.ofInt 64 eP ^^^ BitVec.ofInt 64 iX).toNat:Int)) ^^^ BitVec.ofInt 64 ek).toNat:Int)) ^^^ BitVec.ofInt 64 iQ).toNat:Int))) gu))))))))))))))
 (0,()) bn)))))))))))
def pl50:aB:=(.seq .auto (.seq (.held (.soft 0 (.soft 2 (.pick 1 (.pick 3 (.soft 4 (.soft 5 .done)) .stop) .stop)))) (.seq .auto (.seq .auto (.seq (.seq .auto (.block (.loop [(9,.one (.int .i64))] .auto))) (.seq .auto (.seq .auto (.seq .auto (.seq .still .auto)))))))))
theorem c50 (p0:List Value)(p1:Option Addr)(bY cE:Nat)(w:World)(K:Value->World->Prop)(h:C50 p0 p1 bY cE w K):Ret Tryz.prog 50 #[.agg p0.toArray,.slice p1 bY cE] w K:=aC (by kernel_rfl) Tryz.func50 (p:=pl50) (Eq.mpr (by kernel_rfl) h)
def C49 (p0:Int)(w:World)(K:Value->World->Prop):Prop:=
 az Tryz.prog (Instr.makeSlice 22 (.int .i64 8) (.int .i64 8)) w (.v (.one .aj)) (fun(x1:an) w2=>bw (Int×Unit) (fun _ s3 w4 kM=>aa (decide (s3.1<(x1.2.1:Int)))
 (jC (IntKind.i64.wrap (8 * s3.1)) (bK x1.1 x1.2.1 s3.1 1 (fun a6=>aA a6 (.int .u8 (IntKind.u8.wrap (Int.fdiv p0 (2 ^ (min (Int.toNat (IntKind.i64.wrap (8 * s3.1))) 64))))) w4 (fun w7=>kM (IntKind.i64.wrap (s3.1+1),()) w7))))
 (K (.slice x1.1 x1.2.1 x1.2.2) w4))
 (0,()) w2)
def pl49:aB:=(.seq .auto (.seq .auto (.seq (.seq .auto (.block (.loop [(8,.one (.int .i64))] .auto))) .auto)))
theorem c49 (p0:Int)(w:World)(K:Value->World->Prop)(h:C49 p0 w K):Ret Tryz.prog 49 #[.int .u64 p0] w K:=aC (by kernel_rfl) Tryz.func49 (p:=pl49) (Eq.mpr (by kernel_rfl) h)
def C108 (p0:Option Addr)(aH aP:Nat)(w:World)(K:Value->World->Prop):Prop:=
 aa ((aH:Int) != 8)
 (K (.tuple #[.int .u64 0,.bool false]) w)
 (ab Tryz.prog 104 #[.slice p0 aH aP] w (.v (.one (.int .u64))) (fun(x1:Int) w2=>K (.tuple #[.int .u64 x1,.bool true]) w2))
def pl108:aB:=.auto
theorem c108 (p0:Option Addr)(aH aP:Nat)(w:World)(K:Value->World->Prop)(h:C108 p0 aH aP w K):Ret Tryz.prog 108 #[.slice p0 aH aP] w K:=aC (by kernel_rfl) Tryz.func108 (p:=pl108) (Eq.mpr (by kernel_rfl) h)
def C48 (p0:Option Addr)(aH aP:Nat)(p1:Option Addr)(bY cE:Nat)(w:World)(K:Value->World->Prop):Prop:=
 ab Tryz.prog 53 #[.slice p0 aH aP,.slice p1 bY cE] w (.v (.one .bool)) (fun(x1:Bool) w2=>K (.bool x1) w2)
def pl48:aB:=.auto
theorem c48 (p0:Option Addr)(aH aP:Nat)(p1:Option Addr)(bY cE:Nat)(w:World)(K:Value->World->Prop)(h:C48 p0 aH aP p1 bY cE w K):Ret Tryz.prog 48 #[.slice p0 aH aP,.slice p1 bY cE] w K:=aC (by kernel_rfl) Tryz.func48 (p:=pl48) (Eq.mpr (by kernel_rfl) h)
namespace Vc
theorem eI.of {w:World}{b n:Nat}{cs:List Value}{T:TypeId}{fr:Nat×Nat}(hb:w.heap[b]? = some (.cells cs.toArray T fr))(hn:cs.length=n){K:List Value->Prop}(k:K cs):eI n ⟨b,0,none⟩ w K:=
 ⟨cs,hn,nP hb _ 0 fun j _=>by simp,k⟩
end Vc
def Ct (s:kT):Array Value:=#[.int .u64 s.1,.int .u64 s.2.1,.int .u64 s.2.2.1,.int .u64 s.2.2.2]
def iv (w:World)(b:Nat)(s:kT):Prop:=w.heap[b]? = some (.cells (Ct s) 202 (0,0))
theorem VJ (x k:Int)(U:k=13\/k=16\/k=17\/k=21\/k=32)(w:World):Ret Tryz.prog 199 #[.int .u64 x,.int .i64 k] w fun r w'=>r=.int .u64 (fW x k.toNat)/\w=w':=by
 refine c199 x k w _ ?_;unfold C199 fW;have e1:IntKind.u64.wrap ((BitVec.ofInt 64 (IntKind.u64.wrap k) &&& BitVec.ofInt 64 63).toNat:Int)=k:=by rcases U with rfl | rfl | rfl | rfl | rfl<;>decide
 have e2:IntKind.u64.wrap (64 - k)=64 - k:=by rcases U with rfl | rfl | rfl | rfl | rfl<;>decide
 have e3:Int.toNat (64 - k)=64 - k.toNat:=by rcases U with rfl | rfl | rfl | rfl | rfl<;>decide
 rw[e1,e2,e3];exact⟨by rcases U with rfl | rfl | rfl | rfl | rfl<;>decide,by rcases U with rfl | rfl | rfl | rfl | rfl<;>decide,rfl,rfl⟩
theorem xE (x k:Int)(U:k=13\/k=16\/k=17\/k=21\/k=32)(w:World){K:Int->World->Prop}(h:K (fW x k.toNat) w):ab Tryz.prog 199 #[.int .u64 x,.int .i64 k] w (.v (.one (.int .u64))) (fun(y:Int) w'=>K y w'):=by
 refine ab.of (VJ x k U w) ?_;rintro _ _ ⟨rfl,rfl⟩;exact⟨_,rfl,h⟩
theorem iv.ld {w:World}{b:Nat}{s:kT}(h:iv w b s){o:Nat}{x:Int}(hx:(Ct s)[o]? = some (.int .u64 x)){K:Int->Prop}(k:K x):ae (.int .u64) ((⟨b,0,none⟩:Addr).add o) w K:=ae.ah h (x:=x) (by rw[Nat.zero_add];exact hx) k
theorem iv.st {w:World}{b:Nat}{s s':kT}(h:iv w b s){o:Nat}{x:Int}(ho:o<4)(hs:(Ct s).setIfInBounds o (.int .u64 x)=Ct s'){K:World->Prop}(k:∀ w1,iv w1 b s'->Fr (only b) w w1->K w1):aA ((⟨b,0,none⟩:Addr).add o) (.int .u64 x) w K:=
 aA.ah h (by show 0+o<4;omega) rfl fun w1 hb f _=>k w1 (by unfold iv;rw[hb,Nat.zero_add,hs]) f
theorem iv.af {w w':World}{b:Nat}{s:kT}(h:iv w b s)(f:Fr none1 w w'):iv w' b s:=f.af h
theorem VK {w:World}{b:Nat}{s:kT}(h:iv w b s):Ret Tryz.prog 154 #[.pointer (some ⟨b,0,none⟩)] w fun r w'=>r=.tuple #[]/\iv w' b (FW s)/\Fr (only b) w w':=by
 refine c154 _ w _ ?_;unfold C154;obtain⟨a0,a1,a2,a3⟩:=s;refine aD.of fun w1 _ f1=>?_;have h:=h.af f1;refine h.ld rfl (h.ld rfl (h.st (s':=(eH a0 a1,a1,a2,a3)) (by decide) rfl fun w2 h f2=>?_));have F:=(Fr.eL f1 f2);refine aD.of fun w3 _ f3=>aV.all (av.all (iv.ld (h.af f3) rfl (av.all (iv.ld (h.af f3) rfl ?_))));have h:=h.af f3;have F:=F.dh f3;refine xE _ 13 (by decide) _ (ai.same (h.st (s':=(eH a0 a1,dV (fW a1 13) (eH a0 a1),a2,a3)) (by decide) rfl fun w4 h f4=>?_));have F:=F.trans f4;refine h.ld rfl (xE _ 32 (by decide) _ (h.st (s':=(fW (eH a0 a1) 32,dV (fW a1 13) (eH a0 a1),a2,a3)) (by decide) rfl fun w5 h f5=>?_));have F:=F.trans f5;have e:FW (a0,a1,a2,a3)=(eH (fW (eH a0 a1) 32) (dV (fW a3 16) (eH a2 a3)),dV (fW (dV (fW a1 13) (eH a0 a1)) 17) (eH (eH a2 a3) (dV (fW a1 13) (eH a0 a1))),fW (eH (eH a2 a3) (dV (fW a1 13) (eH a0 a1))) 32,dV (fW (dV (fW a3 16) (eH a2 a3)) 21) (eH (fW (eH a0 a1) 32) (dV (fW a3 16) (eH a2 a3)))):=rfl;rw[e];generalize dV (fW a1 13) (eH a0 a1)=b1 at *;generalize fW (eH a0 a1) 32=b0 at *;refine aD.of fun w6 _ f6=>?_;have h:=h.af f6;have F:=F.dh f6;refine h.ld rfl (h.ld rfl (h.st (s':=(b0,b1,eH a2 a3,a3)) (by decide) rfl fun w7 h f7=>?_));have F:=F.trans f7;refine aD.of fun w8 _ f8=>aV.all (av.all (iv.ld (h.af f8) rfl (av.all (iv.ld (h.af f8) rfl ?_))));have h:=h.af f8;have F:=F.dh f8;refine xE _ 16 (by decide) _ (ai.same (h.st (s':=(b0,b1,eH a2 a3,dV (fW a3 16) (eH a2 a3))) (by decide) rfl fun w9 h f9=>?_));have F:=F.trans f9;generalize dV (fW a3 16) (eH a2 a3)=b3 at *;generalize eH a2 a3=b2 at *;refine aD.of fun aG _ f10=>?_;have h:=h.af f10;have F:=F.dh f10;refine h.ld rfl (h.ld rfl (h.st (s':=(eH b0 b3,b1,b2,b3)) (by decide) rfl fun aO h f11=>?_));have F:=F.trans f11;refine aD.of fun aM _ f12=>aV.all (av.all (iv.ld (h.af f12) rfl (av.all (iv.ld (h.af f12) rfl ?_))));have h:=h.af f12;have F:=F.dh f12;refine xE _ 21 (by decide) _ (ai.same (h.st (s':=(eH b0 b3,b1,b2,dV (fW b3 21) (eH b0 b3))) (by decide) rfl fun aW h f13=>?_));have F:=F.trans f13;generalize dV (fW b3 21) (eH b0 b3)=c3 at *;generalize eH b0 b3=c0 at *;refine aD.of fun bm _ f14=>?_;have h:=h.af f14;have F:=F.dh f14;refine h.ld rfl (h.ld rfl (h.st (s':=(c0,b1,eH b2 b1,c3)) (by decide) rfl fun bL h f15=>?_));have F:=F.trans f15;refine aD.of fun bn _ f16=>aV.all (av.all (iv.ld (h.af f16) rfl (av.all (iv.ld (h.af f16) rfl ?_))));have h:=h.af f16;have F:=F.dh f16;refine xE _ 17 (by decide) _ (ai.same (h.st (s':=(c0,dV (fW b1 17) (eH b2 b1),eH b2 b1,c3)) (by decide) rfl fun b9 h f17=>?_));have F:=F.trans f17;refine h.ld rfl (xE _ 32 (by decide) _ (h.st (s':=(c0,dV (fW b1 17) (eH b2 b1),fW (eH b2 b1) 32,c3)) (by decide) rfl fun bz h f18=>?_));exact⟨rfl,h,F.trans f18⟩
theorem MZ {w:World}{b:Nat}{s:kT}(h:iv w b s)(n:Nat)(hn:n<=100):Ret Tryz.prog 106 #[.pointer (some ⟨b,0,none⟩),.int .i64 (n:Int)] w fun r w'=>r=.tuple #[]/\iv w' b (p8 n s)/\Fr (only b) w w':=by
 refine c106 _ _ w _ ?_;unfold C106;refine bw.of (fun st w'=>∃ i:Nat,st.1=i/\i<=n/\iv w' b (p8 i s)/\Fr (only b) w w') (fun st _=>(n - st.1).toNat) ⟨0,rfl,by omega,h,Fr.refl _ _⟩ ?_;rintro _ ⟨i',_⟩ w1 ⟨i,hi,me,h1,f1⟩;dsimp only at hi ⊢;subst hi;refine aa.dec (fun aS=>?_) (fun dQ=>?_)
 ·refine ab.of (VK h1) ?_
  rintro _ w2 ⟨rfl,h2,f2⟩;refine⟨(),rfl,?_⟩;rw[wI (by omega) (by omega)];exact⟨⟨i+1,by omega,by omega,h2,f1.trans f2⟩,by omega⟩
 ·obtain rfl:i=n:=by omega
  exact⟨rfl,h1,f1⟩
theorem M0 {w:World}{b:Nat}{s:kT}(h:iv w b s)(m:Int):Ret Tryz.prog 105 #[.pointer (some ⟨b,0,none⟩),.int .u64 m] w fun r w'=>r=.tuple #[]/\iv w' b (zK m s)/\Fr (only b) w w':=by
 refine c105 _ _ w _ ?_;unfold C105 zK;obtain⟨a0,a1,a2,a3⟩:=s;refine h.ld rfl (h.st (s':=(a0,a1,a2,dV a3 m)) (by decide) rfl fun w1 h1 f1=>?_);refine ab.of (MZ h1 2 (by decide)) ?_;rintro _ w2 ⟨rfl,h2,f2⟩;refine⟨(),rfl,?_⟩;dsimp only;generalize p8 2 (a0,a1,a2,dV a3 m)=t at *;obtain⟨t0,t1,t2,t3⟩:=t;refine h2.ld rfl (h2.st (s':=(dV t0 m,t1,t2,t3)) (by decide) rfl fun w3 h3 f3=>?_);exact⟨rfl,h3,(f1.trans f2).trans f3⟩
theorem zX {w:World}{v:Sl}{bs:List UInt8}(h:aZ w v bs)(hl:bs.length<=8):Ret Tryz.prog 104 #[.slice v.1 v.2.1 v.2.2] w fun r w'=>r=.int .u64 (gF bs:Int)/\w=w':=by
 refine c104 v.1 v.2.1 v.2.2 w _ ?_;unfold C104;have cM:=h.len;refine bw.of (fun s w'=>∃ i:Nat,s.2.1=i/\i<=bs.length/\s.1=(gF (bs.take i):Int)/\w=w') (fun s _=>(bs.length - s.2.1).toNat) ⟨0,rfl,by omega,rfl,rfl⟩ ?_;rintro _ ⟨m,i',_⟩ _ ⟨i,hi,ja,hm,rfl⟩;dsimp only at hi hm ⊢;subst hi hm;refine aa.dec (fun aS=>?_) (fun dQ=>?_)
 ·refine aZ.at h (by omega) aS ?_
  rw[wI (x:=8 * (i:Int)) (by omega) (by omega),wI (x:=(i:Int)+1) (by omega) (by omega)];refine⟨by omega,⟨i+1,by omega,by omega,?_,rfl⟩,by omega⟩;have yM:i<8:=by omega
  have hb:=(bs.getD i 0).toNat_lt;have vp:=Ce (bs.take i);rw[List.length_take,Nat.min_eq_left (by omega)] at vp;have hp:256 ^ i=2 ^ (8 * i):=by rw[show(256:Nat)=2 ^ 8 by decide,<- Nat.pow_mul]
  have GO:256 ^ i<=72057594037927936:=by
   have:(72057594037927936:Nat)=256 ^ 7:=by decide
   rw[this];exact Nat.pow_le_pow_right (by decide) (by omega)
  have mD:256 ^ i * (bs.getD i 0).toNat<18446744073709551616:=by
   have h1:256 ^ i * (bs.getD i 0).toNat<=256 ^ i * 255:=Nat.mul_le_mul_left _ (by omega);have h2:256 ^ i * 255<=72057594037927936 * 255:=Nat.mul_le_mul_right _ GO;omega
  rw[Int.toNat_natCast,Ux bs i (by omega),wF (bs.getD i 0).toNat,Nat.mod_eq_of_lt (show(bs.getD i 0).toNat<18446744073709551616 by omega),show Int.toNat (8 * (i:Int))=8 * i by omega,yJ _ (8 * i) (by omega),
   <- hp,Nat.mul_comm (bs.getD i 0).toNat,Nat.mod_eq_of_lt mD,yK _ _ (by omega) mD]
  congr 1
  rw[hp,Nat.mul_comm,<- Nat.shiftLeft_eq,Nat.or_comm,<- Nat.shiftLeft_add_eq_or_of_lt (by rw[<- hp];exact vp),Nat.shiftLeft_eq];omega
 ·rw[List.take_of_length_le (by omega)];exact⟨rfl,rfl⟩
def cT (kb:List UInt8):List Value:=kb.map bc
theorem VL {w:World}{g:Nat}{kb:List UInt8}{T:TypeId}{fr:Nat×Nat}(hb:w.heap[g]? = some (.cells (cT kb).toArray T fr))(U:kb.length=16):aZ w (some ⟨g,0,none⟩,16,16) kb:=by
 refine⟨by simp[U],(fun t=>nomatch t),fun a ha=>?_⟩;injection ha with ha
 subst ha;exact nP hb _ 0 fun j _=>by simp[cT]
theorem VM {w:World}{g:Nat}{kb:List UInt8}(U:kb.length=16)(h:aZ w (some ⟨g,0,none⟩,16,16) kb){K:Option Addr->Nat->Nat->Prop}(k:aZ w (some ⟨g,0,none⟩,8,16) (kb.take 8)->K (some ⟨g,0,none⟩) 8 16):
  eX (some ⟨g,0,none⟩) 16 0 8 16 1 K:=by
 refine⟨by decide,by decide,by decide,by decide,?_⟩;have e:(if(16:Int)=0 then some (⟨g,0,none⟩:Addr) else(some (⟨g,0,none⟩:Addr)).map (·.add ((0:Int).toNat * 1)))=some ⟨g,0,none⟩:=by
  rw[if_neg (by decide),Option.map_some,dP];rfl
 rw[e];refine k ⟨by simp[U],(fun t=>nomatch t),fun a ha=>?_⟩;rw[List.map_take];exact wD _ 0 8 (h.2.2 a ha)
theorem VN {w:World}{g:Nat}{kb:List UInt8}(U:kb.length=16)(h:aZ w (some ⟨g,0,none⟩,16,16) kb){K:Option Addr->Nat->Nat->Prop}(k:aZ w (some ⟨g,8,none⟩,8,8) (kb.drop 8)->K (some ⟨g,8,none⟩) 8 8):
  eX (some ⟨g,0,none⟩) 16 8 16 16 1 K:=by
 refine⟨by decide,by decide,by decide,by decide,?_⟩;have e:(if(16:Int)=8 then some (⟨g,0,none⟩:Addr) else(some (⟨g,0,none⟩:Addr)).map (·.add ((8:Int).toNat * 1)))=some ⟨g,8,none⟩:=by
  rw[if_neg (by decide),Option.map_some,dP];rfl
 rw[e];refine k ⟨by simp[U],(fun t=>nomatch t),fun a ha=>?_⟩;injection ha with ha
 subst ha;have h8:=zM 8 _ 0 (h.2.2 ⟨g,0,none⟩ rfl);have:=xv (m:=8) _ 0 h8;rw[dP,Nat.zero_add] at this;rw[List.map_drop];exact this
theorem GP {w:World}{v:Sl}{kb bs:List UInt8}(U:kb.length=16)(h:aZ w v bs)(hc:v.2.1<=v.2.2)(hl:bs.length<=140737488355300):Ret Tryz.prog 50 #[.agg (cT kb).toArray,.slice v.1 v.2.1 v.2.2] w fun r w'=>r=.int .u64 (nq kb bs)/\Fr none1 w w':=by
 refine c50 (cT kb) v.1 v.2.1 v.2.2 w _ ?_;unfold C50;have cM:=h.len;refine ak.of fun g1 w1 df au f1 _=>aD.of fun w2 _ f2=>aV.all ?_;have f12:=f1.trans f2;have hK:=VL (f2.af au) U;refine VM U hK fun hA=>VN U hK fun hu=>?_;refine ab.of (zX (v:=(some ⟨g1,0,none⟩,8,16)) hA (by rw[List.length_take];omega)) ?_;rintro _ _ ⟨rfl,rfl⟩;refine⟨_,rfl,ai.same ?_⟩;refine ab.of (zX (v:=(some ⟨g1,8,none⟩,8,8)) hu (by rw[List.length_drop];omega)) ?_;rintro _ _ ⟨rfl,rfl⟩;refine⟨_,rfl,ai.same ?_⟩;refine ak.of fun b w3 hb aU f3 _=>⟨by decide,?_⟩;have S3:iv w3 b (FX kb):=aU;have f13:=f12.trans f3;have VO:((v.2.1:Int).tdiv 8)=((bs.length / 8:Nat):Int):=by rw[Int.tdiv_eq_ediv_of_nonneg (by omega)];omega
 rw[VO,wI (x:=((bs.length / 8:Nat):Int)) (by omega) (by omega),wI (x:=((bs.length / 8:Nat):Int) * 8) (by omega) (by omega)];unfold nq;generalize FX kb=s0 at *;have M1:=f13.size;refine bw.of (fun st w'=>∃ i:Nat,st.1=8 * (i:Int)/\i<=bs.length / 8/\iv w' b (Cb bs s0 i)/\Fr (only b) w3 w') (fun st _=>(8 * (bs.length / 8:Nat) - st.1).toNat) ⟨0,rfl,by omega,S3,Fr.refl _ _⟩ ?_;rintro _ ⟨i',_⟩ w4 ⟨i,hi,ja,S4,f4⟩;dsimp only at hi ⊢;subst hi;have gk:=f12.size;have h4:aZ w4 v bs:=(h.af f13).tG f4 fun hn k U t=>by have:=h.Gw hn U;have:k=b:=t;omega
 refine aa.dec (fun aS=>?_) (fun dQ=>?_)
 ·rw[wI (x:=8 * (i:Int)+8) (by omega) (by omega)]
  refine aZ.jM h4 (by omega) (by omega) (by omega) hc fun u hu _ _ _=>?_;rw[show(8 * (i:Int)).toNat=8 * i by omega,show(8 * (i:Int)+8 - 8 * (i:Int)).toNat=8 by omega] at hu;refine ab.of (zX hu (by rw[List.length_take];omega)) ?_;rintro _ _ ⟨rfl,rfl⟩;refine⟨_,rfl,?_⟩;refine ab.of (M0 S4 _) ?_;rintro _ w5 ⟨rfl,S5,f5⟩;exact⟨(),rfl,⟨i+1,by omega,by omega,S5,f4.trans f5⟩,by omega⟩
 ·obtain rfl:i=bs.length / 8:=by omega
  refine aZ.jM h4 (by omega) (by omega) (Int.le_refl _) hc fun u hu _ _ _=>?_;rw[show(((bs.length / 8:Nat):Int) * 8).toNat=8 * (bs.length / 8) by omega,List.take_of_length_le (by rw[List.length_drop];omega)] at hu;have nZ:(bs.drop (8 * (bs.length / 8))).length<=7:=by rw[List.length_drop];omega
  refine ab.of (zX hu (by omega)) ?_;rintro _ _ ⟨rfl,rfl⟩;refine⟨_,rfl,by decide,?_⟩;have vp:=Ce (bs.drop (8 * (bs.length / 8)));have VP:gF (bs.drop (8 * (bs.length / 8)))<72057594037927936:=by
   have h2:256 ^ (bs.drop (8 * (bs.length / 8))).length<=256 ^ 7:=Nat.pow_le_pow_right (by decide) nZ;have:(256:Nat) ^ 7=72057594037927936:=by decide
   omega
  have VQ:IntKind.u64.wrap ((BitVec.ofInt 64 (gF (bs.drop (8 * (bs.length / 8))):Int) ||| BitVec.ofInt 64 (IntKind.u64.wrap ((IntKind.u64.wrap (v.2.1:Int)) * 2 ^ (min (Int.toNat 56) 64)))).toNat:Int)=(Cc bs:Int):=by
   rw[cM,wF bs.length,Nat.mod_eq_of_lt (show bs.length<18446744073709551616 by omega),show Int.toNat 56=56 by rfl,yJ _ 56 (by decide),show bs.length * 2 ^ 56 % 18446744073709551616=bs.length % 256 * 72057594037927936 by omega,
    yK _ _ (by omega) (by omega)]
   congr 1
   unfold Cc;rw[Nat.or_comm,show bs.length % 256 * 72057594037927936=(bs.length % 256) <<< 56 by rw[Nat.shiftLeft_eq],<- Nat.shiftLeft_add_eq_or_of_lt (by exact VP)];omega
  rw[VQ];refine ab.of (M0 S4 _) ?_;rintro _ w5 ⟨rfl,S5,f5⟩;refine⟨(),rfl,?_⟩;generalize zK (Cc bs:Int) (Cb bs s0 (bs.length / 8))=t at *;obtain⟨t0,t1,t2,t3⟩:=t;unfold Mg;refine S5.ld rfl (S5.st (s':=(t0,t1,dV t2 255,t3)) (by decide) rfl fun w6 S6 f6=>?_);refine ab.of (MZ S6 4 (by decide)) ?_;rintro _ w7 ⟨rfl,S7,f7⟩;refine⟨(),rfl,?_⟩;dsimp only;generalize p8 4 (t0,t1,dV t2 255,t3)=q at *;obtain⟨q0,q1,q2,q3⟩:=q;refine aD.of fun w8 _ f8=>?_;have S8:=S7.af f8;refine S8.ld rfl (S8.ld rfl (S8.ld rfl (S8.ld rfl ?_)));have f38:Fr (only b) w3 w8:=((((f4.trans f5).trans f6).trans f7).dh f8);exact⟨rfl,f13.fresh f38 (by omega)⟩
theorem M3 (n:Int)(h0:0<=n)(h1:n<18446744073709551616)(w:World):Ret Tryz.prog 49 #[.int .u64 n] w fun r w'=>∃ v:Sl,r=.slice v.1 v.2.1 v.2.2/\cg w' v (gG n)/\Fr none1 w w'/\∀ k,aw v k->w.heap.size<=k:=by
 refine c49 n w _ ?_;unfold C49;obtain⟨M,rfl⟩:∃ M:Nat,n=M:=⟨n.toNat,by omega⟩;obtain⟨w1,dO,zY,f1⟩:=U8 (w:=w) (n:=8) (m:=8) (by decide) (by decide) (by decide);refine⟨(some ⟨w.heap.size,0,none⟩,8,8),w1,dO,?_⟩;have zY:cg w1 (some ⟨w.heap.size,0,none⟩,8,8) (List.replicate 8 0):=zY;have hh:gG (M:Int)=o0 8 M:=by unfold gG;rw[show((M:Int) % 18446744073709551616).toNat=M by omega]
 refine bw.of (fun st w'=>∃ (i:Nat) (cs:List UInt8),st.1=i/\i<=8/\cg w' (some ⟨w.heap.size,0,none⟩,8,8) cs/\cs.length=8/\(∀ j,j<i->cs[j]? = (o0 8 M)[j]?)/\Fr none1 w w') (fun st _=>(8 - st.1).toNat) ⟨0,_,rfl,by omega,zY,by simp,fun j hj=>by omega,f1⟩ ?_;rintro _ ⟨i',_⟩ w2 ⟨i,cs,hi,ja,tH,eD,hall,f2⟩;dsimp only at hi ⊢;subst hi;refine aa.dec (fun aS=>?_) (fun dQ=>?_)
 ·have yM:i<8:=by omega
  rw[wI (x:=8 * (i:Int)) (by omega) (by omega),wI (x:=(i:Int)+1) (by omega) (by omega),show Int.toNat (8 * (i:Int))=8 * i by omega];refine⟨by omega,?_⟩;have hv:Value.int .u8 (IntKind.u8.wrap (Int.fdiv (M:Int) (2 ^ (min (8 * i) 64))))=bc (UInt8.ofNat (M / 256 ^ i % 256)):=by
   rw[Br M (8 * i) (by omega),Eu];unfold bc;rw[oK (Nat.mod_lt _ (by decide)),show(256:Nat) ^ i=2 ^ (8 * i) by rw[show(256:Nat)=2 ^ 8 by decide,<- Nat.pow_mul]]
  rw[hv];refine aF.st (v:=(some ⟨w.heap.size,0,none⟩,8,8)) tH (by omega) aS rfl fun w3 aU f3 _=>?_;have VR:cg w3 (some ⟨w.heap.size,0,none⟩,8,8) (cs.set i (UInt8.ofNat (M / 256 ^ i % 256))):=by unfold cg;rw[List.map_set];rw[Int.toNat_natCast] at aU;exact aU
  refine⟨⟨i+1,_,by omega,by omega,VR,by rw[List.length_set];exact eD,fun j hj=>?_,f2.comp f3 fun k U ⟨a,ha,e⟩=>by injection ha with ha;subst ha;dsimp only at e;omega⟩,by omega⟩
  rw[List.getElem?_set]
  by_cases lh:i=j
  ·subst lh;rw[if_pos rfl,if_pos (by omega),Mj 8 M i yM]
  ·rw[if_neg lh];exact hall j (by omega)
 ·refine⟨(some ⟨w.heap.size,0,none⟩,8,8),rfl,?_,f2,fun k ⟨a,ha,e⟩=>by injection ha with ha;subst ha;dsimp only at e;omega⟩
  have:cs=o0 8 M:=by
   refine List.ext_getElem? fun j=>?_
   by_cases hj:j<8
   ·exact hall j (by omega)
   ·rw[List.getElem?_eq_none (by omega),List.getElem?_eq_none (by rw[FY];omega)]
  rw[hh,<- this];exact tH
theorem VS {w:World}{v:Sl}{bs:List UInt8}(h:aZ w v bs):Ret Tryz.prog 108 #[.slice v.1 v.2.1 v.2.2] w fun r w'=>r=.tuple #[.int .u64 (if bs.length=8 then(gF bs:Int) else 0),.bool (decide (bs.length=8))]/\w=w':=by
 refine c108 v.1 v.2.1 v.2.2 w _ ?_;unfold C108;have cM:=h.len;refine aa.ne (fun ay=>?_) (fun heq=>?_)
 ·rw[if_neg (by omega),decide_eq_false (by omega)];exact⟨rfl,rfl⟩
 ·rw[if_pos (by omega),decide_eq_true (by omega)]
  refine ab.of (zX h (by omega)) ?_;rintro _ _ ⟨rfl,rfl⟩;exact⟨_,rfl,rfl,rfl⟩
theorem VT {w:World}{v u:Sl}{bs cs:List UInt8}(h:aZ w v bs)(h':aZ w u cs):Ret Tryz.prog 48 #[.slice v.1 v.2.1 v.2.2,.slice u.1 u.2.1 u.2.2] w fun r w'=>r=.bool (bs==cs)/\w=w':=by
 refine c48 v.1 v.2.1 v.2.2 u.1 u.2.1 u.2.2 w _ ?_;unfold C48;refine ab.of (GC h h') ?_;rintro _ _ ⟨rfl,rfl⟩;exact⟨_,rfl,rfl,rfl⟩
theorem GQ:∃ ms,Tryz.prog.underlying 34=some (.interface ms):=⟨_,Tryz.underlying34⟩
def C155 (p0:Int)(w:World)(K:Value->World->Prop):Prop:=
 aa (decide (p0 >= 0))
 (K (.bool (decide (p0<=2147483647))) w)
 (K (.bool false) w)
def pl155:aB:=.auto
theorem c155 (p0:Int)(w:World)(K:Value->World->Prop)(h:C155 p0 w K):Ret Tryz.prog 155 #[.int .i64 p0] w K:=aC (by kernel_rfl) Tryz.func155 (p:=pl155) (Eq.mpr (by kernel_rfl) h)
def C156 (p0:bE)(w:World)(K:Value->World->Prop):Prop:=
 ak (.cells ((bP p0).toArray) 36) w (fun g1 w2=>ae .raw ((ad g1).add 7) w2 (fun(x3:Value)=>az Tryz.prog (do eqGuard .eql 34 (.tmp 4) (.const .nilIface) x3 .nilIface;binOp .eql 34 x3 .nilIface) w2 (.v (.one .bool)) (fun(x4:Bool) w5=>aa x4
 (ae (.int .i64) ((ad g1).add 0) w5 (fun(x6:Int)=>aa (x6==0)
 (ae .str ((ad g1).add 1) w5 (fun(x7:ByteArray)=>aa (x7.toList==(⟨#[]⟩:ByteArray).toList)
 (ae .str ((ad g1).add 2) w5 (fun(x8:ByteArray)=>aa (x8.toList==(⟨#[]⟩:ByteArray).toList)
 (ae .str ((ad g1).add 3) w5 (fun(x9:ByteArray)=>aa (x9.toList==(⟨#[]⟩:ByteArray).toList)
 (ae .str ((ad g1).add 4) w5 (fun(aR:ByteArray)=>aa (aR.toList==(⟨#[]⟩:ByteArray).toList)
 (ae (.int .i64) ((ad g1).add 5) w5 (fun(ba:Int)=>aa (ba==0)
 (ae (.int .i64) ((ad g1).add 6) w5 (fun(bt:Int)=>K (.bool (bt==0)) w5))
 (K (.bool false) w5)))
 (K (.bool false) w5)))
 (K (.bool false) w5)))
 (K (.bool false) w5)))
 (K (.bool false) w5)))
 (K (.bool false) w5)))
 (K (.bool false) w5))))
def pl156:aB:=.auto
theorem c156 (p0:bE)(w:World)(K:Value->World->Prop)(h:C156 p0 w K):Ret Tryz.prog 156 #[.agg (bP p0).toArray] w K:=aC (by kernel_rfl) Tryz.func156 (p:=pl156) (Eq.mpr (by kernel_rfl) h)
def C109 (p0:di)(w:World)(K:Value->World->Prop):Prop:=
 ak (.cells ((dv p0).toArray) 42) w (fun g1 w2=>cq (Bool×Unit) (fun J3=>ae (.int .i64) ((ad g1).add 0) w2 (fun(x6:Int)=>aa (x6 != 0)
 (ae (.int .i64) ((ad g1).add 0) w2 (fun(x7:Int)=>aa (x7 != 1)
 (J3 (true,()) w2)
 (ae (.int .i64) ((ad g1).add 1) w2 (fun(x8:Int)=>ab Tryz.prog 155 #[.int .i64 x8] w2 (.v (.one .bool)) (fun(x9:Bool) aG=>aa (!x9)
 (J3 (true,()) aG)
 (ae (.int .i64) ((ad g1).add 2) aG (fun(ba:Int)=>ab Tryz.prog 155 #[.int .i64 ba] aG (.v (.one .bool)) (fun(bt:Bool) aW=>aa (!bt)
 (J3 (true,()) aW)
 (ae (.int .i64) ((ad g1).add 4) aW (fun(bd:Int)=>ab Tryz.prog 155 #[.int .i64 bd] aW (.v (.one .bool)) (fun(bj:Bool) bn=>J3 ((!bj),()) bn)))))))))))
 (ae (.int .i64) ((ad g1).add 1) w2 (fun(aX:Int)=>ab Tryz.prog 155 #[.int .i64 aX] w2 (.v (.one .bool)) (fun(br:Bool) bx=>aa (!br)
 (J3 (true,()) bx)
 (ae (.int .i64) ((ad g1).add 2) bx (fun(cw:Int)=>ab Tryz.prog 155 #[.int .i64 cw] bx (.v (.one .bool)) (fun(bT:Bool) bN=>aa (!bT)
 (J3 (true,()) bN)
 (ae (.int .i64) ((ad g1).add 4) bN (fun(cr:Int)=>ab Tryz.prog 155 #[.int .i64 cr] bN (.v (.one .bool)) (fun(cj:Bool) dk=>J3 ((!cj),()) dk)))))))))))
 (fun _ s4 w5=>aa s4.1
 (K (.int .i64 1) w5)
 (cq (Bool×Unit) (fun zZ=>ae (.int .i64) ((ad g1).add 3) w5 (fun(cx:Int)=>aa (decide (cx<1))
 (zZ (true,()) w5)
 (ae (.int .i64) ((ad g1).add 3) w5 (fun(eg:Int)=>aa (decide (eg > 4))
 (zZ (true,()) w5)
 (ae .bool ((ad g1).add 6) w5 (fun(bZ:Bool)=>aa bZ
 (ae (.int .i64) ((ad g1).add 3) w5 (fun(dK:Int)=>aa (dK==1)
 (zZ (true,()) w5)
 (ae (.int .i64) ((ad g1).add 3) w5 (fun(dp:Int)=>zZ ((dp==3),()) w5))))
 (zZ (false,()) w5)))))))
 (fun _ VU bS=>aa VU.1
 (K (.int .i64 1) bS)
 (ae (.int .i64) ((ad g1).add 3) bS (fun(dj:Int)=>aa (dj==1)
 (aq dt ((ad g1).add 7) bS (fun(de:bE)=>ab Tryz.prog 70 #[.agg (bP de).toArray] bS (.v (.one (.int .i64))) (fun(eF:Int) dG=>K (.int .i64 eF) dG)))
 (aq dt ((ad g1).add 7) bS (fun(dF:bE)=>ab Tryz.prog 156 #[.agg (bP dF).toArray] bS (.v (.one .bool)) (fun(eP:Bool) dD=>aa (!eP)
 (K (.int .i64 1) dD)
 (K (.int .i64 0) dD))))))))))
def pl109:aB:=(.seq .auto (.seq (.block (.join [(3,.one .bool)] .auto (.cond .auto (.join [(30,.one .bool)] .auto .auto)))) .auto))
theorem c109 (p0:di)(w:World)(K:Value->World->Prop)(h:C109 p0 w K):Ret Tryz.prog 109 #[.agg (dv p0).toArray] w K:=aC (by kernel_rfl) Tryz.func109 (p:=pl109) (Eq.mpr (by kernel_rfl) h)
def C111 (p0:Bool)(w:World)(K:Value->World->Prop):Prop:=
 aa p0
 (K (.int .u8 1) w)
 (K (.int .u8 0) w)
def pl111:aB:=.auto
theorem c111 (p0:Bool)(w:World)(K:Value->World->Prop)(h:C111 p0 w K):Ret Tryz.prog 111 #[.bool p0] w K:=aC (by kernel_rfl) Tryz.func111 (p:=pl111) (Eq.mpr (by kernel_rfl) h)
def C52 (p0:di)(w:World)(K:Value->World->Prop):Prop:=
 ak (.cells ((dv p0).toArray) 42) w (fun g1 w2=>aq fK (ad g1) w2 (fun(x3:di)=>ab Tryz.prog 109 #[.agg (dv x3).toArray] w2 (.v (.one (.int .i64))) (fun(x4:Int) w5=>aa (x4 != 0)
 (K (.tuple #[.slice none 0 0,.int .i64 x4]) w5)
 (ae (.int .i64) ((ad g1).add 0) w5 (fun(x6:Int)=>az Tryz.prog (Instr.buildSlice 22 1 #[(0,.int .u8 (IntKind.u8.wrap x6))]) w5 (.v (.one .aj)) (fun(x7:an) w8=>aD w8 (fun w9=>aV (fun vq=>av vq ((ad g1).add 1) (ae (.int .i64) ((ad g1).add 1) w9 (fun(ba:Int)=>av vq ((ad g1).add 2) (ae (.int .i64) ((ad g1).add 2) w9 (fun(bt:Int)=>ab Tryz.prog 110 #[.int .i64 ba] w9 (.v (.one .aj)) (fun(bD:an) bm=>ai vq w9 bm (az Tryz.prog (Builtin.append_ #[22,22] 22 #[.slice x7.1 x7.2.1 x7.2.2,.slice bD.1 bD.2.1 bD.2.2]) bm (.v (.one .aj)) (fun(bj:an) bn=>ai vq bm bn (ab Tryz.prog 110 #[.int .i64 bt] bn (.v (.one .aj)) (fun(aX:an) bz=>ai vq bn bz (az Tryz.prog (Builtin.append_ #[22,22] 22 #[.slice bj.1 bj.2.1 bj.2.2,.slice aX.1 aX.2.1 aX.2.2]) bz (.v (.one .aj)) (fun(bu:an) bo=>ai vq bz bo (aD bo (fun bB=>aV (fun nf=>av nf ((ad g1).add 3) (ae (.int .i64) ((ad g1).add 3) bB (fun(cr:Int)=>av nf ((ad g1).add 4) (ae (.int .i64) ((ad g1).add 4) bB (fun(cj:Int)=>ai nf bB bB (az Tryz.prog (Instr.buildSlice 22 1 #[(0,.int .u8 (IntKind.u8.wrap cr))]) bB (.v (.one .aj)) (fun(bC:an) ct=>ai nf bB ct (az Tryz.prog (Builtin.append_ #[22,22] 22 #[.slice bu.1 bu.2.1 bu.2.2,.slice bC.1 bC.2.1 bC.2.2]) ct (.v (.one .aj)) (fun(cz:an) bS=>ai nf ct bS (ab Tryz.prog 110 #[.int .i64 cj] bS (.v (.one .aj)) (fun(cx:an) bO=>ai nf bS bO (az Tryz.prog (Builtin.append_ #[22,22] 22 #[.slice cz.1 cz.2.1 cz.2.2,.slice cx.1 cx.2.1 cx.2.2]) bO (.v (.one .aj)) (fun(bZ:an) cL=>ai nf bO cL (aD cL (fun dS=>aV (fun vr=>av vr ((ad g1).add 5) (ae (.int .u64) ((ad g1).add 5) dS (fun(de:Int)=>av vr ((ad g1).add 6) (ae .bool ((ad g1).add 6) dS (fun(eF:Bool)=>ab Tryz.prog 49 #[.int .u64 de] dS (.v (.one .aj)) (fun(gn:an) gu=>ai vr dS gu (az Tryz.prog (Builtin.append_ #[22,22] 22 #[.slice bZ.1 bZ.2.1 bZ.2.2,.slice gn.1 gn.2.1 gn.2.2]) gu (.v (.one .aj)) (fun(eP:an) dD=>ai vr gu dD (ab Tryz.prog 111 #[.bool eF] dD (.v (.one (.int .u8))) (fun(ek:Int) fM=>ai vr dD fM (az Tryz.prog (Instr.buildSlice 22 1 #[(0,.int .u8 ek)]) fM (.v (.one .aj)) (fun(jo:an) fw=>ai vr fM fw (az Tryz.prog (Builtin.append_ #[22,22] 22 #[.slice eP.1 eP.2.1 eP.2.2,.slice jo.1 jo.2.1 jo.2.2]) fw (.v (.one .aj)) (fun(gQ:an) iq=>ai vr fw iq (ae (.int .i64) ((ad g1).add 3) iq (fun(dA:Int)=>aa (dA != 1)
 (K (.tuple #[.slice gQ.1 gQ.2.1 gQ.2.2,.int .i64 0]) iq)
 (aq dt ((ad g1).add 7) iq (fun(gY:bE)=>ab Tryz.prog 33 #[.agg (bP gY).toArray] iq (.aN [.one .aj,.one (.int .i64)]) (fun(fu:an×Int×Unit) mA=>aa (fu.2.1 != 0)
 (K (.tuple #[.slice none 0 0,.int .i64 fu.2.1]) mA)
 (az Tryz.prog (Builtin.append_ #[22,22] 22 #[.slice gQ.1 gQ.2.1 gQ.2.2,.slice fu.1.1 fu.1.2.1 fu.1.2.2]) mA (.v (.one .aj)) (fun(js:an) gC=>K (.tuple #[.slice js.1 js.2.1 js.2.2,.int .i64 0]) gC)))))))))))))))))))))))))))))))))))))))))))))))))))))))))
def pl52:aB:=(.seq .auto (.seq .auto (.seq .auto (.seq (.held (.soft 0 (.soft 1 (.soft 2 (.soft 5 (.soft 6 (.pick 3 (.pick 4 (.pick 7 (.pick 8 (.soft 9 .done) .stop) .stop) .stop) .stop))))))) (.seq (.held (.soft 0 (.soft 1 (.soft 2 (.soft 6 (.soft 7 (.pick 3 (.pick 4 (.pick 5 (.pick 8 (.pick 9 (.soft 10 .done) .stop) .stop) .stop) .stop) .stop))))))) (.seq (.held (.soft 0 (.soft 1 (.soft 2 (.soft 5 (.soft 6 (.pick 3 (.pick 4 (.pick 7 (.pick 8 (.pick 9 (.soft 10 .done) .stop) .stop) .stop) .stop) .stop))))))) .auto))))))
theorem c52 (p0:di)(w:World)(K:Value->World->Prop)(h:C52 p0 w K):Ret Tryz.prog 52 #[.agg (dv p0).toArray] w K:=aC (by kernel_rfl) Tryz.func52 (p:=pl52) (Eq.mpr (by kernel_rfl) h)
def C24 (p0:List Value)(p1:di)(w:World)(K:Value->World->Prop):Prop:=
 ak (.cells p0.toArray 24) w (fun g1 w2=>ak (.cells ((dv p1).toArray) 42) w2 (fun g3 w4=>aq fK (ad g3) w4 (fun(x5:di)=>ab Tryz.prog 52 #[.agg (dv x5).toArray] w4 (.aN [.one .aj,.one (.int .i64)]) (fun(x6:an×Int×Unit) w7=>aa (x6.2.1 != 0)
 (K (.tuple #[.slice none 0 0,.int .i64 x6.2.1]) w7)
 (eI 16 (ad g1) w7 (fun x8=>ab Tryz.prog 50 #[.agg x8.toArray,.slice x6.1.1 x6.1.2.1 x6.1.2.2] w7 (.v (.one (.int .u64))) (fun(x9:Int) aG=>ab Tryz.prog 49 #[.int .u64 x9] aG (.v (.one .aj)) (fun(ba:an) aM=>az Tryz.prog (Builtin.append_ #[22,22] 22 #[.slice x6.1.1 x6.1.2.1 x6.1.2.2,.slice ba.1 ba.2.1 ba.2.2]) aM (.v (.one .aj)) (fun(bD:an) bm=>K (.tuple #[.slice bD.1 bD.2.1 bD.2.2,.int .i64 0]) bm)))))))))
def pl24:aB:=.auto
theorem c24 (p0:List Value)(p1:di)(w:World)(K:Value->World->Prop)(h:C24 p0 p1 w K):Ret Tryz.prog 24 #[.agg p0.toArray,.agg (dv p1).toArray] w K:=aC (by kernel_rfl) Tryz.func24 (p:=pl24) (Eq.mpr (by kernel_rfl) h)
def C51 (p0:Option Addr)(aH aP:Nat)(w:World)(K:Value->World->Prop):Prop:=
 ak (.cells #[.int .i64 0,.int .i64 0,.int .i64 0,.int .i64 0,.int .i64 0,.int .u64 0,.bool false,.int .i64 0,.string (⟨#[]⟩:ByteArray),.string (⟨#[]⟩:ByteArray),.string (⟨#[]⟩:ByteArray),.string (⟨#[]⟩:ByteArray),.int .i64 0,.int .i64 0,.nilIface] 42) w (fun g1 w2=>aD w2 (fun w3=>aV (fun S4=>bK p0 aH 0 1 (fun a5=>av S4 a5 (ae (.int .u8) a5 w3 (fun(x6:Int)=>bK p0 aH 17 1 (fun a7=>av S4 a7 (ae (.int .u8) a7 w3 (fun(x8:Int)=>bK p0 aH 34 1 (fun a9=>av S4 a9 (ae (.int .u8) a9 w3 (fun(aR:Int)=>ak (.cells #[.int .i64 0,.int .i64 0,.int .i64 0,.int .i64 0,.int .i64 0,.int .u64 0,.bool false,.int .i64 0,.string (⟨#[]⟩:ByteArray),.string (⟨#[]⟩:ByteArray),.string (⟨#[]⟩:ByteArray),.string (⟨#[]⟩:ByteArray),.int .i64 0,.int .i64 0,.nilIface] 42) w3 (fun g11 aM=>ai S4 w3 aM (ar (ad g11) [.int .i64 (IntKind.i64.wrap x6),.int .i64 0,.int .i64 0,.int .i64 (IntKind.i64.wrap x8),.int .i64 0,.int .u64 0,.bool (aR==1),.int .i64 0,.string (⟨#[]⟩:ByteArray),.string (⟨#[]⟩:ByteArray),.string (⟨#[]⟩:ByteArray),.string (⟨#[]⟩:ByteArray),.int .i64 0,.int .i64 0,.nilIface] aM (fun aW=>ai S4 aM aW (eX p0 aP 1 9 aP 1 (fun ED VV c16=>ab Tryz.prog 107 #[.slice ED VV c16] aW (.aN [.one (.int .i64),.one .bool]) (fun(aX:Int×Bool×Unit) bz=>aA ((ad g11).add 1) (.int .i64 aX.1) bz (fun bx=>eX p0 aP 9 17 aP 1 (fun a20 GN c22=>ab Tryz.prog 107 #[.slice a20 GN c22] bx (.aN [.one (.int .i64),.one .bool]) (fun(cr:Int×Bool×Unit) cm=>aA ((ad g11).add 2) (.int .i64 cr.1) cm (fun dk=>eX p0 aP 18 26 aP 1 (fun GR VW c28=>ab Tryz.prog 107 #[.slice GR VW c28] dk (.aN [.one (.int .i64),.one .bool]) (fun(cx:Int×Bool×Unit) bO=>aA ((ad g11).add 4) (.int .i64 cx.1) bO (fun fh=>eX p0 aP 26 34 aP 1 (fun VX VY c34=>ab Tryz.prog 108 #[.slice VX VY c34] fh (.aN [.one (.int .u64),.one .bool]) (fun(de:Int×Bool×Unit) cQ=>aA ((ad g11).add 5) (.int .u64 de.1) cQ (fun dG=>ae (.int .i64) ((ad g11).add 3) dG (fun(dF:Int)=>aa (dF==1)
 (eX p0 aP 35 aH aP 1 (fun VZ V4 c41=>ab Tryz.prog 93 #[.slice VZ V4 c41] dG (.aN [.agg dt,.one (.int .i64)]) (fun(iQ:bE×Int×Unit) kq=>ar ((ad g11).add 7) [.int .i64 iQ.1.1,.string iQ.1.2.1,.string iQ.1.2.2.1,.string iQ.1.2.2.2.1,.string iQ.1.2.2.2.2.1,.int .i64 iQ.1.2.2.2.2.2.1,.int .i64 iQ.1.2.2.2.2.2.2.1,iQ.1.2.2.2.2.2.2.2.1] kq (fun fw=>aq fK (ad g11) fw (fun(gQ:di)=>ar (ad g1) (dv gQ) fw (fun iq=>aq fK (ad g1) iq (fun(dA:di)=>K (.agg (dv dA).toArray) iq)))))))
 (aq fK (ad g11) dG (fun(gY:di)=>ar (ad g1) (dv gY) dG (fun tn=>aq fK (ad g1) tn (fun(gW:di)=>K (.agg (dv gW).toArray) tn)))))))))))))))))))))))))))))))))
def pl51:aB:=(.seq .auto (.seq (.held (.soft 0 (.soft 1 (.soft 2 (.soft 3 (.soft 4 (.soft 5 (.soft 6 (.soft 7 (.soft 8 (.soft 9 (.soft 10 (.soft 11 (.soft 12 (.pick 13 (.pick 14 .done .stop) .stop))))))))))))))) .auto))
theorem c51 (p0:Option Addr)(aH aP:Nat)(w:World)(K:Value->World->Prop)(h:C51 p0 aH aP w K):Ret Tryz.prog 51 #[.slice p0 aH aP] w K:=aC (by kernel_rfl) Tryz.func51 (p:=pl51) (Eq.mpr (by kernel_rfl) h)
def C14 (p0:List Value)(p1:Option Addr)(bY cE:Nat)(w:World)(K:Value->World->Prop):Prop:=
 ak (.cells p0.toArray 24) w (fun g1 w2=>ak (.cells #[.int .i64 0,.int .i64 0,.int .i64 0,.int .i64 0,.int .i64 0,.int .u64 0,.bool false,.int .i64 0,.string (⟨#[]⟩:ByteArray),.string (⟨#[]⟩:ByteArray),.string (⟨#[]⟩:ByteArray),.string (⟨#[]⟩:ByteArray),.int .i64 0,.int .i64 0,.nilIface] 42) w2 (fun g3 w4=>aa (decide ((bY:Int)<8))
 (ar (ad g3) [.int .i64 0,.int .i64 0,.int .i64 0,.int .i64 0,.int .i64 0,.int .u64 0,.bool false,.int .i64 0,.string (⟨#[]⟩:ByteArray),.string (⟨#[]⟩:ByteArray),.string (⟨#[]⟩:ByteArray),.string (⟨#[]⟩:ByteArray),.int .i64 0,.int .i64 0,.nilIface] w4 (fun w5=>aq fK (ad g3) w5 (fun(x6:di)=>K (.tuple #[.agg (dv x6).toArray,.int .i64 2]) w5)))
 (aD w4 (fun w7=>eX p1 cE 0 (IntKind.i64.wrap ((bY:Int) - 8)) cE 1 (fun a8 l9 c10=>eX p1 cE (IntKind.i64.wrap ((bY:Int) - 8)) bY cE 1 (fun Gl V5 c13=>eI 16 (ad g1) w7 (fun bd=>ab Tryz.prog 50 #[.agg bd.toArray,.slice a8 l9 c10] w7 (.v (.one (.int .u64))) (fun(bj:Int) bn=>ab Tryz.prog 49 #[.int .u64 bj] bn (.v (.one .aj)) (fun(aX:an) bz=>ab Tryz.prog 48 #[.slice Gl V5 c13,.slice aX.1 aX.2.1 aX.2.2] bz (.v (.one .bool)) (fun(bu:Bool) bo=>aa (!bu)
 (ar (ad g3) [.int .i64 0,.int .i64 0,.int .i64 0,.int .i64 0,.int .i64 0,.int .u64 0,.bool false,.int .i64 0,.string (⟨#[]⟩:ByteArray),.string (⟨#[]⟩:ByteArray),.string (⟨#[]⟩:ByteArray),.string (⟨#[]⟩:ByteArray),.int .i64 0,.int .i64 0,.nilIface] bo (fun bB=>aq fK (ad g3) bB (fun(bR:di)=>K (.tuple #[.agg (dv bR).toArray,.int .i64 12]) bB)))
 (aa (decide ((l9:Int)<35))
 (ar (ad g3) [.int .i64 0,.int .i64 0,.int .i64 0,.int .i64 0,.int .i64 0,.int .u64 0,.bool false,.int .i64 0,.string (⟨#[]⟩:ByteArray),.string (⟨#[]⟩:ByteArray),.string (⟨#[]⟩:ByteArray),.string (⟨#[]⟩:ByteArray),.int .i64 0,.int .i64 0,.nilIface] bo (fun cV=>aq fK (ad g3) cV (fun(cj:di)=>K (.tuple #[.agg (dv cj).toArray,.int .i64 2]) cV)))
 (ab Tryz.prog 51 #[.slice a8 l9 c10] bo (.v (.agg fK)) (fun(bC:di) ct=>ak (.cells #[.int .i64 0,.int .i64 0,.int .i64 0,.int .i64 0,.int .i64 0,.int .u64 0,.bool false,.int .i64 0,.string (⟨#[]⟩:ByteArray),.string (⟨#[]⟩:ByteArray),.string (⟨#[]⟩:ByteArray),.string (⟨#[]⟩:ByteArray),.int .i64 0,.int .i64 0,.nilIface] 42) ct (fun GS bS=>ar (ad GS) (dv bC) bS (fun et=>aq fK (ad GS) et (fun(eg:di)=>ab Tryz.prog 52 #[.agg (dv eg).toArray] et (.aN [.one .aj,.one (.int .i64)]) (fun(bZ:an×Int×Unit) cL=>aa (bZ.2.1 != 0)
 (ar (ad g3) [.int .i64 0,.int .i64 0,.int .i64 0,.int .i64 0,.int .i64 0,.int .u64 0,.bool false,.int .i64 0,.string (⟨#[]⟩:ByteArray),.string (⟨#[]⟩:ByteArray),.string (⟨#[]⟩:ByteArray),.string (⟨#[]⟩:ByteArray),.int .i64 0,.int .i64 0,.nilIface] cL (fun dS=>aq fK (ad g3) dS (fun(dj:di)=>K (.tuple #[.agg (dv dj).toArray,.int .i64 2]) dS)))
 (ab Tryz.prog 53 #[.slice bZ.1.1 bZ.1.2.1 bZ.1.2.2,.slice a8 l9 c10] cL (.v (.one .bool)) (fun(de:Bool) cQ=>aa (!de)
 (ar (ad g3) [.int .i64 0,.int .i64 0,.int .i64 0,.int .i64 0,.int .i64 0,.int .u64 0,.bool false,.int .i64 0,.string (⟨#[]⟩:ByteArray),.string (⟨#[]⟩:ByteArray),.string (⟨#[]⟩:ByteArray),.string (⟨#[]⟩:ByteArray),.int .i64 0,.int .i64 0,.nilIface] cQ (fun dG=>aq fK (ad g3) dG (fun(dF:di)=>K (.tuple #[.agg (dv dF).toArray,.int .i64 2]) dG)))
 (aq fK (ad GS) cQ (fun(eP:di)=>ar (ad g3) (dv eP) cQ (fun dD=>aq fK (ad g3) dD (fun(ek:di)=>K (.tuple #[.agg (dv ek).toArray,.int .i64 0]) dD)))))))))))))))))))))))
def pl14:aB:=(.seq .auto (.seq .auto (.seq .still .auto)))
theorem c14 (p0:List Value)(p1:Option Addr)(bY cE:Nat)(w:World)(K:Value->World->Prop)(h:C14 p0 p1 bY cE w K):Ret Tryz.prog 14 #[.agg p0.toArray,.slice p1 bY cE] w K:=aC (by kernel_rfl) Tryz.func14 (p:=pl14) (Eq.mpr (by kernel_rfl) h)
namespace Vc
theorem aq.off {cks:List Ck}{b o:Nat}{w:World}{K:Cs cks->Prop}{cs:Array Value}{T:TypeId}{fr:Nat×Nat}{x:Cs cks}(hb:w.heap[b]? = some (.cells cs T fr))(hx:∀ j,j<(Cs.vals cks x).length->cs[o+j]? = (Cs.vals cks x)[j]?)(h:K x):aq cks ((⟨b,0,none⟩:Addr).add o) w K:=
 ⟨x,xv (m:=o) _ 0 (nP hb _ o hx),h⟩
end Vc
abbrev kV:=Int×Int×Int×Int×Int×Int×Bool×dT
abbrev FK:List Ck:=[.int .i64,.int .i64,.int .i64,.int .i64,.int .i64,.int .u64,.bool,.int .i64,.str,.str,.str,.str,.int .i64,.int .i64,.raw]
def fR (f:kV):dT:=f.2.2.2.2.2.2.2
def dC (f:kV):List Value:=[.int .i64 f.1,.int .i64 f.2.1,.int .i64 f.2.2.1,.int .i64 f.2.2.2.1,.int .i64 f.2.2.2.2.1,.int .u64 f.2.2.2.2.2.1,.bool f.2.2.2.2.2.2.1,.int .i64 (fR f).1,.string (fR f).2.1,.string (fR f).2.2.1,.string (fR f).2.2.2.1,.string (fR f).2.2.2.2.1,.int .i64 (fR f).2.2.2.2.2.1,.int .i64 (fR f).2.2.2.2.2.2.1,(fR f).2.2.2.2.2.2.2.1]
def ly (f:kV):Value:=.agg (dC f).toArray
theorem GU {f:kV}(h:bI (fR f).2.2.2.2.2.2.2.1=true):(dC f).all bI=true:=by
 unfold dC;simp only[List.all_cons,List.all_nil,Bool.and_true,Bool.and_eq_true,h,and_true];exact⟨rfl,rfl,rfl,rfl,rfl,rfl,rfl,rfl,rfl,rfl,rfl,rfl,rfl,rfl⟩
def iS (n:Int):Bool:=decide (0<=n)&&decide (n<=2147483647)
def ss (e:dT):Bool:=gL e.2.2.2.2.2.2.2.1&&(e.1==0&&(iY e.2.1&&(iY e.2.2.1&&(iY e.2.2.2.1&&(iY e.2.2.2.2.1&&(e.2.2.2.2.2.1==0&&e.2.2.2.2.2.2.1==0))))))
def nx (f:kV):Bool:=(f.1==0||f.1==1)&&(iS f.2.1&&(iS f.2.2.1&&iS f.2.2.2.2.1))
def tI (f:kV):Bool:=decide (1<=f.2.2.2.1)&&(decide (f.2.2.2.1<=4)&&!(f.2.2.2.2.2.2.1&&(f.2.2.2.1==1||f.2.2.2.1==3)))
def kB (f:kV)(tr:Int):Int:=if nx f=false then 1 else if tI f=false then 1 else if f.2.2.2.1=1 then mm (fR f) tr else if ss (fR f)=false then 1 else 0
def rf (f:kV):List UInt8:=UInt8.ofNat (f.1 % 256).toNat::(cu f.2.1++(cu f.2.2.1++(UInt8.ofNat (f.2.2.2.1 % 256).toNat::(cu f.2.2.2.2.1++(gG f.2.2.2.2.2.1++[if f.2.2.2.2.2.2.1=true then 1 else 0])))))
def j3 (f:kV)(ts:List UInt8)(tr:Int):List UInt8×Int:=if kB f tr≠0 then([],kB f tr) else if f.2.2.2.1≠1 then(rf f,0) else(rf f++(iZ (fR f) ts tr).1,0)
def vt (kb:List UInt8)(f:kV)(ts:List UInt8)(tr:Int):List UInt8×Int:=if(j3 f ts tr).2≠0 then([],(j3 f ts tr).2) else((j3 f ts tr).1++gG (nq kb (j3 f ts tr).1),0)
theorem Aa (f:kV):(rf f).length=35:=by
 unfold rf;simp only[List.length_cons,List.length_append,iB,qa,List.length_nil]
theorem V6 (n:Int)(w:World):Ret Tryz.prog 155 #[.int .i64 n] w fun r w'=>r=.bool (iS n)/\w=w':=by
 refine c155 n w _ ?_;unfold iS;refine aa.dec (fun h=>?_) (fun h=>?_)
 ·rw[decide_eq_true (p:=0<=n) (by omega)];exact⟨rfl,rfl⟩
 ·rw[decide_eq_false (p:=0<=n) (by omega)];exact⟨rfl,rfl⟩
theorem GV (n:Int)(w:World){K:Bool->World->Prop}(h:K (iS n) w):ab Tryz.prog 155 #[.int .i64 n] w (.v (.one .bool)) (fun(x:Bool) w'=>K x w'):=by
 refine ab.of (V6 n w) ?_;rintro _ _ ⟨rfl,rfl⟩;exact⟨_,rfl,h⟩
theorem V7 (e:dT)(hT:pK e.2.2.2.2.2.2.2.1)(w:World):Ret Tryz.prog 156 #[gX e] w fun r w'=>r=.bool (ss e)/\Fr none1 w w':=by
 refine c156 e w _ ?_;unfold C156;refine ak.of fun g1 w1 df au f1 ka=>?_;unfold ss;refine ae.ah au (x:=e.2.2.2.2.2.2.2.1) rfl ?_;refine⟨gL e.2.2.2.2.2.2.2.1,w1,nil_eq GQ _ hT w1,?_⟩;refine aa.by (fun q=>?_) (fun q=>by rw[q];exact⟨rfl,f1⟩);rw[q,Bool.true_and];refine ae.ah au (x:=e.1) rfl ?_;refine aa.by (fun q=>?_) (fun q=>by rw[q];exact⟨rfl,f1⟩);rw[q,Bool.true_and];refine ae.ah au (x:=e.2.1) rfl ?_;refine aa.by (fun q=>?_) (fun q=>by rw[show iY e.2.1=false from q];exact⟨rfl,f1⟩);rw[show iY e.2.1=true from q,Bool.true_and];refine ae.ah au (x:=e.2.2.1) rfl ?_;refine aa.by (fun q=>?_) (fun q=>by rw[show iY e.2.2.1=false from q];exact⟨rfl,f1⟩);rw[show iY e.2.2.1=true from q,Bool.true_and];refine ae.ah au (x:=e.2.2.2.1) rfl ?_;refine aa.by (fun q=>?_) (fun q=>by rw[show iY e.2.2.2.1=false from q];exact⟨rfl,f1⟩);rw[show iY e.2.2.2.1=true from q,Bool.true_and];refine ae.ah au (x:=e.2.2.2.2.1) rfl ?_;refine aa.by (fun q=>?_) (fun q=>by rw[show iY e.2.2.2.2.1=false from q];exact⟨rfl,f1⟩);rw[show iY e.2.2.2.2.1=true from q,Bool.true_and];refine ae.ah au (x:=e.2.2.2.2.2.1) rfl ?_;refine aa.by (fun q=>?_) (fun q=>by rw[q];exact⟨rfl,f1⟩);rw[q,Bool.true_and];refine ae.ah au (x:=e.2.2.2.2.2.2.1) rfl ?_;exact⟨rfl,f1⟩
def vu (w:World)(x:Value)(ts:List UInt8)(tr:Int):Prop:=∀ w1,Fr none1 w w1->Ret Tryz.prog 132 #[x] w1 fun r w'=>r=.tuple #[.string (str ts),.int .i64 tr]/\Fr none1 w1 w'
theorem vu.ag {w w':World}{x:Value}{ts:List UInt8}{tr:Int}(h:vu w x ts tr)(f:Fr none1 w w'):vu w' x ts tr:=fun w1 f1=>h w1 (f.trans f1)
theorem Cu (t:Tm)(hn:aJ t<=1000000){w:World}(ht:TabW w):vu w t.v (bp t).1 (bp t).2:=fun w1 f=>BT t hn w1 (ht.af f)
theorem GW {w:World}{g:Nat}{f:kV}{T:TypeId}(hb:w.heap[g]? = some (.cells (dC f).toArray T (0,0))){K:dT->Prop}(k:K (fR f)):aq EK ((⟨g,0,none⟩:Addr).add 7) w K:=by
 refine aq.off (x:=fR f) hb (fun j hj=>?_) k
 match j,hj with
 | 0,_=>rfl
 | 1,_=>rfl
 | 2,_=>rfl
 | 3,_=>rfl
 | 4,_=>rfl
 | 5,_=>rfl
 | 6,_=>rfl
 | 7,_=>rfl
 | j+8,h=>exact absurd h (by show ¬ j+8<8;omega)
theorem M4 (f : kV)(hT : pK (fR f).2.2.2.2.2.2.2.1)(ts : List UInt8)(tr : Int)(w : World)(ht : vu w (fR f).2.2.2.2.2.2.2.1 ts tr):
    Ret Tryz.prog 109 #[ly f] w fun r w' => r = .int .i64 (kB f tr) /\ Fr none1 w w' := by
  refine c109 f w _ ?_;unfold C109;refine ak.of fun g1 w1 df au f1 ka => ?_;have au : w1.heap[g1]? = some (.cells (dC f).toArray 42 (0, 0)) := au;refine cq.of (fun s w' => s.1 = !(nx f) /\ w1 = w') ?_ ?_
  · have rest : (f.1 == 0 || f.1 == 1) = true -> ae (.int .i64) ((⟨g1, 0, none⟩ : Addr).add 1) w1 (fun(x8 : Int) => ab Tryz.prog 155 #[.int .i64 x8] w1 (.v (.one .bool)) (fun(x9 : Bool) aG => aa (!x9)
        ((true = !(nx f)) /\ w1 = aG)
        (ae (.int .i64) ((⟨g1, 0, none⟩ : Addr).add 2) aG (fun(ba : Int) => ab Tryz.prog 155 #[.int .i64 ba] aG (.v (.one .bool)) (fun(bt : Bool) aW => aa (!bt)
        ((true = !(nx f)) /\ w1 = aW)
        (ae (.int .i64) ((⟨g1, 0, none⟩ : Addr).add 4) aW (fun(bd : Int) => ab Tryz.prog 155 #[.int .i64 bd] aW (.v (.one .bool)) (fun(bj : Bool) bn => ((!bj) = !(nx f)) /\ w1 = bn))))))) ) := fun h0 => by
      unfold nx;rw[h0, Bool.true_and];refine ae.ah au (x := f.2.1) rfl (GV _ _ (aa.not (aa.by (fun q => ?_) (fun q => by rw[q]; exact⟨rfl, rfl⟩))));rw[q, Bool.true_and];refine ae.ah au (x := f.2.2.1) rfl (GV _ _ (aa.not (aa.by (fun q => ?_) (fun q => by rw[q]; exact⟨rfl, rfl⟩))));rw[q, Bool.true_and];exact ae.ah au (x := f.2.2.2.2.1) rfl (GV _ _ ⟨rfl, rfl⟩)
    refine ae.ah au (x := f.1) rfl ?_;refine aa.ne (fun h => ?_) (fun h => rest (by rw[h]; rfl));refine ae.ah au (x := f.1) rfl ?_;refine aa.ne (fun h' => ?_) (fun h' => rest (by rw[h']; rfl));refine⟨?_, rfl⟩;unfold nx;rw[beq_false_of_ne h, beq_false_of_ne h']; rfl
  rintro _ ⟨s, _⟩ _ ⟨hs, rfl⟩;dsimp only at hs ⊢;subst hs;unfold kB;refine aa.by (fun q => ?_) (fun q => ?_)
  · rw[if_pos (by simpa using q)]; exact⟨rfl, f1⟩
  rw[if_neg (by simpa using q)];refine cq.of (fun s w' => s.1 = !(tI f) /\ w1 = w') ?_ ?_
  · unfold tI
    refine ae.ah au (x := f.2.2.2.1) rfl ?_;refine aa.dec (fun h => ?_) (fun h => ?_)
    · rw[decide_eq_false (p := 1 <= f.2.2.2.1) (by omega)]; exact⟨rfl, rfl⟩
    rw[decide_eq_true (p := 1 <= f.2.2.2.1) (by omega), Bool.true_and];refine ae.ah au (x := f.2.2.2.1) rfl ?_;refine aa.dec (fun h => ?_) (fun h => ?_)
    · rw[decide_eq_false (p := f.2.2.2.1 <= 4) (by omega)]; exact⟨rfl, rfl⟩
    rw[decide_eq_true (p := f.2.2.2.1 <= 4) (by omega), Bool.true_and, Bool.not_not];refine ae.ah au (x := f.2.2.2.2.2.2.1) rfl ?_;refine aa.by (fun q => ?_) (fun q => by rw[q]; exact⟨rfl, rfl⟩);rw[q, Bool.true_and];refine ae.ah au (x := f.2.2.2.1) rfl ?_;refine aa.by (fun q => by rw[q]; exact⟨rfl, rfl⟩) (fun q => ?_);rw[q, Bool.false_or];exact ae.ah au (x := f.2.2.2.1) rfl ⟨rfl, rfl⟩
  rintro _ ⟨s, _⟩ _ ⟨hs, rfl⟩;dsimp only at hs ⊢;subst hs;refine aa.by (fun q => ?_) (fun q => ?_)
  · rw[if_pos (by simpa using q)]; exact⟨rfl, f1⟩
  rw[if_neg (by simpa using q)];refine ae.ah au (x := f.2.2.2.1) rfl ?_;refine aa.eq (fun h => ?_) (fun h => ?_)
  · rw[if_pos h]
    refine GW au ?_;refine ab.of (EM (fR f) hT tr w1 fun _ w2 f2 => (ht w2 (f1.trans f2)).mono fun r w' ⟨h, f⟩ => ⟨⟨_, h⟩, f⟩) ?_;rintro _ w2 ⟨rfl, f2⟩;exact⟨_, rfl, rfl, f1.trans f2⟩
  · rw[if_neg h]
    refine GW au ?_;refine ab.of (V7 (fR f) hT w1) ?_;rintro _ w2 ⟨rfl, f2⟩;refine⟨_, rfl, aa.not (aa.by (fun q => ?_) (fun q => ?_))⟩
    · rw[if_neg (by rw[q]; decide)]; exact⟨rfl, f1.trans f2⟩
    · rw[if_pos q]; exact⟨rfl, f1.trans f2⟩
theorem V8 (b:Bool)(w:World){K:Int->World->Prop}(h:∀ n:Int,Value.int .u8 n=bc (if b=true then 1 else 0)->K n w):ab Tryz.prog 111 #[.bool b] w (.v (.one (.int .u8))) (fun(x:Int) w'=>K x w'):=by
 refine ab.of (R:=fun r w'=>r=.int .u8 (if b=true then 1 else 0)/\w=w') ?_ ?_
 ·refine c111 b w _ ?_
  unfold C111;cases b
  ·exact aa.f rfl ⟨rfl,rfl⟩
  ·exact aa.t rfl ⟨rfl,rfl⟩
 ·rintro _ _ ⟨rfl,rfl⟩
  exact⟨_,rfl,h _ (by cases b<;>rfl)⟩
structure Own (w0 w:World)(v:Sl)(bs:List UInt8):Prop where
 is:cg w v bs
 lo:∀ k,aw v k->w0.heap.size<=k
theorem Own.af {w0 w w':World}{v:Sl}{bs:List UInt8}(h:Own w0 w v bs)(f:Fr none1 w w'):Own w0 w' v bs:=⟨h.is.af f,h.lo⟩
theorem Own.app {w0 w:World}{x:Sl}{xs:List UInt8}(hx:Own w0 w x xs)(h0:w0.heap.size<=w.heap.size){y:Sl}{ys:List UInt8}(hy:aZ w y ys)(hl:xs.length+ys.length<=140737488355000){K:(Option Addr×Nat×Nat)->World->Prop}
  (k:∀ (u:Sl) w',Own w0 w' u (xs++ys)->Fr (aw x) w w'->K u w') :
  az Tryz.prog (Builtin.append_ #[22,22] 22 #[.slice x.1 x.2.1 x.2.2,.slice y.1 y.2.1 y.2.2]) w (.v (.one .aj)) (fun(u:Option Addr×Nat×Nat) w'=>K u w'):=by
 obtain⟨u,w',hr,hu,f,uf⟩:=rK hx.is hy hl;refine⟨u,w',hr,k u w' ⟨hu,fun j hj=>?_⟩ f⟩
 rcases uf j hj with t | t
 ·exact hx.lo j t
 ·omega
theorem Ab {w:World}(c:UInt8){K:(Option Addr×Nat×Nat)->World->Prop}(k:∀ (u:Sl) w',cg w' u [c]->Fr none1 w w'->(∀ j,aw u j->w.heap.size<=j)->K u w'):
  az Tryz.prog (Instr.buildSlice 22 1 #[(0,bc c)]) w (.v (.one .aj)) (fun(u:Option Addr×Nat×Nat) w'=>K u w'):=by
 obtain⟨x,w',hr,hx,_,f,xf⟩:=rJ (P:=Tryz.prog) (w:=w) mR [bc c] (by simp[bc,Value.cells]) (by simp);exact⟨x,w',hr,k x w' hx f xf⟩
theorem GX (n:Int)(w:World){K:(Option Addr×Nat×Nat)->World->Prop}(k:∀ u w',cg w' u (cu n)->Fr none1 w w'->K u w'):ab Tryz.prog 110 #[.int .i64 n] w (.v (.one .aj)) (fun(x:Option Addr×Nat×Nat) w'=>K x w'):=by
 refine ab.of (Ko n w) ?_;rintro _ w1 ⟨u,rfl,hu,f1,uf⟩;exact⟨u,rfl,k u w1 hu f1⟩
theorem GY (n:Int)(h0:0<=n)(h1:n<18446744073709551616)(w:World){K:(Option Addr×Nat×Nat)->World->Prop}(k:∀ u w',cg w' u (gG n)->Fr none1 w w'->K u w'):ab Tryz.prog 49 #[.int .u64 n] w (.v (.one .aj)) (fun(x:Option Addr×Nat×Nat) w'=>K x w'):=by
 refine ab.of (M3 n h0 h1 w) ?_;rintro _ w1 ⟨u,rfl,hu,f1,uf⟩;exact⟨u,rfl,k u w1 hu f1⟩
theorem M5 (n:Int):Value.int .u8 (IntKind.u8.wrap n)=bc (UInt8.ofNat (n % 256).toNat):=by
 unfold bc;have h0:0<=n % 256:=Int.emod_nonneg _ (by decide);have h1:n % 256<256:=Int.emod_lt_of_pos _ (by decide);rw[oK (by omega)]
 congr 1
 simp[IntKind.wrap,IntKind.signed,IntKind.bits];omega
theorem M6 (f:kV)(hT:pK (fR f).2.2.2.2.2.2.2.1)(hz:pM (fR f))(hh:0<=f.2.2.2.2.2.1/\f.2.2.2.2.2.1<18446744073709551616)(ts:List UInt8)(jY:ts.length<=1000000)(tr:Int)(w:World)(ht:vu w (fR f).2.2.2.2.2.2.2.1 ts tr):
  Ret Tryz.prog 52 #[ly f] w fun r w'=>∃ v:Sl,r=.tuple #[.slice v.1 v.2.1 v.2.2,.int .i64 (j3 f ts tr).2]/\Own w w' v (j3 f ts tr).1/\Fr none1 w w':=by
 refine c52 f w _ ?_;unfold C52;refine ak.of fun g1 w1 df au f1 ka=>?_;have au:w1.heap[g1]? = some (.cells (dC f).toArray 42 (0,0)):=au;refine aq.aE (cks:=FK) (x:=f) au ?_;refine ab.of (M4 f hT ts tr w1 (ht.ag f1)) ?_;rintro _ w2 ⟨rfl,f2⟩;refine⟨_,rfl,?_⟩;have V9:∀ k,¬ aw ((none,0,0):Sl) k:=fun k ⟨a,ha,_⟩=>by cases ha
 unfold j3;refine aa.ne (fun ay=>?_) (fun he=>?_)
 ·rw[if_pos ay]
  exact⟨(none,0,0),rfl,⟨Ep w2,fun k U=>(V9 k U).elim⟩,f1.trans f2⟩
 rw[if_neg (fun t=>t he)];have b2:=f2.af au;have F:=f1.trans f2;refine ae.ah b2 (x:=f.1) rfl ?_;rw[M5];refine Ab _ fun x w3 hx f3 xf=>?_;have h0:=F.size;have F:=F.trans f3;have hx:Own w1 w3 x [UInt8.ofNat (f.1 % 256).toNat]:=⟨hx,fun k U=>by have:=xf k U;have:=f2.size;omega⟩;have b3:=f3.af b2;have hg:w.heap.size<=g1:=by omega
 have own:∀ {wa:World} {v:Sl} {bs:List UInt8},Own w1 wa v bs->∀ k,aw v k->k≠g1/\w.heap.size<=k:=fun h k U=>by have:=h.lo k U;omega
 have q1:∀ {wa:World},Fr none1 w wa->w1.heap.size<=wa.heap.size->∀ {v:Sl} {bs:List UInt8},Own w1 wa v bs->∀ {wb:World},Fr (aw v) wa wb->Fr none1 w wb:=fun F _ _ _ h _ f=>F.comp f fun k U t=>by have:=(own h k t).2;omega
 have ju:w1.heap.size<=w3.heap.size:=by have:=f2.size;have:=f3.size;omega
 refine aD.of fun w4 _ f4=>aV.of (fun k=>k=g1) (xD rfl (ae.ah (f4.af b3) (x:=f.2.1) rfl (xD rfl (ae.ah (f4.af b3) (x:=f.2.2.1) rfl ?_))));refine GX _ w4 fun n1 w5 Cv f5=>ai.of f5 ?_;have f35:=f4.trans f5;have hx:=hx.af f35;have b5:=f35.af b3;have F:=F.trans f35;have nS:w1.heap.size<=w5.heap.size:=by have:=f35.size;omega
 refine hx.app nS Cv.rd (by rw[iB];simp only[List.length_singleton];omega) fun y w6 hy f6=>ai.on f6 (fun k U t=>(own hx k t).1 U) ?_;have b6:=f6.ag b5 (fun t=>(own hx _ t).1 rfl);have F:=q1 F nS hx f6;have Wa:w1.heap.size<=w6.heap.size:=by have:=f6.size;omega
 clear hx b5 f35 f4 f5 Cv b3 f6;refine GX _ w6 fun n2 w7 kc f7=>ai.of f7 ?_;have hy:=hy.af f7;have b7:=f7.af b6;have F:=F.trans f7;have vo:w1.heap.size<=w7.heap.size:=by have:=f7.size;omega
 refine hy.app vo kc.rd (by rw[iB,List.length_append,iB,List.length_singleton];decide) fun z w8 vv f8=>ai.on f8 (fun k U t=>(own hy k t).1 U) ?_;have b8:=f8.ag b7 (fun t=>(own hy _ t).1 rfl);have F:=q1 F vo hy f8;have oL:w1.heap.size<=w8.heap.size:=by have:=f8.size;omega
 clear hy b7 f7 kc b6 f8;refine aD.of fun w9 _ f9=>aV.of (fun k=>k=g1) (xD rfl (ae.ah (f9.af b8) (x:=f.2.2.2.1) rfl (xD rfl (ae.ah (f9.af b8) (x:=f.2.2.2.2.1) rfl (ai.same ?_)))));rw[M5];refine Ab _ fun x2 aG tH f10 Wb=>ai.of f10 ?_;have qi:=f9.trans f10;have vv:=vv.af qi;have su:=qi.af b8;have F:=F.trans qi;have M7:w1.heap.size<=aG.heap.size:=by have:=qi.size;omega
 refine vv.app M7 tH.rd (by simp only[List.length_append,iB,List.length_singleton];decide) fun u aO hu f11=>ai.on f11 (fun k U t=>(own vv k t).1 U) ?_;have M8:=f11.ag su (fun t=>(own vv _ t).1 rfl);have F:=q1 F M7 vv f11;have ab8:w1.heap.size<=aO.heap.size:=by have:=f11.size;omega
 clear vv su qi tH Wb b8 f11 f9 f10;refine GX _ aO fun n3 aM M9 f12=>ai.of f12 ?_;have hu:=hu.af f12;have Na:=f12.af M8;have F:=F.trans f12;have Nb:w1.heap.size<=aM.heap.size:=by have:=f12.size;omega
 refine hu.app Nb M9.rd (by simp only[List.length_append,iB,List.length_singleton];decide) fun v aW hv f13=>ai.on f13 (fun k U t=>(own hu k t).1 U) ?_;have Cw:=f13.ag Na (fun t=>(own hu _ t).1 rfl);have F:=q1 F Nb hu f13;have ab9:w1.heap.size<=aW.heap.size:=by have:=f13.size;omega
 clear hu Na f12 M9 M8 f13;refine aD.of fun bm _ f14=>aV.of (fun k=>k=g1) (xD rfl (ae.ah (f14.af Cw) (x:=f.2.2.2.2.2.1) rfl (xD rfl (ae.ah (f14.af Cw) (x:=f.2.2.2.2.2.2.1) rfl ?_))));refine GY _ hh.1 hh.2 bm fun n4 bL Nc f15=>ai.of f15 ?_;have Ac:=f14.trans f15;have hv:=hv.af Ac;have Ad:=Ac.af Cw;have F:=F.trans Ac;have Nd:w1.heap.size<=bL.heap.size:=by have:=Ac.size;omega
 refine hv.app Nd Nc.rd (by simp only[List.length_append,iB,qa,List.length_singleton];decide) fun p bn hp f16=>ai.on f16 (fun k U t=>(own hv k t).1 U) ?_;have Nf:=f16.ag Ad (fun t=>(own hv _ t).1 rfl);have F:=q1 F Nd hv f16;have aca:w1.heap.size<=bn.heap.size:=by have:=f16.size;omega
 clear hv Ad Ac Nc Cw f16 f14 f15;refine V8 _ bn fun n hn=>ai.same ?_;rw[hn];refine Ab _ fun x3 b9 Ng f17 Wc=>ai.of f17 ?_;have hp:=hp.af f17;have GZ:=f17.af Nf;have F:=F.trans f17;have Nh:w1.heap.size<=b9.heap.size:=by have:=f17.size;omega
 refine hp.app Nh Ng.rd (by simp only[List.length_append,iB,qa,List.length_singleton];decide) fun r bz hr f18=>ai.on f18 (fun k U t=>(own hp k t).1 U) ?_;have Ni:=f18.ag GZ (fun t=>(own hp _ t).1 rfl);have F:=q1 F Nh hp f18;have acb:w1.heap.size<=bz.heap.size:=by have:=f18.size;omega
 clear hp GZ f17 Ng Wc Nf f18;have Wd:([UInt8.ofNat (f.1 % 256).toNat]++cu f.2.1++cu f.2.2.1++[UInt8.ofNat (f.2.2.2.1 % 256).toNat]++cu f.2.2.2.2.1++gG f.2.2.2.2.2.1++[if f.2.2.2.2.2.2.1=true then 1 else 0])=rf f:=by
  unfold rf;simp only[List.append_assoc,List.cons_append,List.nil_append]
 rw[Wd] at hr;have BY:=Aa f;have up:∀ {wa:World} {v:Sl} {bs:List UInt8},Own w1 wa v bs->Own w wa v bs:=fun h=>⟨h.is,fun k U=>(own h k U).2⟩;refine ae.ah Ni (x:=f.2.2.2.1) rfl ?_;refine aa.ne (fun ay=>?_) (fun rX=>?_)
 ·rw[if_pos ay]
  exact⟨r,rfl,up hr,F⟩
 rw[if_neg (fun t=>t rX)];have xF:(iZ (fR f) ts tr).2=0:=by
  unfold kB at he;split at he
  ·cases he
  split at he
  ·cases he
  first | rw[if_pos rX] at he | skip
  unfold iZ;rw[if_neg (fun t=>t he)]
 refine GW Ni ?_;refine ab.of (ET (fR f) hT hz ts jY tr bz fun _ wa fa=>ht wa (F.trans fa)) ?_;rintro _ bx ⟨q,rfl,hq,f19,qf⟩;refine⟨(q,(iZ (fR f) ts tr).2,()),rfl,?_⟩;dsimp only;refine aa.f (by rw[xF];rfl) ?_;have oh:=zL (fR f) hz ts jY tr;refine(hr.af f19).app (by have:=f19.size;omega) hq.rd (by omega) fun o bo ho f20=>?_;exact⟨o,rfl,up ho,q1 (F.trans f19) (by have:=f19.size;omega) (hr.af f19) f20⟩
theorem We (kb:List UInt8)(U:kb.length=16)(f:kV)(hT:pK (fR f).2.2.2.2.2.2.2.1)(hz:pM (fR f))(hh:0<=f.2.2.2.2.2.1/\f.2.2.2.2.2.1<18446744073709551616)(ts:List UInt8)(jY:ts.length<=1000000)(tr:Int)(w:World)(ht:vu w (fR f).2.2.2.2.2.2.2.1 ts tr):
  Ret Tryz.prog 24 #[.agg (cT kb).toArray,ly f] w fun r w'=>∃ v:Sl,r=.tuple #[.slice v.1 v.2.1 v.2.2,.int .i64 (vt kb f ts tr).2]/\Own w w' v (vt kb f ts tr).1/\Fr none1 w w':=by
 refine c24 (cT kb) f w _ ?_;unfold C24;refine ak.of fun g0 w0 GI se f0 _=>ak.of fun g1 w1 df au f1 ka=>?_;have au:w1.heap[g1]? = some (.cells (dC f).toArray 42 (0,0)):=au;have vw:=f0.trans f1;refine aq.aE (cks:=FK) (x:=f) au ?_;refine ab.of (M6 f hT hz hh ts jY tr w1 (ht.ag vw)) ?_;rintro _ w2 ⟨v,rfl,hv,f2⟩;refine⟨(v,(j3 f ts tr).2,()),rfl,?_⟩;have F:=vw.trans f2;have lj:(j3 f ts tr).1.length<=10000035:=by
  have:=zL (fR f) hz ts jY tr;have:=Aa f;unfold j3;split
  ·simp
  split
  ·dsimp only;omega
  ·dsimp only;rw[List.length_append];omega
 unfold vt;dsimp only;have Wf:=vw.size;refine aa.ne (fun ay=>?_) (fun he=>?_)
 ·rw[if_pos ay]
  exact⟨(none,0,0),rfl,⟨Ep w2,fun k ⟨a,ha,_⟩=>by cases ha⟩,F⟩
 rw[if_neg (fun t=>t he)];generalize(j3 f ts tr).1=bs at *;refine eI.of (f2.af (f1.af se)) (by simp[cT,U]) ?_;refine ab.of (GP U hv.is.rd hv.is.cap (by omega)) ?_;rintro _ w3 ⟨rfl,f3⟩;refine⟨_,rfl,?_⟩;have hr:=FZ kb bs;refine GY _ hr.1 hr.2 w3 fun u w4 hu f4=>?_;have f24:=f3.trans f4;have Wg:=f24.size;have s2:=f2.size;refine(hv.af f24).app (by omega) hu.rd (by rw[qa];omega) fun o w5 ho f5=>?_;exact⟨o,rfl,⟨ho.is,fun k U=>by have:=ho.lo k U;omega⟩,(F.trans f24).comp f5 fun k U t=>by have:=hv.lo k t;omega⟩
abbrev cc:=Int×Int×Int×Int×Int×Int×Bool×aT
def cc.f (m:cc):kV:=(m.1,m.2.1,m.2.2.1,m.2.2.2.1,m.2.2.2.2.1,m.2.2.2.2.2.1,m.2.2.2.2.2.2.1,m.2.2.2.2.2.2.2.e)
def cc.m (m:cc):aT:=m.2.2.2.2.2.2.2
def jx:cc:=(0,0,0,0,0,0,false,bb)
def kW (m:cc):List UInt8×Int:=j3 m.f (bp m.m.t).1 (bp m.m.t).2
def ib (kb:List UInt8)(m:cc):List UInt8×Int:=vt kb m.f (bp m.m.t).1 (bp m.m.t).2
def fk (bs:List UInt8)(a b:Nat):List UInt8:=(bs.drop a).take (b - a)
def ic (bs:List UInt8):cc:=
 (((bs.getD 0 0).toNat:Int),(gU (fk bs 1 9)).1,(gU (fk bs 9 17)).1,((bs.getD 17 0).toNat:Int),(gU (fk bs 18 26)).1,(gF (fk bs 26 34):Int),(bs.getD 34 0).toNat==1,
  if(bs.getD 17 0).toNat=1 then(fQ false (bs.drop 35)).1 else bb)
def iI (bs:List UInt8):List UInt8:=bs.take (bs.length - 8)
def xG (bs:List UInt8):List UInt8:=bs.drop (bs.length - 8)
def eR (kb bs:List UInt8):cc×Int:=
 if bs.length<8 then(jx,2) else if xG bs≠gG (nq kb (iI bs)) then(jx,12) else if(iI bs).length<35 then(jx,2)
 else if(kW (ic (iI bs))).2≠0\/(kW (ic (iI bs))).1≠iI bs then(jx,2) else(ic (iI bs),0)
theorem G1 {n:Int}(h:iS n=true):0<=n/\n<=2147483647:=by
 unfold iS at h;simp only[Bool.and_eq_true,decide_eq_true_eq] at h;exact h
theorem Cx {f:kV}{tr:Int}(h:kB f tr=0):(f.1=0\/f.1=1)/\(0<=f.2.1/\f.2.1<=2147483647)/\(0<=f.2.2.1/\f.2.2.1<=2147483647)/\(0<=f.2.2.2.2.1/\f.2.2.2.2.1<=2147483647)/\(1<=f.2.2.2.1/\f.2.2.2.1<=4) /\
  (f.2.2.2.1=1->mm (fR f) tr=0)/\(f.2.2.2.1≠1->ss (fR f)=true):=by
 unfold kB at h
 by_cases h1:nx f=false
 ·rw[if_pos h1] at h;cases h
 rw[if_neg h1] at h
 by_cases h2:tI f=false
 ·rw[if_pos h2] at h;cases h
 rw[if_neg h2] at h;have h1:nx f=true:=by simpa using h1
 have h2:tI f=true:=by simpa using h2
 unfold nx at h1;simp only[Bool.and_eq_true,Bool.or_eq_true,beq_iff_eq] at h1;obtain⟨a,b,c,d⟩:=h1;unfold tI at h2;rw[Bool.and_eq_true,Bool.and_eq_true,decide_eq_true_eq,decide_eq_true_eq] at h2;refine⟨a,G1 b,G1 c,G1 d,⟨h2.1,h2.2.1⟩,fun k=>?_,fun k=>?_⟩
 ·rw[if_pos k] at h;exact h
 ·rw[if_neg k] at h
  by_cases hn:ss (fR f)=false
  ·rw[if_pos hn] at h;cases h
  ·simpa using hn
theorem Wh {m:aT}(h:ss m.e=true):m=bb:=by
 unfold ss at h;simp only[Bool.and_eq_true,beq_iff_eq] at h;obtain⟨ht,h1,h2,h3,h4,h5,h6,h7⟩:=h;obtain⟨a1,a2,a3,a4,a5,a6,a7,a8⟩:=m;simp only[aT.e] at ht h1 h2 h3 h4 h5 h6 h7;rw[tA,decide_eq_true_eq] at h2 h3 h4 h5;obtain rfl:=xp ht;subst h1 h2 h3 h4 h5 h6 h7;rfl
theorem G2 {m:cc}{bs:List UInt8}(h:kW m=(bs,0)):kB m.f (bp m.m.t).2=0/\bs=rf m.f++(if m.2.2.2.1=1 then(du m.m).1 else[])/\(m.2.2.2.1=1->(du m.m).2=0):=by
 unfold kW j3 at h
 by_cases h0:kB m.f (bp m.m.t).2≠0
 ·rw[if_pos h0] at h;injection h with _ h;exact(h0 h).elim
 rw[if_neg h0] at h;have h0:kB m.f (bp m.m.t).2=0:=Classical.not_not.1 h0;refine⟨h0,?_,fun k=>?_⟩
 ·by_cases k:m.2.2.2.1=1
  ·rw[if_pos k]
   rw[if_neg (fun t=>t k)] at h;injection h with h _
   exact h.symm
  ·rw[if_neg k]
   rw[if_pos (show m.f.2.2.2.1≠1 from k)] at h;injection h with h _
   rw[<- h,List.append_nil]
 ·have:=(Cx h0).2.2.2.2.2.1 k
  show(iZ m.m.e _ _).2=0;unfold iZ;rw[if_neg (fun t=>t this)]
theorem Cy (a b c:List UInt8){i j:Nat}(hi:a.length=i)(hj:a.length+b.length=j):fk (a++(b++c)) i j=b:=by
 subst hi;subst hj;unfold fk;rw[List.drop_left,show a.length+b.length - a.length=b.length by omega,List.take_left]
theorem Nj (a:List UInt8)(x:UInt8)(c:List UInt8){i:Nat}(hi:a.length=i):(a++(x::c)).getD i 0=x:=by
 subst hi;rw[List.getD_eq_getElem?_getD,List.getElem?_append_right (Nat.le_refl _),Nat.sub_self];rfl
theorem Nk {n:Int}(h0:0<=n)(h1:n<=255):((UInt8.ofNat (n % 256).toNat).toNat:Int)=n:=by rw[oK (by omega)];omega
theorem Wi {m:cc}{bs:List UInt8}(hh:0<=m.2.2.2.2.2.1/\m.2.2.2.2.2.1<18446744073709551616)(h:kW m=(bs,0)):ic bs=m:=by
 obtain⟨hc,hb,hp⟩:=G2 h;obtain⟨c1,c2,c3,c4,c5,c6,c7⟩:=Cx hc;obtain⟨fr,ep,nu,ki,sl,he,fl,ev⟩:=m;simp only[cc.f,cc.m,fR] at hc hb hp c1 c2 c3 c4 c5 c6 c7 hh;obtain⟨T,hT⟩:∃ T,T=(if ki=1 then(du ev).1 else[]):=⟨_,rfl⟩;rw[<- hT] at hb;have F:=UInt8.ofNat (fr % 256).toNat;have e0:bs=[]++(UInt8.ofNat (fr % 256).toNat::(cu ep++(cu nu++(UInt8.ofNat (ki % 256).toNat::(cu sl++(gG he++([if fl=true then 1 else 0]++T))))))):=by
  rw[hb];unfold rf;simp only[List.cons_append,List.append_assoc,List.nil_append]
 have e1:bs=[UInt8.ofNat (fr % 256).toNat]++(cu ep++(cu nu++(UInt8.ofNat (ki % 256).toNat::(cu sl++(gG he++([if fl=true then 1 else 0]++T)))))):=by rw[e0];rfl
 have e9:bs=([UInt8.ofNat (fr % 256).toNat]++cu ep)++(cu nu++(UInt8.ofNat (ki % 256).toNat::(cu sl++(gG he++([if fl=true then 1 else 0]++T))))):=by rw[e1,List.append_assoc]
 have e17:bs=([UInt8.ofNat (fr % 256).toNat]++cu ep++cu nu)++(UInt8.ofNat (ki % 256).toNat::(cu sl++(gG he++([if fl=true then 1 else 0]++T)))):=by rw[e9,List.append_assoc ([UInt8.ofNat (fr % 256).toNat]++cu ep)]
 have e18:bs=([UInt8.ofNat (fr % 256).toNat]++cu ep++cu nu++[UInt8.ofNat (ki % 256).toNat])++(cu sl++(gG he++([if fl=true then 1 else 0]++T))):=by rw[e17,List.append_assoc ([UInt8.ofNat (fr % 256).toNat]++cu ep++cu nu)];rfl
 have e26:bs=([UInt8.ofNat (fr % 256).toNat]++cu ep++cu nu++[UInt8.ofNat (ki % 256).toNat]++cu sl)++(gG he++([if fl=true then 1 else 0]++T)):=by rw[e18,List.append_assoc ([UInt8.ofNat (fr % 256).toNat]++cu ep++cu nu++[UInt8.ofNat (ki % 256).toNat])]
 have e34:bs=([UInt8.ofNat (fr % 256).toNat]++cu ep++cu nu++[UInt8.ofNat (ki % 256).toNat]++cu sl++gG he)++((if fl=true then 1 else 0)::T):=by rw[e26,List.append_assoc ([UInt8.ofNat (fr % 256).toNat]++cu ep++cu nu++[UInt8.ofNat (ki % 256).toNat]++cu sl)];rfl
 have e35:bs.drop 35=T:=by
  rw[e34,show([UInt8.ofNat (fr % 256).toNat]++cu ep++cu nu++[UInt8.ofNat (ki % 256).toNat]++cu sl++gG he++((if fl=true then 1 else 0)::T))=([UInt8.ofNat (fr % 256).toNat]++cu ep++cu nu++[UInt8.ofNat (ki % 256).toNat]++cu sl++gG he++[if fl=true then 1 else 0])++T by rw[List.append_assoc _ [_] T];rfl];exact List.drop_left' (by simp only[List.length_append,iB,qa,List.length_singleton])
 have g0:bs.getD 0 0=UInt8.ofNat (fr % 256).toNat:=by rw[e0];rfl
 have g17:bs.getD 17 0=UInt8.ofNat (ki % 256).toNat:=by rw[e17];exact Nj _ _ _ (by simp only[List.length_append,iB,List.length_singleton])
 have uW:bs.getD 34 0=(if fl=true then 1 else 0):=by rw[e34];exact Nj _ _ _ (by simp only[List.length_append,iB,qa,List.length_singleton])
 have p1:fk bs 1 9=cu ep:=by rw[e1];exact Cy _ _ _ rfl (by rw[iB];rfl)
 have p9:fk bs 9 17=cu nu:=by rw[e9];exact Cy _ _ _ (by simp only[List.length_append,iB,List.length_singleton]) (by simp only[List.length_append,iB,List.length_singleton])
 have Wj:fk bs 18 26=cu sl:=by rw[e18];exact Cy _ _ _ (by simp only[List.length_append,iB,List.length_singleton]) (by simp only[List.length_append,iB,List.length_singleton])
 have Wk:fk bs 26 34=gG he:=by rw[e26];exact Cy _ _ _ (by simp only[List.length_append,iB,List.length_singleton]) (by simp only[List.length_append,iB,qa,List.length_singleton])
 have kb:((UInt8.ofNat (ki % 256).toNat).toNat:Int)=ki:=Nk (by omega) (by omega);have xF:(if(UInt8.ofNat (ki % 256).toNat).toNat=1 then(fQ false T).1 else bb)=ev:=by
  by_cases k:ki=1
  ·rw[if_pos (by omega),hT,if_pos k]
   have hp:=hp k;rw[Md false (m:=ev) (Prod.ext rfl hp)]
  ·rw[if_neg (by omega)]
   exact(Wh (c7 k)).symm
 have jI:(((if fl=true then 1 else 0:UInt8)).toNat==1)=fl:=by cases fl<;>rfl
 unfold ic;rw[g0,g17,uW,p1,p9,Wj,Wk,e35,xF,jI,kb,Nk (by rcases c1 with h | h<;>omega) (by rcases c1 with h | h<;>omega),Bt ep (by omega) (by omega),Bt nu (by omega) (by omega),Bt sl (by omega) (by omega),Uy he hh.1 hh.2]
theorem Wl {m:cc}{bs:List UInt8}(h:kW m=(bs,0)):35<=bs.length:=by
 rw[(G2 h).2.1,List.length_append,Aa];omega
theorem Wm {kb:List UInt8}{m:cc}{bs:List UInt8}(hh:0<=m.2.2.2.2.2.1/\m.2.2.2.2.2.1<18446744073709551616)(h:kW m=(bs,0)):eR kb (bs++gG (nq kb bs))=(m,0):=by
 have hl:(bs++gG (nq kb bs)).length=bs.length+8:=by rw[List.length_append,qa]
 have ht:iI (bs++gG (nq kb bs))=bs:=by unfold iI;rw[hl,Nat.add_sub_cancel,List.take_left]
 have hs:xG (bs++gG (nq kb bs))=gG (nq kb bs):=by unfold xG;rw[hl,Nat.add_sub_cancel,List.drop_left]
 have h35:=Wl h;unfold eR;rw[if_neg (by omega),ht,hs,if_neg (fun t=>t rfl),if_neg (by omega),Wi hh h,h,if_neg (by simp)]
def C252 (p0:Value)(w:World)(K:Value->World->Prop):Prop:=
 ao p0 222 (.agg [.int .i64]) (fun(x1:Int×Unit)=>K (.int .i64 1) w)
 (ao p0 300 (.agg [.str]) (fun(x2:ByteArray×Unit)=>K (.int .i64 2) w)
 (ao p0 302 (.agg [.raw,.raw]) (fun(x3:Value×Value×Unit)=>K (.int .i64 3) w)
 (ao p0 304 (.agg [.raw]) (fun(x4:Value×Unit)=>K (.int .i64 4) w)
 (ao p0 305 (.agg [.raw,.raw]) (fun(x5:Value×Value×Unit)=>K (.int .i64 5) w)
 (ao p0 306 (.agg [.raw,.raw]) (fun(x6:Value×Value×Unit)=>K (.int .i64 6) w)
 (K (.int .i64 0) w))))))
def pl252:aB:=.auto
theorem c252 (p0:Value)(w:World)(K:Value->World->Prop)(h:C252 p0 w K):Ret Tryz.prog 252 #[p0] w K:=aC (by kernel_rfl) Tryz.func252 (p:=pl252) (Eq.mpr (by kernel_rfl) h)
def C227 (p0:Value)(p1:Value)(w:World)(K:Value->World->Prop):Prop:=
 ab Tryz.prog 252 #[p0] w (.v (.one (.int .i64))) (fun(x1:Int) w2=>aa (x1==0)
 (K (.bool false) w2)
 (ab Tryz.prog 252 #[p0] w2 (.v (.one (.int .i64))) (fun(x3:Int) w4=>ab Tryz.prog 252 #[p1] w4 (.v (.one (.int .i64))) (fun(x5:Int) w6=>aa (x3 != x5)
 (K (.bool false) w6)
 (ao p0 222 (.agg [.int .i64]) (fun(x7:Int×Unit)=>ak (.cells #[.int .i64 0] 222) w6 (fun g8 w9=>ar (ad g8) [.int .i64 x7.1] w9 (fun aG=>aD aG (fun aO=>aq [.int .i64] (ad g8) aO (fun(bt:Int×Unit)=>ao p1 222 (.agg [.int .i64]) (fun(bD:Int×Unit)=>az Tryz.prog (do eqGuard .eql 222 (.tmp 25) (.tmp 27) (.agg #[.int .i64 bt.1]) (.agg #[.int .i64 bD.1]);binOp .eql 222 (.agg #[.int .i64 bt.1]) (.agg #[.int .i64 bD.1])) aO (.v (.one .bool)) (fun(bd:Bool) bL=>K (.bool bd) bL)) False)))))
 (ak (.cells #[.int .i64 0] 222) w6 (fun g16 b9=>ar (ad g16) [.int .i64 0] b9 (fun bz=>ao p0 300 (.agg [.str]) (fun(bu:ByteArray×Unit)=>ak (.cells #[.string (⟨#[]⟩:ByteArray)] 300) bz (fun g20 bB=>ar (ad g20) [.string bu.1] bB (fun bN=>aD bN (fun cV=>aq [.str] (ad g20) cV (fun(cj:ByteArray×Unit)=>ao p1 300 (.agg [.str]) (fun(bC:ByteArray×Unit)=>az Tryz.prog (do eqGuard .eql 300 (.tmp 35) (.tmp 37) (.agg #[.string cj.1]) (.agg #[.string bC.1]);binOp .eql 300 (.agg #[.string cj.1]) (.agg #[.string bC.1])) cV (.v (.one .bool)) (fun(cZ:Bool) eJ=>K (.bool cZ) eJ)) False)))))
 (ak (.cells #[.string (⟨#[]⟩:ByteArray)] 300) bz (fun G3 et=>ar (ad G3) [.string (⟨#[]⟩:ByteArray)] et (fun bO=>ab Tryz.prog 254 #[p0] bO (.v (.one .aj)) (fun(bZ:an) cL=>ab Tryz.prog 254 #[p1] cL (.v (.one .aj)) (fun(dp:an) gh=>ab Tryz.prog 253 #[.slice bZ.1 bZ.2.1 bZ.2.2,.slice dp.1 dp.2.1 dp.2.2,.func (.func 227) #[] #[]] gh (.v (.one .bool)) (fun(de:Bool) cQ=>K (.bool de) cQ))))))))))))))
def pl227:aB:=(.seq .auto (.seq .auto (.seq (.seq .auto (.seq .auto (.cond (.seq (.tail 3) .auto) .auto))) (.seq (.seq .auto (.seq .auto (.cond (.seq (.tail 3) .auto) .auto))) .auto))))
theorem c227 (p0:Value)(p1:Value)(w:World)(K:Value->World->Prop)(h:C227 p0 p1 w K):Ret Tryz.prog 227 #[p0,p1] w K:=aC (by kernel_rfl) Tryz.func227 (p:=pl227) (Eq.mpr (by kernel_rfl) h)
def C191 (p0:Value)(p1:Value)(w:World)(K:Value->World->Prop):Prop:=
 ab Tryz.prog 224 #[p0] w (.v (.one (.int .i64))) (fun(x1:Int) w2=>aa (x1==0)
 (K (.bool false) w2)
 (ab Tryz.prog 224 #[p0] w2 (.v (.one (.int .i64))) (fun(x3:Int) w4=>ab Tryz.prog 224 #[p1] w4 (.v (.one (.int .i64))) (fun(x5:Int) w6=>aa (x3 != x5)
 (K (.bool false) w6)
 (ab Tryz.prog 225 #[p0] w6 (.aN [.one .str,.one (.int .i64)]) (fun(x7:ByteArray×Int×Unit) w8=>ab Tryz.prog 225 #[p1] w8 (.aN [.one .str,.one (.int .i64)]) (fun(x9:ByteArray×Int×Unit) aG=>aa (!(x7.1.toList==x9.1.toList))
 (K (.bool false) aG)
 (aa (x7.2.1 != x9.2.1)
 (K (.bool false) aG)
 (ab Tryz.prog 226 #[p0] aG (.aN [.one .raw,.one .bool]) (fun(ba:Value×Bool×Unit) aM=>aa ba.2.1
 (ab Tryz.prog 226 #[p1] aM (.aN [.one .raw,.one .bool]) (fun(bD:Value×Bool×Unit) bm=>ab Tryz.prog 227 #[ba.1,bD.1] bm (.v (.one .bool)) (fun(bj:Bool) bn=>aa (!bj)
 (K (.bool false) bn)
 (ab Tryz.prog 229 #[p0] bn (.v (.one .aj)) (fun(aX:an) bz=>ab Tryz.prog 229 #[p1] bz (.v (.one .aj)) (fun(bu:an) bo=>ab Tryz.prog 228 #[.slice aX.1 aX.2.1 aX.2.2,.slice bu.1 bu.2.1 bu.2.2,.func (.func 191) #[] #[]] bo (.v (.one .bool)) (fun(bT:Bool) bN=>K (.bool bT) bN)))))))
 (ab Tryz.prog 229 #[p0] aM (.v (.one .aj)) (fun(cr:an) cm=>ab Tryz.prog 229 #[p1] cm (.v (.one .aj)) (fun(bC:an) ct=>ab Tryz.prog 228 #[.slice cr.1 cr.2.1 cr.2.2,.slice bC.1 bC.2.1 bC.2.2,.func (.func 191) #[] #[]] ct (.v (.one .bool)) (fun(cz:Bool) bS=>K (.bool cz) bS))))))))))))))
def pl191:aB:=.auto
theorem c191 (p0:Value)(p1:Value)(w:World)(K:Value->World->Prop)(h:C191 p0 p1 w K):Ret Tryz.prog 191 #[p0,p1] w K:=aC (by kernel_rfl) Tryz.func191 (p:=pl191) (Eq.mpr (by kernel_rfl) h)
def C253 (p0:Option Addr)(aH aP:Nat)(p1:Option Addr)(bY cE:Nat)(p2:Value)(w:World)(K:Value->World->Prop):Prop:=
 aa ((aH:Int) != (bY:Int))
 (K (.bool false) w)
 (bw (Int×Unit) (fun _ s1 w2 gm=>aa (decide (s1.1<(aH:Int)))
 (bK p0 aH s1.1 1 (fun a4=>ae .raw a4 w2 (fun(x5:Value)=>bK p1 bY s1.1 1 (fun a6=>ae .raw a6 w2 (fun(x7:Value)=>kI Tryz.prog p2 [x5,x7] (.v (.one .bool)) w2 (fun(x8:Bool) w9=>aa (!x8)
 (K (.bool false) w9)
 (gm (IntKind.i64.wrap (s1.1+1),()) w9)))))))
 (K (.bool true) w2))
 (0,()) w)
def pl253:aB:=(.seq .auto (.seq .auto (.seq (.seq .auto (.block (.loop [(17,.one (.int .i64))] .auto))) .auto)))
theorem c253 (p0:Option Addr)(aH aP:Nat)(p1:Option Addr)(bY cE:Nat)(p2:Value)(w:World)(K:Value->World->Prop)(h:C253 p0 aH aP p1 bY cE p2 w K):Ret Tryz.prog 253 #[.slice p0 aH aP,.slice p1 bY cE,p2] w K:=aC (by kernel_rfl) Tryz.func253 (p:=pl253) (Eq.mpr (by kernel_rfl) h)
def C228 (p0:Option Addr)(aH aP:Nat)(p1:Option Addr)(bY cE:Nat)(p2:Value)(w:World)(K:Value->World->Prop):Prop:=
 aa ((aH:Int) != (bY:Int))
 (K (.bool false) w)
 (bw (Int×Unit) (fun _ s1 w2 gm=>aa (decide (s1.1<(aH:Int)))
 (bK p0 aH s1.1 1 (fun a4=>ae .raw a4 w2 (fun(x5:Value)=>bK p1 bY s1.1 1 (fun a6=>ae .raw a6 w2 (fun(x7:Value)=>kI Tryz.prog p2 [x5,x7] (.v (.one .bool)) w2 (fun(x8:Bool) w9=>aa (!x8)
 (K (.bool false) w9)
 (gm (IntKind.i64.wrap (s1.1+1),()) w9)))))))
 (K (.bool true) w2))
 (0,()) w)
def pl228:aB:=(.seq .auto (.seq .auto (.seq (.seq .auto (.block (.loop [(17,.one (.int .i64))] .auto))) .auto)))
theorem c228 (p0:Option Addr)(aH aP:Nat)(p1:Option Addr)(bY cE:Nat)(p2:Value)(w:World)(K:Value->World->Prop)(h:C228 p0 aH aP p1 bY cE p2 w K):Ret Tryz.prog 228 #[.slice p0 aH aP,.slice p1 bY cE,p2] w K:=aC (by kernel_rfl) Tryz.func228 (p:=pl228) (Eq.mpr (by kernel_rfl) h)
def o8:Ob->Int
 | .none=>0
 | .const _=>1
 | .fix _=>2
 | .add _ _=>3
 | .neg _=>4
 | .mul _ _=>5
 | .max _ _=>6
def jy:Ob->Ob->Bool
 | .const n,.const m=>n==m
 | .fix s,.fix t=>s==t
 | .add a b,.add c d=>jy a c&&jy b d
 | .neg a,.neg c=>jy a c
 | .mul a b,.mul c d=>jy a c&&jy b d
 | .max a b,.max c d=>jy a c&&jy b d
 | _,_=>false
def iT:Tm->Tm->Bool
 | .zero,.zero=>true
 | .one s,.one t=>s==t
 | .gD a,.gD c=>iT a c
 | .and a b,.and c d=>iT a c&&iT b d
 | .or s a b,.or t c d=>s==t&&(iT a c&&iT b d)
 | .scale o a,.scale p c=>jy o p&&iT a c
 | .when n a,.when m c=>n==m&&iT a c
 | .cond o a b,.cond p c d=>jy o p&&(iT a c&&iT b d)
 | _,_=>false
theorem Wn (o:Ob)(h:cX o=true):jy o o=true:=by
 induction o<;>simp_all [jy,cX]
theorem Wo (t:Tm)(h:cI t=true):iT t t=true:=by
 induction t<;>simp_all [iT,cI,Wn]
theorem Wp (i j:Int)(o1 o2:Operand)(w:World):
  (do eqGuard .eql 222 o1 o2 (.agg #[.int .i64 i]) (.agg #[.int .i64 j]);binOp .eql 222 (.agg #[.int .i64 i]) (.agg #[.int .i64 j]):Sem Value).run Tryz.prog w=.ok (.bool (i==j)) w:=by
 have hf:∃ fs,Tryz.prog.underlying 222=some (.struct fs)/\Tryz.prog.fieldsOf 222=fs:=by
  unfold Program.fieldsOf;rw[Tryz.underlying222];exact⟨_,rfl,rfl⟩
 have hu:Tryz.prog.underlying 222=some (.struct (Tryz.prog.fieldsOf 222)):=by
  obtain⟨fs,h1,h2⟩:=hf;rw[h1,h2]
 rw[Sem.run_bind,run_eqGuard_agg w _ _ _ _ _ _ (show Tryz.prog.eqGuardType Tryz.prog.depth 222=false by kernel_rfl),Result.andThen_ok,run_eql_struct,run_equalIn_agg w _ _ _ _ hu (by kernel_rfl)];have hF : (Tryz.prog.fieldsOf 222).toList = [{ name := "N", type := 3, offset := 0, embedded := false, tag := "", pkgPath := "", byteOffset := 0 }] := by
  unfold Program.fieldsOf;rw[Tryz.underlying222]
 have p0:∀ (v:Value),(part 3 #[v] 0).run Tryz.prog w=.ok v w:=fun v=>by simp[part,isAgg,under Tryz.underlying3]
 rw[hF];have q1:(Op.equalIn 9999 3 (.int .i64 i) (.int .i64 j)).run Tryz.prog w=.ok (i==j) w:=run_equalIn_int w 9998 _ _ _ _ _ Tryz.underlying3;simp only[Op.eqFields, ne_eq, if_pos (show ¬ ("N" = "_") by decide), Sem.run_bind, p0, Result.andThen_ok, q1]
 by_cases lh:i=j
 ·subst lh;simp
 ·simp[lh]
theorem fix_eq (x y:ByteArray)(o1 o2:Operand)(w:World):
  (do eqGuard .eql 300 o1 o2 (.agg #[.string x]) (.agg #[.string y]);binOp .eql 300 (.agg #[.string x]) (.agg #[.string y]):Sem Value).run Tryz.prog w=.ok (.bool (x.toList==y.toList)) w:=by
 have hf:∃ fs,Tryz.prog.underlying 300=some (.struct fs)/\Tryz.prog.fieldsOf 300=fs:=by
  unfold Program.fieldsOf;rw[Tryz.underlying300];exact⟨_,rfl,rfl⟩
 have hu:Tryz.prog.underlying 300=some (.struct (Tryz.prog.fieldsOf 300)):=by
  obtain⟨fs,h1,h2⟩:=hf;rw[h1,h2]
 rw[Sem.run_bind,run_eqGuard_agg w _ _ _ _ _ _ (show Tryz.prog.eqGuardType Tryz.prog.depth 300=false by kernel_rfl),Result.andThen_ok,run_eql_struct,run_equalIn_agg w _ _ _ _ hu (by kernel_rfl)];have hF : (Tryz.prog.fieldsOf 300).toList = [{ name := "Name", type := 9, offset := 0, embedded := false, tag := "", pkgPath := "", byteOffset := 0 }] := by
  unfold Program.fieldsOf;rw[Tryz.underlying300]
 have p0:∀ (v:Value),(part 9 #[v] 0).run Tryz.prog w=.ok v w:=fun v=>by simp[part,isAgg,under Tryz.underlying9]
 rw[hF];have q1:(Op.equalIn 9999 9 (.string x) (.string y)).run Tryz.prog w=.ok (x.toList==y.toList) w:=run_equalIn_string w 9998 _ _ _ Tryz.underlying9;simp only[Op.eqFields, ne_eq, if_pos (show ¬ ("Name" = "_") by decide), Sem.run_bind, p0, Result.andThen_ok, q1]
 cases x.toList==y.toList<;>simp
theorem G4 (o:Ob)(w:World):Ret Tryz.prog 252 #[o.v] w fun r w'=>r=.int .i64 (o8 o)/\w=w':=by
 refine c252 o.v w _ ?_;cases o with
 | none=>exact ao.nil rfl (ao.nil rfl (ao.nil rfl (ao.nil rfl (ao.nil rfl (ao.nil rfl ⟨rfl,rfl⟩)))))
 | const n=>exact ao.hit (n,()) rfl ⟨rfl,rfl⟩
 | fix s=>exact ao.aL rfl (by decide) (ao.hit (str s,()) rfl ⟨rfl,rfl⟩)
 | add l r=>exact ao.aL rfl (by decide) (ao.aL rfl (by decide) (ao.hit (l.v,r.v,()) rfl ⟨rfl,rfl⟩))
 | neg x=>exact ao.aL rfl (by decide) (ao.aL rfl (by decide) (ao.aL rfl (by decide) (ao.hit (x.v,()) rfl ⟨rfl,rfl⟩)))
 | mul l r=>exact ao.aL rfl (by decide) (ao.aL rfl (by decide) (ao.aL rfl (by decide) (ao.aL rfl (by decide) (ao.hit (l.v,r.v,()) rfl ⟨rfl,rfl⟩))))
 | max l r=>exact ao.aL rfl (by decide) (ao.aL rfl (by decide) (ao.aL rfl (by decide) (ao.aL rfl (by decide) (ao.aL rfl (by decide) (ao.hit (l.v,r.v,()) rfl ⟨rfl,rfl⟩)))))
def kX {α β:Type}(f:α->β->Bool):List α->List β->Bool
 | [],[]=>true
 | a::l,b::m=>f a b&&kX f l m
 | _,_=>false
theorem G5 {α β:Type}(f:α->β->Bool):∀ (l:List α) (m:List β),l.length≠m.length->kX f l m=false
 | [],[],h=>absurd rfl h
 | [],_::_,_=>rfl
 | _::_,[],_=>rfl
 | a::l,b::m,h=>by unfold kX;rw[G5 f l m (by simpa using h),Bool.and_false]
theorem G6 {α β:Type}(f:α->β->Bool):∀ (l:List α) (m:List β) (i:Nat) (a:α) (b:β),l[i]? = some a->m[i]? = some b->kX f (l.take (i+1)) (m.take (i+1))=(kX f (l.take i) (m.take i)&&f a b)
 | [],_,i,a,b,h,_=>by simp at h
 | x::l,[],i,a,b,_,h=>by simp at h
 | x::l,y::m,0,a,b,h,k=>by simp at h k;subst h k;simp[kX]
 | x::l,y::m,i+1,a,b,h,k=>by
  have:=G6 f l m i a b (by simpa using h) (by simpa using k);simp only[List.take_succ_cons,kX];rw[this,Bool.and_assoc]
theorem G7 {α β:Type}(f:α->β->Bool):∀ (l:List α) (m:List β) (i:Nat) (a:α) (b:β),l[i]? = some a->m[i]? = some b->f a b=false->kX f l m=false
 | [],_,i,a,b,h,_,_=>by simp at h
 | x::l,[],i,a,b,_,h,_=>by simp at h
 | x::l,y::m,0,a,b,h,k,e=>by simp at h k;subst h k;simp[kX,e]
 | x::l,y::m,i+1,a,b,h,k,e=>by
  have:=G7 f l m i a b (by simpa using h) (by simpa using k) e;simp[kX,this]
theorem Wq {w:World}{u v:Sl}{l m:List Ob}(hu:lK w u l)(hv:lK w v m)(hl:l.length<=2){cb:Value}(f:Ob->Ob->Bool)
  (BO:∀ a∈l,∀ b∈m,∀ w K,(∀ w',Fr none1 w w'->K (f a b) w')->kI Tryz.prog cb [a.v,b.v] (.v (.one .bool)) w K) :
  Ret Tryz.prog 253 #[.slice u.1 u.2.1 u.2.2,.slice v.1 v.2.1 v.2.2,cb] w fun r w'=>r=.bool (kX f l m)/\Fr none1 w w':=by
 refine c253 _ _ _ _ _ _ cb w _ ?_;have dm:=hu.len;have cM:=hv.len;refine aa.ne (fun h=>?_) (fun h=>?_)
 ·rw[G5 f l m (by omega)];exact⟨rfl,Fr.refl _ _⟩
 refine bw.of (fun s w'=>∃ i:Nat,s.1=i/\i<=l.length/\kX f (l.take i) (m.take i)=true/\Fr none1 w w') (fun s _=>(2 - s.1).toNat) ⟨0,rfl,Nat.zero_le _,rfl,Fr.refl _ _⟩ ?_;rintro _ ⟨i',_⟩ w2 ⟨i,hi,ja,hall,f2⟩;dsimp only at hi ⊢;subst hi;refine aa.dec (fun aS=>?_) (fun dQ=>?_)
 ·have fB:i<l.length:=by omega
  have G8:i<m.length:=by omega
  obtain⟨a,ha⟩:∃ a,l[i]? = some a:=⟨_,List.getElem?_eq_getElem fB⟩;obtain⟨b,hb⟩:∃ b,m[i]? = some b:=⟨_,List.getElem?_eq_getElem G8⟩;refine(hu.af f2).ld ha ?_;refine(hv.af f2).ld hb ?_;refine BO a (List.mem_of_getElem? ha) b (List.mem_of_getElem? hb) _ _ fun w3 f3=>?_;refine aa.not (aa.by (fun e=>?_) (fun e=>?_))
  ·exact⟨⟨i+1,by rw[wI (by omega) (by omega)];omega,by omega,by rw[G6 f l m i a b ha hb,hall,e];rfl,f2.trans f3⟩,by rw[wI (by omega) (by omega)];omega⟩
  ·rw[G7 f l m i a b ha hb e];exact⟨rfl,f2.trans f3⟩
 ·have:i=l.length:=by omega
  subst this;rw[List.take_length,List.take_of_length_le (by omega)] at hall;rw[hall];exact⟨rfl,f2⟩
theorem Wr {w:World}{u v:Sl}{l m:List Tm}(hu:mZ w u l)(hv:mZ w v m)(hl:l.length<=2){cb:Value}(f:Tm->Tm->Bool)
  (BO:∀ a∈l,∀ b∈m,∀ w K,(∀ w',Fr none1 w w'->K (f a b) w')->kI Tryz.prog cb [a.v,b.v] (.v (.one .bool)) w K) :
  Ret Tryz.prog 228 #[.slice u.1 u.2.1 u.2.2,.slice v.1 v.2.1 v.2.2,cb] w fun r w'=>r=.bool (kX f l m)/\Fr none1 w w':=by
 refine c228 _ _ _ _ _ _ cb w _ ?_;have dm:=hu.len;have cM:=hv.len;refine aa.ne (fun h=>?_) (fun h=>?_)
 ·rw[G5 f l m (by omega)];exact⟨rfl,Fr.refl _ _⟩
 refine bw.of (fun s w'=>∃ i:Nat,s.1=i/\i<=l.length/\kX f (l.take i) (m.take i)=true/\Fr none1 w w') (fun s _=>(2 - s.1).toNat) ⟨0,rfl,Nat.zero_le _,rfl,Fr.refl _ _⟩ ?_;rintro _ ⟨i',_⟩ w2 ⟨i,hi,ja,hall,f2⟩;dsimp only at hi ⊢;subst hi;refine aa.dec (fun aS=>?_) (fun dQ=>?_)
 ·have fB:i<l.length:=by omega
  have G8:i<m.length:=by omega
  obtain⟨a,ha⟩:∃ a,l[i]? = some a:=⟨_,List.getElem?_eq_getElem fB⟩;obtain⟨b,hb⟩:∃ b,m[i]? = some b:=⟨_,List.getElem?_eq_getElem G8⟩;refine(hu.af f2).ld ha ?_;refine(hv.af f2).ld hb ?_;refine BO a (List.mem_of_getElem? ha) b (List.mem_of_getElem? hb) _ _ fun w3 f3=>?_;refine aa.not (aa.by (fun e=>?_) (fun e=>?_))
  ·exact⟨⟨i+1,by rw[wI (by omega) (by omega)];omega,by omega,by rw[G6 f l m i a b ha hb,hall,e];rfl,f2.trans f3⟩,by rw[wI (by omega) (by omega)];omega⟩
  ·rw[G7 f l m i a b ha hb e];exact⟨rfl,f2.trans f3⟩
 ·have:i=l.length:=by omega
  subst this;rw[List.take_length,List.take_of_length_le (by omega)] at hall;rw[hall];exact⟨rfl,f2⟩
theorem Ws (o:Ob):o8 o=0↔o=.none:=by cases o<;>simp[o8]
theorem Wt {a b:Ob}(h:o8 a≠o8 b):jy a b=false:=by cases a<;>cases b<;>simp_all [jy,o8]
theorem Wu {a b:Ob}(h0:o8 a≠0)(h:o8 a=o8 b)(hl:(oQ a).1=false):jy a b=kX jy (cS a) (cS b):=by
 cases a<;>cases b<;>simp_all [jy,o8,oQ,cS,kX]
theorem Nl (a b:Ob)(w:World):Ret Tryz.prog 227 #[a.v,b.v] w fun r w'=>r=.bool (jy a b)/\Fr none1 w w':=by
 have ih:∀ k∈cS a,∀ b w,Ret Tryz.prog 227 #[k.v,b.v] w fun r w'=>r=.bool (jy k b)/\Fr none1 w w':=fun k U b w=>Nl k b w;refine c227 a.v b.v w _ ?_;refine ab.of (G4 a w) ?_;rintro _ _ ⟨rfl,rfl⟩;refine⟨_,rfl,aa.eq (fun h=>?_) (fun h=>?_)⟩
 ·have:=(Ws a).1 h
  subst this;exact⟨by cases b<;>rfl,Fr.refl _ _⟩
 refine ab.of (G4 a w) ?_;rintro _ _ ⟨rfl,rfl⟩;refine⟨_,rfl,?_⟩;refine ab.of (G4 b w) ?_;rintro _ _ ⟨rfl,rfl⟩;refine⟨_,rfl,aa.ne (fun U=>?_) (fun U=>?_)⟩
 ·rw[Wt U];exact⟨rfl,Fr.refl _ _⟩
 have deep:(oQ a).1=false->∀ w2,Fr none1 w w2 ->
   ab Tryz.prog 254 #[a.v] w2 (.v (.one .aj)) (fun(bZ:Option Addr×Nat×Nat) cL=>ab Tryz.prog 254 #[b.v] cL (.v (.one .aj)) (fun(dp:Option Addr×Nat×Nat) gh=>
   ab Tryz.prog 253 #[.slice bZ.1 bZ.2.1 bZ.2.2,.slice dp.1 dp.2.1 dp.2.2,.func (.func 227) #[] #[]] gh (.v (.one .bool)) (fun(de:Bool) cQ=>(Value.bool de)=.bool (jy a b)/\Fr none1 w cQ))):=fun hl w2 f2=>by
  refine ab.of (wU a w2) ?_;rintro _ w3 ⟨u,rfl,hu,f3⟩;refine⟨u,rfl,?_⟩;refine ab.of (wU b w3) ?_;rintro _ w4 ⟨v,rfl,hv,f4⟩;refine⟨v,rfl,?_⟩;refine ab.of (Wq (hu.af f4) hv (BJ a) jy fun x hx y hy w K hK=>?_) ?_
  ·refine l0 (by kernel_rfl) Tryz.func227 (by kernel_rfl) ((ih x hx y w).mono ?_)
   rintro _ w' ⟨rfl,f⟩;exact⟨_,rfl,hK w' f⟩
  ·rintro _ w5 ⟨rfl,f5⟩
   exact⟨_,rfl,by rw[Wu h U hl],((f2.trans f3).trans f4).trans f5⟩
 cases a with
 | none=>exact absurd rfl h
 | const n=>
  cases b<;>simp only[o8] at U<;>try (exact absurd U (by decide))
  rename_i m;refine ao.hit (n,()) rfl (cK (zs:=[.int .i64 0]) (vs:=[.int .i64 n]) rfl rfl fun g w1 hg hb f1=>?_);refine aD.of fun w2 _ f2=>?_;refine aq.aE (cks:=[.int .i64]) (x:=(n,())) (f2.af hb) ?_;refine ao.hit (m,()) rfl ?_;exact⟨_,w2,Wp n m _ _ w2,rfl,f1.trans f2⟩
 | fix s=>
  cases b<;>simp only[o8] at U<;>try (exact absurd U (by decide))
  rename_i t;refine ao.aL rfl (by decide) (mq (zs:=[.int .i64 0]) (vs:=[.int .i64 0]) rfl rfl fun w0 f0=>?_);refine ao.hit (str s,()) rfl (cK (zs:=[.string (⟨#[]⟩:ByteArray)]) (vs:=[.string (str s)]) rfl rfl fun g w1 hg hb f1=>?_);refine aD.of fun w2 _ f2=>?_;refine aq.aE (cks:=[.str]) (x:=(str s,())) (f2.af hb) ?_;refine ao.hit (str t,()) rfl ?_;refine⟨_,w2,fix_eq _ _ _ _ w2,?_,(f0.trans f1).trans f2⟩;show Value.bool _=.bool (s==t);dsimp only;rw[iW]
  by_cases e:s=t<;>simp[e]
 | add l r=>exact ao.aL rfl (by decide) (mq (zs:=[.int .i64 0]) (vs:=[.int .i64 0]) rfl rfl fun w1 f1=>ao.aL rfl (by decide) (mq (zs:=[.string (⟨#[]⟩:ByteArray)]) (vs:=[.string (⟨#[]⟩:ByteArray)]) rfl rfl fun w2 f2=>deep rfl w2 (f1.trans f2)))
 | neg x=>exact ao.aL rfl (by decide) (mq (zs:=[.int .i64 0]) (vs:=[.int .i64 0]) rfl rfl fun w1 f1=>ao.aL rfl (by decide) (mq (zs:=[.string (⟨#[]⟩:ByteArray)]) (vs:=[.string (⟨#[]⟩:ByteArray)]) rfl rfl fun w2 f2=>deep rfl w2 (f1.trans f2)))
 | mul l r=>exact ao.aL rfl (by decide) (mq (zs:=[.int .i64 0]) (vs:=[.int .i64 0]) rfl rfl fun w1 f1=>ao.aL rfl (by decide) (mq (zs:=[.string (⟨#[]⟩:ByteArray)]) (vs:=[.string (⟨#[]⟩:ByteArray)]) rfl rfl fun w2 f2=>deep rfl w2 (f1.trans f2)))
 | max l r=>exact ao.aL rfl (by decide) (mq (zs:=[.int .i64 0]) (vs:=[.int .i64 0]) rfl rfl fun w1 f1=>ao.aL rfl (by decide) (mq (zs:=[.string (⟨#[]⟩:ByteArray)]) (vs:=[.string (⟨#[]⟩:ByteArray)]) rfl rfl fun w2 f2=>deep rfl w2 (f1.trans f2)))
termination_by SizeOf.sizeOf a
decreasing_by exact BG U
theorem Wv {a b:Tm}(h:jb a≠jb b):iT a b=false:=by cases a<;>cases b<;>simp_all [iT,jb]
theorem Ww {a b:Tm}(h0:jb a≠0)(h:jb a=jb b):iT a b=(decide (ir a=ir b)&&((!(fC a).2||jy (fC a).1 (fC b).1)&&kX iT (db a) (db b))):=by
 cases a<;>cases b<;>simp_all [iT,jb,ir,fC,db,kX]<;>(try (rw[Bool.eq_iff_iff];simp))
theorem Nn (a b:Tm)(w:World):Ret Tryz.prog 191 #[a.v,b.v] w fun r w'=>r=.bool (iT a b)/\Fr none1 w w':=by
 have ih:∀ k∈db a,∀ b w,Ret Tryz.prog 191 #[k.v,b.v] w fun r w'=>r=.bool (iT k b)/\Fr none1 w w':=fun k U b w=>Nn k b w;refine c191 a.v b.v w _ ?_;refine ab.of (rR a w) ?_;rintro _ _ ⟨rfl,rfl⟩;refine⟨_,rfl,aa.eq (fun h=>?_) (fun h=>?_)⟩
 ·have:=(E6 a).1 h
  subst this;exact⟨by cases b<;>rfl,Fr.refl _ _⟩
 refine ab.of (rR a w) ?_;rintro _ _ ⟨rfl,rfl⟩;refine⟨_,rfl,?_⟩;refine ab.of (rR b w) ?_;rintro _ _ ⟨rfl,rfl⟩;refine⟨_,rfl,aa.ne (fun U=>?_) (fun U=>?_)⟩
 ·rw[Wv U];exact⟨rfl,Fr.refl _ _⟩
 have hP:=Ww h U;refine ab.of (E8 a w) ?_;rintro _ w1 ⟨rfl,f1⟩;refine⟨(str (ir a).1,(ir a).2,()),rfl,?_⟩;refine ab.of (E8 b w1) ?_;rintro _ w2 ⟨rfl,f2⟩;refine⟨(str (ir b).1,(ir b).2,()),rfl,?_⟩;dsimp only;have f12:=f1.trans f2;rw[iW];refine aa.not (aa.dec (fun h1=>?_) (fun h1=>?_))
 case refine_2=>
  rw[hP,decide_eq_false (fun t=>h1 (by rw[t]))];exact⟨rfl,f12⟩
 refine aa.ne (fun h2=>?_) (fun h2=>?_)
 ·rw[hP,decide_eq_false (fun t=>h2 (by rw[t]))];exact⟨rfl,f12⟩
 rw[decide_eq_true (Prod.ext h1 h2),Bool.true_and] at hP;have deep:∀ w2,Fr none1 w w2->(!(fC a).2||jy (fC a).1 (fC b).1)=true ->
   ab Tryz.prog 229 #[a.v] w2 (.v (.one .aj)) (fun(bZ:Option Addr×Nat×Nat) cL=>ab Tryz.prog 229 #[b.v] cL (.v (.one .aj)) (fun(dp:Option Addr×Nat×Nat) gh=>
   ab Tryz.prog 228 #[.slice bZ.1 bZ.2.1 bZ.2.2,.slice dp.1 dp.2.1 dp.2.2,.func (.func 191) #[] #[]] gh (.v (.one .bool)) (fun(de:Bool) cQ=>(Value.bool de)=.bool (iT a b)/\Fr none1 w cQ))):=fun w2 f2 hn=>by
  refine ab.of (za a w2) ?_;rintro _ w3 ⟨u,rfl,hu,f3,_⟩;refine⟨u,rfl,?_⟩;refine ab.of (za b w3) ?_;rintro _ w4 ⟨v,rfl,hv,f4,_⟩;refine⟨v,rfl,?_⟩;refine ab.of (Wr (hu.af f4) hv (BK a) iT fun x hx y hy w K hK=>?_) ?_
  ·refine l0 (by kernel_rfl) Tryz.func191 (by kernel_rfl) ((ih x hx y w).mono ?_)
   rintro _ w' ⟨rfl,f⟩;exact⟨_,rfl,hK w' f⟩
  ·rintro _ w5 ⟨rfl,f5⟩
   exact⟨_,rfl,by rw[hP,hn,Bool.true_and],((f2.trans f3).trans f4).trans f5⟩
 refine ab.of (BQ a w2) ?_;rintro _ w3 ⟨rfl,f3⟩;refine⟨(_,_,()),rfl,aa.by (fun e=>?_) (fun e=>?_)⟩
 ·have e:(fC a).2=true:=e
  refine ab.of (BQ b w3) ?_;rintro _ w4 ⟨rfl,f4⟩;refine⟨(_,_,()),rfl,?_⟩;refine ab.of (Nl (fC a).1 (fC b).1 w4) ?_;rintro _ w5 ⟨rfl,f5⟩;refine⟨_,rfl,aa.not (aa.by (fun e2=>?_) (fun e2=>?_))⟩
  ·exact deep w5 (((f12.trans f3).trans f4).trans f5) (by rw[e2];simp)
  ·rw[hP,e,e2];exact⟨rfl,((f12.trans f3).trans f4).trans f5⟩
 ·have e:(fC a).2=false:=e
  exact deep w3 (f12.trans f3) (by rw[e];rfl)
termination_by SizeOf.sizeOf a
decreasing_by exact BI U
def C149 (p0:bE)(p1:bE)(w:World)(K:Value->World->Prop):Prop:=
 ak (.cells ((bP p0).toArray) 36) w (fun g1 w2=>ak (.cells ((bP p1).toArray) 36) w2 (fun g3 w4=>cq (Bool×Unit) (fun J5=>ae .raw ((ad g1).add 7) w4 (fun(x8:Value)=>az Tryz.prog (do eqGuard .eql 34 (.tmp 7) (.const .nilIface) x8 .nilIface;binOp .eql 34 x8 .nilIface) w4 (.v (.one .bool)) (fun(x9:Bool) aG=>aa x9
 (ae .raw ((ad g3).add 7) aG (fun(ba:Value)=>az Tryz.prog (do eqGuard .eql 34 (.tmp 11) (.const .nilIface) ba .nilIface;binOp .eql 34 ba .nilIface) aG (.v (.one .bool)) (fun(bt:Bool) aW=>aa bt
 (J5 (true,()) aW)
 (ae .raw ((ad g1).add 7) aW (fun(bd:Value)=>ae .raw ((ad g3).add 7) aW (fun(bj:Value)=>ab Tryz.prog 191 #[bd,bj] aW (.v (.one .bool)) (fun(aQ:Bool) b9=>J5 (aQ,()) b9)))))))
 (ae .raw ((ad g1).add 7) aG (fun(br:Value)=>ae .raw ((ad g3).add 7) aG (fun(bu:Value)=>ab Tryz.prog 191 #[br,bu] aG (.v (.one .bool)) (fun(cw:Bool) bB=>J5 (cw,()) bB)))))))
 (fun _ s6 w7=>aa s6.1
 (ae (.int .i64) ((ad g1).add 0) w7 (fun(bR:Int)=>ae (.int .i64) ((ad g3).add 0) w7 (fun(cr:Int)=>aa (bR==cr)
 (ae .str ((ad g1).add 1) w7 (fun(cj:ByteArray)=>ae .str ((ad g3).add 1) w7 (fun(bC:ByteArray)=>aa (cj.toList==bC.toList)
 (ae .str ((ad g1).add 2) w7 (fun(cZ:ByteArray)=>ae .str ((ad g3).add 2) w7 (fun(cz:ByteArray)=>aa (cZ.toList==cz.toList)
 (ae .str ((ad g1).add 3) w7 (fun(eN:ByteArray)=>ae .str ((ad g3).add 3) w7 (fun(cx:ByteArray)=>aa (eN.toList==cx.toList)
 (ae .str ((ad g1).add 4) w7 (fun(eg:ByteArray)=>ae .str ((ad g3).add 4) w7 (fun(bZ:ByteArray)=>aa (eg.toList==bZ.toList)
 (ae (.int .i64) ((ad g1).add 5) w7 (fun(dK:Int)=>ae (.int .i64) ((ad g3).add 5) w7 (fun(dp:Int)=>aa (dK==dp)
 (ae (.int .i64) ((ad g1).add 6) w7 (fun(dj:Int)=>ae (.int .i64) ((ad g3).add 6) w7 (fun(de:Int)=>K (.bool (dj==de)) w7)))
 (K (.bool false) w7))))
 (K (.bool false) w7))))
 (K (.bool false) w7))))
 (K (.bool false) w7))))
 (K (.bool false) w7))))
 (K (.bool false) w7))))
 (K (.bool false) w7))))
def pl149:aB:=(.seq .auto (.join [(5,.one .bool)] .auto .auto))
theorem c149 (p0:bE)(p1:bE)(w:World)(K:Value->World->Prop)(h:C149 p0 p1 w K):Ret Tryz.prog 149 #[.agg (bP p0).toArray,.agg (bP p1).toArray] w K:=aC (by kernel_rfl) Tryz.func149 (p:=pl149) (Eq.mpr (by kernel_rfl) h)
def tJ (a b:aT):Bool:=((gL a.t.v&&gL b.t.v)||iT a.t b.t)&&(a.1==b.1&&(a.2.1==b.2.1&&(a.2.2.1==b.2.2.1&&(a.2.2.2.1==b.2.2.2.1&&(a.2.2.2.2.1==b.2.2.2.2.1&&(a.2.2.2.2.2.1==b.2.2.2.2.2.1&&a.2.2.2.2.2.2.1==b.2.2.2.2.2.2.1))))))
theorem No (t:Tm):pK t.v:=by cases t<;>first | (exact .inl rfl) | (exact .inr ⟨_,_,rfl⟩)
theorem Wx (a b : aT)(w : World): Ret Tryz.prog 149 #[gX a.e, gX b.e] w fun r w' => r = .bool (tJ a b) /\ Fr none1 w w' := by
  refine c149 a.e b.e w _ ?_;unfold C149;refine ak.of fun g1 w1 df au f1 ka => ak.of fun g3 w2 qe aU f2 gk => ?_;have au : w2.heap[g1]? = some (.cells #[.int .i64 a.1, .string (str a.2.1), .string (str a.2.2.1), .string (str a.2.2.2.1), .string (str a.2.2.2.2.1), .int .i64 a.2.2.2.2.2.1, .int .i64 a.2.2.2.2.2.2.1, a.t.v] 36 (0, 0)) := f2.af au;have aU : w2.heap[g3]? = some (.cells #[.int .i64 b.1, .string (str b.2.1), .string (str b.2.2.1), .string (str b.2.2.2.1), .string (str b.2.2.2.2.1), .int .i64 b.2.2.2.2.2.1, .int .i64 b.2.2.2.2.2.2.1, b.t.v] 36 (0, 0)) := aU;have f12 := f1.trans f2;refine cq.of (fun s w' => s.1 = ((gL a.t.v && gL b.t.v) || iT a.t b.t) /\ Fr none1 w2 w') ?_ ?_
  · have cmp : (gL a.t.v && gL b.t.v) = false -> ae .raw ((⟨g1, 0, none⟩ : Addr).add 7) w2 (fun(br : Value) => ae .raw ((⟨g3, 0, none⟩ : Addr).add 7) w2 (fun(bu : Value) => ab Tryz.prog 191 #[br, bu] w2 (.v (.one .bool)) (fun(cw : Bool) bB =>
        cw = ((gL a.t.v && gL b.t.v) || iT a.t b.t) /\ Fr none1 w2 bB))) := fun q => by
      refine ae.ah au (x := a.t.v) rfl (ae.ah aU (x := b.t.v) rfl ?_);refine ab.of (Nn a.t b.t w2) ?_;rintro _ w3 ⟨rfl, f3⟩;exact⟨_, rfl, by rw[q]; rfl, f3⟩
    refine ae.ah au (x := a.t.v) rfl ?_;refine⟨gL a.t.v, w2, nil_eq GQ _ (No _) w2, ?_⟩;refine aa.by (fun q => ?_) (fun q => cmp (by rw[q]; rfl));refine ae.ah aU (x := b.t.v) rfl ?_;refine⟨gL b.t.v, w2, nil_eq GQ _ (No _) w2, ?_⟩;refine aa.by (fun q' => ?_) (fun q' => cmp (by rw[q, q']; rfl));exact⟨by rw[q, q']; rfl, Fr.refl _ _⟩
  rintro _ ⟨s, _⟩ w3 ⟨hs, f3⟩;dsimp only at hs ⊢;have au := f3.af au;have aU := f3.af aU;have f13 := f12.trans f3;unfold tJ;rw[<- hs];refine aa.by (fun q => ?_) (fun q => by rw[q]; exact⟨rfl, f13⟩);rw[q, Bool.true_and];refine ae.ah au (x := a.1) rfl (ae.ah aU (x := b.1) rfl ?_);refine aa.by (fun q => ?_) (fun q => by rw[q]; exact⟨rfl, f13⟩);rw[q, Bool.true_and];refine ae.ah au (x := str a.2.1) rfl (ae.ah aU (x := str b.2.1) rfl ?_);rw[iW, <- Bool.beq_eq_decide_eq];refine aa.by (fun q => ?_) (fun q => by rw[q]; exact⟨rfl, f13⟩);rw[q, Bool.true_and];refine ae.ah au (x := str a.2.2.1) rfl (ae.ah aU (x := str b.2.2.1) rfl ?_);rw[iW, <- Bool.beq_eq_decide_eq];refine aa.by (fun q => ?_) (fun q => by rw[q]; exact⟨rfl, f13⟩);rw[q, Bool.true_and];refine ae.ah au (x := str a.2.2.2.1) rfl (ae.ah aU (x := str b.2.2.2.1) rfl ?_);rw[iW, <- Bool.beq_eq_decide_eq];refine aa.by (fun q => ?_) (fun q => by rw[q]; exact⟨rfl, f13⟩);rw[q, Bool.true_and];refine ae.ah au (x := str a.2.2.2.2.1) rfl (ae.ah aU (x := str b.2.2.2.2.1) rfl ?_);rw[iW, <- Bool.beq_eq_decide_eq];refine aa.by (fun q => ?_) (fun q => by rw[q]; exact⟨rfl, f13⟩);rw[q, Bool.true_and];refine ae.ah au (x := a.2.2.2.2.2.1) rfl (ae.ah aU (x := b.2.2.2.2.2.1) rfl ?_);refine aa.by (fun q => ?_) (fun q => by rw[q]; exact⟨rfl, f13⟩);rw[q, Bool.true_and];refine ae.ah au (x := a.2.2.2.2.2.2.1) rfl (ae.ah aU (x := b.2.2.2.2.2.2.1) rfl ?_);exact⟨rfl, f13⟩
theorem Wy {t:Tm}(h:jJ t=0):cI t=true:=by
 unfold jJ at h
 repeat' split at h
 all_goals first | (exact absurd h (by decide)) | skip
 rename_i h1 h2 h3 _;simpa using h1
theorem Wz {m:aT}{bs:List UInt8}(h:du m=(bs,0)):tJ m m=true:=by
 obtain⟨hc,_⟩:=Mc h;obtain⟨U,ho,_,_,_,_,ht⟩:=B8 hc;have key:((gL m.t.v&&gL m.t.v)||iT m.t m.t)=true:=by
  by_cases h2:m.e.1=2
  ·have hw:jJ m.t=0:=by
    have:=ht h2;unfold bp at this;split at this
    ·rename_i c;exact(c this).elim
    ·rename_i c;exact Classical.not_not.1 c
   rw[Wo m.t (Wy hw),Bool.or_true]
  ·have hn:cR m.e.1 84=false:=by
    unfold cR fS;rw[if_neg h2]
    repeat' split
    all_goals decide
   unfold mX at ho;rw[hn] at ho;simp only[Bool.or_false,Bool.and_eq_true] at ho;have hh:gL m.t.v=true:=ho.2.2;rw[hh];rfl
 unfold tJ;rw[key];simp
abbrev eW:=aT×Bool
def gj (x:eW):List UInt8×Int:=tE x.1.e (bp x.1.t).1 (bp x.1.t).2 x.2
def fm (kb:List UInt8)(h:Int)(x:eW):Int×Int:=if(gj x).2≠0 then(0,(gj x).2) else(nq kb (gG h++(gj x).1),0)
def ny (f:cc):Int:=kB f.f (bp f.m.t).2
structure PeerM where
 kb:List UInt8
 side:Int
 es:List eW
 hs:List Int
 cd:cG
 off:aT×Bool
 aY:aT×Bool
 wanted:Bool
 bG:Bool
 refused:Int
structure bV where
 dc:Bool
 cY:Bool
 bh:eW
 bM:aT
 drop:Bool
 wanted:Bool
 bG:Bool
 calm:Bool
 bJ:List cc
def bH:bV:=⟨false,false,(bb,false),bb,false,false,false,false,[]⟩
def xH:aT:=(1,[],[],[],[],0,0,.none)
def mE (kb:List UInt8)(side:Int):PeerM:=⟨kb,if side=0 then 0 else 1,[],[0],xu,(bb,false),(bb,false),false,false,0⟩
namespace PeerM
variable (p:PeerM)
def len:Int:=p.es.length
def head:Int:=p.hs.getD p.es.length 0
def at_ (n:Int):Int×Bool:=if n<0\/(p.hs.length:Int)<=n then(0,false) else(p.hs.getD n.toNat 0,true)
def owner (n:Int):Int:=if n % 2=0 then 0 else 1
def full:Bool:=decide (64<=p.es.length)
def fr (kind slot head:Int)(flag:Bool)(m:aT):cc:=(0,0,0,kind,slot,head,flag,m)
def eS (kind:Int)(flag:Bool)(m:aT):cc:=fr kind p.len p.head flag m
def offer (m:aT):PeerM×Int:=
 if p.bG=true then(p,13) else if p.off.2=true\/(p.aY.2=true/\p.aY.1.kind≠1) then(p,9) else if p.full=true then(p,5) else
 if jf p.cd m p.side≠0 then(p,jf p.cd m p.side) else({ p with off:=(m,true) },0)
def kC (m:aT):bV:=if jf p.cd m p.side≠0 then{ bH with drop:=true } else{ bH with cY:=true,bM:=m,bJ:=[p.eS 1 false m] }
def tick:bV:=
 if p.bG=true then{ bH with bJ:=[p.eS 4 true bb] } else if p.full=true then bH else
 if p.aY.2=true then{ bH with bJ:=[p.eS 1 false p.aY.1] } else
 if owner p.len=p.side/\p.off.2=true then p.kC p.off.1 else if owner p.len=p.side/\p.wanted=true then p.kC xH else
 if owner p.len≠p.side/\p.off.2=true then{ bH with bJ:=[p.eS 3 false bb] } else bH
def qj (n head:Int):Bool:=((p.at_ n).2&&(p.at_ n).1 != head)||decide (p.len+1<n)
def lz (f:cc):bV:=
 { bH with bG:=p.qj f.2.2.2.2.1 f.2.2.2.2.2.1,calm:=!p.qj f.2.2.2.2.1 f.2.2.2.2.2.1&&(f.2.2.2.2.1==p.len&&p.bG),bJ:=if f.2.2.2.2.2.2.1=true then[p.eS 4 false bb] else[] }
def want (f:cc):bV:=if p.qj f.2.2.2.2.1 f.2.2.2.2.2.1=true then{ bH with bG:=true } else{ bH with wanted:=f.2.2.2.2.1==p.len&&owner f.2.2.2.2.1==p.side }
def fX (m:aT):Bool:=jf p.cd m (1 - p.side) != 0||(p.refused / 2 ^ m.kind.toNat) % 2==1
def lR (f:cc):bV:=
 if owner f.2.2.2.2.1=p.side\/p.qj f.2.2.2.2.1 f.2.2.2.2.2.1=true then{ bH with bG:=true } else
 if f.2.2.2.2.1<p.len then{ bH with bJ:=[fr 2 f.2.2.2.2.1 (p.at_ (f.2.2.2.2.1+1)).1 (p.es.getD f.2.2.2.2.1.toNat (bb,false)).2 bb] } else
 if p.len<f.2.2.2.2.1\/p.full=true then bH else
 if(fm p.kb p.head (f.m,p.fX f.m)).2≠0 then bH else
 { bH with dc:=true,bh:=(f.m,p.fX f.m),bJ:=[fr 2 f.2.2.2.2.1 (fm p.kb p.head (f.m,p.fX f.m)).1 (p.fX f.m) bb] }
def om (f:cc):bV:=
 if owner f.2.2.2.2.1≠p.side\/p.len<f.2.2.2.2.1 then{ bH with bG:=true } else
 if f.2.2.2.2.1<p.len then{ bH with bG:=(p.at_ (f.2.2.2.2.1+1)).1 != f.2.2.2.2.2.1 } else
 if p.aY.2=false then{ bH with bG:=true } else
 if(fm p.kb p.head (p.aY.1,f.2.2.2.2.2.2.1)).2≠0\/(fm p.kb p.head (p.aY.1,f.2.2.2.2.2.2.1)).1≠f.2.2.2.2.2.1 then{ bH with bG:=true } else
 { bH with dc:=true,bh:=(p.aY.1,f.2.2.2.2.2.2.1) }
def take (f:cc):bV:=
 if ny f≠0\/f.1=p.side then bH else if f.2.2.2.1=4 then p.lz f else if p.bG=true then bH else
 if f.2.2.2.1=3 then p.want f else if f.2.2.2.1=1 then p.lR f else p.om f
def entry (x:eW):PeerM×Int:=
 if 64<=p.es.length then(p,5) else if(fm p.kb p.head x).2≠0 then(p,(fm p.kb p.head x).2) else
 if x.2=false/\(iG p.cd x.1 (owner p.len)).2≠0 then(p,(iG p.cd x.1 (owner p.len)).2) else
 ({ p with es:=p.es++[x],hs:=p.hs++[(fm p.kb p.head x).1],cd:=if x.2=true then p.cd else(iG p.cd x.1 (owner p.len)).1,aY:=(bb,false),wanted:=false },0)
def kY (a:bV):PeerM:=if a.cY=true then{ p with aY:=(a.bM,true) } else p
def o9 (a:bV):Bool:=a.drop||(a.cY&&(p.off.2&&tJ p.off.1 a.bM))
def ended (a:bV):PeerM:=
 { p.kY a with off:=if p.o9 a=true then(bb,false) else p.off,wanted:=p.wanted||a.wanted,bG:=(p.bG||a.bG)&&!a.calm }
def bW (a:bV):PeerM×Int:=if a.dc=true then(if(p.entry a.bh).2≠0 then(p,(p.entry a.bh).2) else((p.entry a.bh).1.ended a,0)) else(p.ended a,0)
end PeerM
def C8 (p0:Int)(w:World)(K:Value->World->Prop):Prop:=
 ak (.cells #[.slice none 0 0,.int .i64 (if 65536<(if 0 > p0 then 0 else p0) then 65536 else(if 0 > p0 then 0 else p0)),.int .i64 0,.bool false,.int .i64 0,.bool false] 96) w (fun g1 w2=>K (.pointer (some (ad g1))) w2)
def pl8:aB:=.auto
theorem c8 (p0:Int)(w:World)(K:Value->World->Prop)(h:C8 p0 w K):Ret Tryz.prog 8 #[.int .i64 p0] w K:=aC (by kernel_rfl) Tryz.func8 (p:=pl8) (Eq.mpr (by kernel_rfl) h)
def C17 (p0:Addr)(w:World)(K:Value->World->Prop):Prop:=
 ae .aj (p0.add 0) w (fun(x1:an)=>ab Tryz.prog 54 #[.slice x1.1 x1.2.1 x1.2.2] w (.v (.one .aj)) (fun(x2:an) w3=>K (.slice x2.1 x2.2.1 x2.2.2) w3))
def pl17:aB:=.auto
theorem c17 (p0:Addr)(w:World)(K:Value->World->Prop)(h:C17 p0 w K):Ret Tryz.prog 17 #[.pointer (some p0)] w K:=aC (by kernel_rfl) Tryz.func17 (p:=pl17) (Eq.mpr (by kernel_rfl) h)
def C86 (p0:Addr)(w:World)(K:Value->World->Prop):Prop:=
 ae .bool (p0.add 5) w (fun(x1:Bool)=>K (.bool x1) w)
def pl86:aB:=.auto
theorem c86 (p0:Addr)(w:World)(K:Value->World->Prop)(h:C86 p0 w K):Ret Tryz.prog 86 #[.pointer (some p0)] w K:=aC (by kernel_rfl) Tryz.func86 (p:=pl86) (Eq.mpr (by kernel_rfl) h)
def C146 (p0:Addr)(w:World)(K:Value->World->Prop):Prop:=
 ae .bool (p0.add 3) w (fun(x1:Bool)=>aa x1
 (ae (.int .i64) (p0.add 4) w (fun(x2:Int)=>aa (x2==0)
 (aA (p0.add 5) (.bool true) w (fun w3=>K (.bool false) w3))
 (ae (.int .i64) (p0.add 4) w (fun(x4:Int)=>aA (p0.add 4) (.int .i64 (IntKind.i64.wrap (x4 - 1))) w (fun w5=>K (.bool true) w5)))))
 (ae (.int .i64) (p0.add 4) w (fun(x6:Int)=>aA (p0.add 4) (.int .i64 (IntKind.i64.wrap (x6 - 1))) w (fun w7=>K (.bool true) w7))))
def pl146:aB:=.auto
theorem c146 (p0:Addr)(w:World)(K:Value->World->Prop)(h:C146 p0 w K):Ret Tryz.prog 146 #[.pointer (some p0)] w K:=aC (by kernel_rfl) Tryz.func146 (p:=pl146) (Eq.mpr (by kernel_rfl) h)
def C94 (p0:Addr)(p1:Option Addr)(bY cE:Nat)(w:World)(K:Value->World->Prop):Prop:=
 ae .bool (p0.add 5) w (fun(x1:Bool)=>aa x1
 (K (.int .i64 11) w)
 (aD w (fun w2=>ae (.int .i64) (p0.add 1) w2 (fun(x3:Int)=>ae .aj (p0.add 0) w2 (fun(x4:an)=>aa (decide ((bY:Int) > (IntKind.i64.wrap (x3 - (x4.2.1:Int)))))
 (K (.int .i64 10) w2)
 (ab Tryz.prog 146 #[.pointer (some p0)] w2 (.v (.one .bool)) (fun(x5:Bool) w6=>aa (!x5)
 (K (.int .i64 11) w6)
 (ae .aj (p0.add 0) w6 (fun(x7:an)=>ab Tryz.prog 54 #[.slice x7.1 x7.2.1 x7.2.2] w6 (.v (.one .aj)) (fun(x8:an) w9=>az Tryz.prog (Builtin.append_ #[22,22] 22 #[.slice x8.1 x8.2.1 x8.2.2,.slice p1 bY cE]) w9 (.v (.one .aj)) (fun(aR:an) aO=>aA (p0.add 0) (.slice aR.1 aR.2.1 aR.2.2) aO (fun aM=>K (.int .i64 0) aM))))))))))))
def pl94:aB:=(.seq .auto (.seq (.block (.seq .auto (.cond .auto (.seq .still .auto)))) .auto))
theorem c94 (p0:Addr)(p1:Option Addr)(bY cE:Nat)(w:World)(K:Value->World->Prop)(h:C94 p0 p1 bY cE w K):Ret Tryz.prog 94 #[.pointer (some p0),.slice p1 bY cE] w K:=aC (by kernel_rfl) Tryz.func94 (p:=pl94) (Eq.mpr (by kernel_rfl) h)
def C96 (p0:Addr)(w:World)(K:Value->World->Prop):Prop:=
 ae .bool (p0.add 5) w (fun(x1:Bool)=>aa x1
 (K (.int .i64 11) w)
 (ab Tryz.prog 146 #[.pointer (some p0)] w (.v (.one .bool)) (fun(x2:Bool) w3=>aa (!x2)
 (K (.int .i64 11) w3)
 (ae .aj (p0.add 0) w3 (fun(x4:an)=>aA (p0.add 2) (.int .i64 (x4.2.1:Int)) w3 (fun w5=>K (.int .i64 0) w5))))))
def pl96:aB:=.auto
theorem c96 (p0:Addr)(w:World)(K:Value->World->Prop)(h:C96 p0 w K):Ret Tryz.prog 96 #[.pointer (some p0)] w K:=aC (by kernel_rfl) Tryz.func96 (p:=pl96) (Eq.mpr (by kernel_rfl) h)
def C88 (p0:Addr)(p1:Int)(w:World)(K:Value->World->Prop):Prop:=
 ae .bool (p0.add 5) w (fun(x1:Bool)=>aa x1
 (K (.int .i64 11) w)
 (aa (decide (p1<0))
 (K (.int .i64 1) w)
 (ae .aj (p0.add 0) w (fun(x2:an)=>aa (decide (p1 > (x2.2.1:Int)))
 (K (.int .i64 1) w)
 (ab Tryz.prog 146 #[.pointer (some p0)] w (.v (.one .bool)) (fun(x3:Bool) w4=>aa (!x3)
 (K (.int .i64 11) w4)
 (ae .aj (p0.add 0) w4 (fun(x5:an)=>eX x5.1 x5.2.2 0 p1 x5.2.2 1 (fun a6 l7 c8=>ab Tryz.prog 54 #[.slice a6 l7 c8] w4 (.v (.one .aj)) (fun(x9:an) aG=>aA (p0.add 0) (.slice x9.1 x9.2.1 x9.2.2) aG (fun aO=>aA (p0.add 2) (.int .i64 p1) aO (fun aM=>K (.int .i64 0) aM))))))))))))
def pl88:aB:=.auto
theorem c88 (p0:Addr)(p1:Int)(w:World)(K:Value->World->Prop)(h:C88 p0 p1 w K):Ret Tryz.prog 88 #[.pointer (some p0),.int .i64 p1] w K:=aC (by kernel_rfl) Tryz.func88 (p:=pl88) (Eq.mpr (by kernel_rfl) h)
def C54 (p0:Option Addr)(aH aP:Nat)(w:World)(K:Value->World->Prop):Prop:=
 aa (Option.isNone p0)
 (K (.slice none 0 0) w)
 (az Tryz.prog (Instr.buildSlice 22 0 #[]) w (.v (.one .aj)) (fun(x1:an) w2=>az Tryz.prog (Builtin.append_ #[22,22] 22 #[.slice x1.1 x1.2.1 x1.2.2,.slice p0 aH aP]) w2 (.v (.one .aj)) (fun(x3:an) w4=>K (.slice x3.1 x3.2.1 x3.2.2) w4)))
def pl54:aB:=.auto
theorem c54 (p0:Option Addr)(aH aP:Nat)(w:World)(K:Value->World->Prop)(h:C54 p0 aH aP w K):Ret Tryz.prog 54 #[.slice p0 aH aP] w K:=aC (by kernel_rfl) Tryz.func54 (p:=pl54) (Eq.mpr (by kernel_rfl) h)
theorem Cz {w:World}{v:Sl}{bs:List UInt8}(h:aZ w v bs)(hl:bs.length<=100000000):
  Ret Tryz.prog 54 #[.slice v.1 v.2.1 v.2.2] w fun r w'=>∃ u:Sl,r=.slice u.1 u.2.1 u.2.2/\cg w' u bs/\Fr none1 w w'/\∀ k,aw u k->w.heap.size<=k:=by
 refine c54 v.1 v.2.1 v.2.2 w _ ?_;refine aa.by (fun hn=>?_) (fun hn=>?_)
 ·obtain⟨_,_,he⟩:=h.2.1 (by simpa using hn)
  exact⟨(none,0,0),rfl,.inl ⟨rfl,he⟩,Fr.refl _ _,fun k ⟨a,ha,_⟩=>(by cases ha)⟩
 ·obtain⟨x,w1,hr,hx,kN,f1,hf⟩:=rJ (P:=Tryz.prog) (w:=w) mR [] (by simp) (by simp)
  refine⟨x,w1,hr,?_⟩;have cM:=h.len;obtain⟨u,w2,gb,hu,f2,pG⟩:=rK (xs:=[]) hx (h.af f1) (by simp;omega);refine⟨u,w2,gb,u,rfl,hu,f1.comp f2 (fun k U t=>?_),fun k U=>?_⟩
  ·have:=hf k t;omega
  ·rcases pG k U with t | t
   ·exact hf k t
   ·exact Nat.le_trans f1.size t
structure cp where
 b:List UInt8
 cF:Int
 synced:Int
 lit:Bool
 oo:Int
 dead:Bool
structure cp.Ok (s:cp):Prop where
 len:s.b.length<=65536
 q0:0<=s.cF
 q1:s.cF<=65536
 s0:0<=s.synced
 s1:s.synced<=s.b.length
structure ie (w:World)(b g:Nat)(s:cp):Prop where
 out:∃ sl:Sl,w.heap[b]? = some (.cells #[.slice sl.1 sl.2.1 sl.2.2,.int .i64 s.cF,.int .i64 s.synced,.bool s.lit,.int .i64 s.oo,.bool s.dead] 96 (0,0))/\cg w sl s.b/\∀ k,aw sl k->k=g/\k≠b
 pc:g<w.heap.size
 ok:s.Ok
theorem ie.ag {w w':World}{b g:Nat}{s:cp}(h:ie w b g s){S:Nat->Prop}(f:Fr S w w')(h1:¬ S b)(h2:¬ S g):ie w' b g s:=by
 obtain⟨⟨sl,hb,hs,hg⟩,gl,ok⟩:=h;exact⟨⟨sl,f.ag hb h1,hs.ag f (fun k U=>by rw[(hg k U).1];exact h2),hg⟩,Nat.lt_of_lt_of_le gl f.size,ok⟩
theorem ie.af {w w':World}{b g:Nat}{s:cp}(h:ie w b g s)(f:Fr none1 w w'):ie w' b g s:=h.ag f (fun t=>t) (fun t=>t)
theorem ie.lt {w:World}{b g:Nat}{s:cp}(h:ie w b g s):b<w.heap.size:=by
 obtain⟨⟨sl,hb,_⟩,_⟩:=h;exact bQ hb
def lA (w:World)(b g:Nat)(s':cp)(w':World):Prop:=Fr (only b) w w'/\∃ g',(g'=b\/g'=g\/w.heap.size<=g')/\ie w' b g' s'
theorem lA.pre {w0 w w':World}{b g:Nat}{s':cp}(f:Fr none1 w0 w)(h:lA w b g s' w'):lA w0 b g s' w':=by
 obtain⟨a,g',h1,h2⟩:=h;refine⟨f.eL a,g',?_,h2⟩
 rcases h1 with h | h | h
 ·exact .inl h
 ·exact .inr (.inl h)
 ·exact .inr (.inr (Nat.le_trans f.size h))
theorem lA.same {w w':World}{b g:Nat}{s:cp}(h:ie w b g s)(f:Fr none1 w w'):lA w b g s w':=⟨f.mono fun _ _ t=>t.elim,g,.inr (.inl rfl),h.af f⟩
theorem Np {w':World}{b n:Nat}{y:Sl}{bs:List UInt8}(aS:b<w'.heap.size)(uD:cg w' y bs)(hy:∀ k,aw y k->n<=k/\k≠b):∃ g',(g'=b\/n<=g')/\g'<w'.heap.size/\∀ k,aw y k->k=g'/\k≠b:=by
 cases CA:y.1 with
 | none=>exact⟨b,.inl rfl,aS,fun k ⟨a,ha,_⟩=>(by rw[CA] at ha;cases ha)⟩
 | some a=>
  have U:aw y a.block:=⟨a,CA,rfl⟩;refine⟨a.block,.inr (hy _ U).1,aF.lt uD U,fun k U=>⟨?_,(hy k U).2⟩⟩;obtain⟨a',ha,rfl⟩:=U;rw[CA] at ha;injection ha with ha;rw[ha]
def pd (q:Int):cp:={ b:=[],cF:=if 65536<(if 0 > q then 0 else q) then 65536 else(if 0 > q then 0 else q),synced:=0,lit:=false,oo:=0,dead:=false }
theorem Nq (q:Int):(pd q).Ok:=by
 unfold pd;refine⟨by simp,?_,?_,by simp,by simp⟩<;>dsimp only<;>repeat' split
 all_goals omega
theorem Nr (q:Int)(w:World):Ret Tryz.prog 8 #[.int .i64 q] w fun r w'=>∃ b,r=.pointer (some ⟨b,0,none⟩)/\w.heap.size<=b/\Fr none1 w w'/\ie w' b b (pd q):=by
 refine c8 q w _ (ak.of fun b w1 hg hb f hs=>⟨b,rfl,by omega,f,⟨⟨(none,0,0),hb,.inl ⟨rfl,rfl⟩,fun k ⟨a,ha,_⟩=>(by cases ha)⟩,by omega,Nq q⟩⟩)
theorem Ns {w:World}{b g:Nat}{s:cp}(h:ie w b g s):Ret Tryz.prog 86 #[.pointer (some ⟨b,0,none⟩)] w fun r w'=>r=.bool s.dead/\w=w':=by
 obtain⟨⟨sl,hb,_⟩,_⟩:=h;exact c86 _ w _ (ae.ah hb rfl ⟨rfl,rfl⟩)
theorem CB {w:World}{b g:Nat}{s:cp}(h:ie w b g s):Ret Tryz.prog 17 #[.pointer (some ⟨b,0,none⟩)] w fun r w'=>
  ∃ u:Sl,r=.slice u.1 u.2.1 u.2.2/\cg w' u s.b/\Fr none1 w w'/\∀ k,aw u k->w.heap.size<=k:=by
 obtain⟨⟨sl,hb,hs,_⟩,_,ok⟩:=h;refine c17 _ w _ ?_;refine ae.ah hb (x:=sl) rfl ?_;refine ab.of (Cz hs.rd (by have:=ok.len;omega)) ?_;rintro _ w' ⟨u,rfl,hu,f,hf⟩;exact⟨u,rfl,u,rfl,hu,f,hf⟩
def dq (s:cp):cp×Bool:=if s.lit&&s.oo==0 then({ s with dead:=true },false) else({ s with oo:=IntKind.i64.wrap (s.oo - 1) },true)
theorem WA {s:cp}(h:s.Ok):(dq s).1.Ok:=by
 unfold dq;split<;>exact⟨h.len,h.q0,h.q1,h.s0,h.s1⟩
theorem pe (s:cp):(dq s).1.b=s.b/\(dq s).1.cF=s.cF/\(dq s).1.synced=s.synced:=by
 unfold dq;split<;>exact⟨rfl,rfl,rfl⟩
theorem G9 {w:World}{b g:Nat}{s:cp}(h:ie w b g s):Ret Tryz.prog 146 #[.pointer (some ⟨b,0,none⟩)] w fun r w'=>r=.bool (dq s).2/\Fr (only b) w w'/\ie w' b g (dq s).1:=by
 obtain⟨⟨sl,hb,hs,hg⟩,gl,ok⟩:=h;have CC:=WA ok;refine c146 _ w _ ?_;unfold dq at *;refine ae.ah hb rfl ?_;have ag:∀ w',Fr (only b) w w'->cg w' sl s.b:=fun w' f=>hs.ag f (fun k U t=>(hg k U).2 t);have run:(s.lit&&s.oo==0)=false->ae (.int .i64) ((⟨b,0,none⟩:Addr).add 4) w (fun(x4:Int)=>aA ((⟨b,0,none⟩:Addr).add 4) (.int .i64 (IntKind.i64.wrap (x4 - 1))) w (fun w5=>
   (.bool true:Value)=.bool (if s.lit&&s.oo==0 then({ s with dead:=true },false) else({ s with oo:=IntKind.i64.wrap (s.oo - 1) },true)).2/\Fr (only b) w w5/\ie w5 b g (if s.lit&&s.oo==0 then({ s with dead:=true },false) else({ s with oo:=IntKind.i64.wrap (s.oo - 1) },true)).1)):=fun hc=>by
  rw[hc] at CC ⊢;refine ae.ah hb rfl ?_;refine aA.ah hb (by simp) rfl fun w1 au f1 _=>?_;exact⟨rfl,f1,⟨sl,au,ag w1 f1,hg⟩,Nat.lt_of_lt_of_le gl f1.size,CC⟩
 refine aa.by (fun hl=>?_) (fun hl=>run (by rw[hl];rfl));refine ae.ah hb rfl ?_;refine aa.eq (fun hf=>?_) (fun hf=>run (by rw[hl];simpa using hf));have hc:(s.lit&&s.oo==0)=true:=by rw[hl,hf];rfl
 rw[hc] at CC ⊢;refine aA.ah hb (by simp) rfl fun w1 au f1 _=>?_;exact⟨rfl,f1,⟨sl,au,ag w1 f1,hg⟩,Nat.lt_of_lt_of_le gl f1.size,CC⟩
def fo (s:cp)(x:List UInt8):cp×Int:=
 if s.dead then(s,11) else if(x.length:Int) > s.cF - s.b.length then(s,10) else
 if(dq s).2 then({ (dq s).1 with b:=s.b++x },0) else((dq s).1,11)
theorem WB {w:World}{b g:Nat}{s:cp}{v:Sl}{x:List UInt8}(h:ie w b g s)(hv:aZ w v x)(se:¬ aw v b):Ret Tryz.prog 94 #[.pointer (some ⟨b,0,none⟩),.slice v.1 v.2.1 v.2.2] w fun r w'=>
  r=.int .i64 (fo s x).2/\lA w b g (fo s x).1 w':=by
 have h0:=h;obtain⟨⟨sl,hb,hs,hg⟩,gl,ok⟩:=h;obtain⟨k1,k2,k3,k4,k5⟩:=ok;have jK:=hs.len;have cM:=hv.len;refine c94 _ v.1 v.2.1 v.2.2 w _ ?_;unfold fo;refine ae.ah hb rfl ?_;refine aa.by (fun hd=>?_) (fun hd=>?_)
 ·rw[if_pos hd];exact⟨rfl,lA.same h0 (Fr.refl _ _)⟩
 rw[if_neg (by simp[hd])];refine aD.of fun w1 uv f1=>?_;have au:=f1.af hb;refine ae.ah au rfl ?_;refine ae.ah au (x:=sl) rfl ?_;rw[jK,wI (x:=s.cF - (s.b.length:Int)) (by omega) (by omega)];have fx:Fr (only b) w w1:=f1.mono fun _ _ t=>t.elim;refine aa.dec (fun hq=>?_) (fun hq=>?_)
 ·rw[if_pos (by rw[<- cM];exact hq)];exact⟨rfl,lA.same h0 f1⟩
 rw[if_neg (by rw[<- cM];exact hq)];refine ab.of (G9 (h0.af f1)) ?_;rintro _ w2 ⟨rfl,f2,h2⟩;refine⟨_,rfl,?_⟩;refine aa.by (fun dz=>?_) (fun dz=>?_)
 ·have qk:(dq s).2=false:=by simpa using dz
  rw[qk];exact⟨rfl,fx.trans f2,g,.inr (.inl rfl),h2⟩
 ·have qk:(dq s).2=true:=by simpa using dz
  rw[qk,if_pos rfl];obtain⟨⟨tK,aK,gk,mz⟩,CD,Ae⟩:=h2;obtain⟨e1,e2,e3⟩:=pe s;refine ae.ah aK (x:=tK) rfl ?_;refine ab.of (Cz gk.rd (by rw[e1];omega)) ?_;rintro _ w3 ⟨u,rfl,hu,f3,ql⟩;refine⟨u,rfl,?_⟩;have dm:=hu.len;rw[e1] at dm hu;have qN:aZ w3 v x:=((hv.af f1).ag f2 (fun k U t=>se (by have:k=b:=t;rw[<- this];exact U))).af f3;obtain⟨y,w4,hr,hy,f4,WC⟩:=rK hu qN (by omega);refine⟨y,w4,hr,?_⟩;have WD:w.heap.size<=w2.heap.size:=(fx.trans f2).size;have lj:=bQ hb;have dw:=f4.ag (f3.af aK) (fun t=>by have:=ql b t;omega);refine aA.ah dw (by simp) rfl fun w5 cW f5 _=>?_;have CE:∀ k,aw y k->w2.heap.size<=k:=fun k U=>by
   rcases WC k U with t | t
   ·exact ql k t
   ·exact Nat.le_trans f3.size t
  have fr:Fr (only b) w w5:=(((fx.trans f2).dh f3).comp f4 (fun k U t=>by have:=ql k t;omega)).trans f5;have Nt:cg w5 y (s.b++x):=hy.ag f5 (fun k U t=>by have:=CE k U;have:k=b:=t;omega);obtain⟨gy,Ha,nz,Hb⟩:=Np (b:=b) (n:=w.heap.size) (bQ cW) Nt (fun k U=>by have:=CE k U;omega);refine⟨rfl,fr,gy,Ha.imp id .inr,⟨y,cW,Nt,Hb⟩,nz,?_⟩;refine⟨?_,?_,?_,?_,?_⟩<;>dsimp only
  ·simp only[List.length_append];omega
  ·rw[e2];exact k2
  ·rw[e2];exact k3
  ·rw[e3];exact k4
  ·rw[e3];simp only[List.length_append];omega
def iJ (s:cp):cp×Int:=if s.dead then(s,11) else if(dq s).2 then({ (dq s).1 with synced:=s.b.length },0) else((dq s).1,11)
theorem WE {w:World}{b g:Nat}{s:cp}(h:ie w b g s):Ret Tryz.prog 96 #[.pointer (some ⟨b,0,none⟩)] w fun r w'=>r=.int .i64 (iJ s).2/\lA w b g (iJ s).1 w':=by
 have h0:=h;obtain⟨⟨sl,hb,hs,hg⟩,gl,ok⟩:=h;refine c96 _ w _ ?_;unfold iJ;refine ae.ah hb rfl ?_;refine aa.by (fun hd=>?_) (fun hd=>?_)
 ·rw[if_pos hd];exact⟨rfl,lA.same h0 (Fr.refl _ _)⟩
 rw[if_neg (by simp[hd])];refine ab.of (G9 h0) ?_;rintro _ w2 ⟨rfl,f2,h2⟩;refine⟨_,rfl,?_⟩;refine aa.by (fun dz=>?_) (fun dz=>?_)
 ·have qk:(dq s).2=false:=by simpa using dz
  rw[qk];exact⟨rfl,f2,g,.inr (.inl rfl),h2⟩
 ·have qk:(dq s).2=true:=by simpa using dz
  rw[qk,if_pos rfl];obtain⟨⟨tK,aK,gk,mz⟩,CD,Ae⟩:=h2;obtain⟨e1,e2,e3⟩:=pe s;refine ae.ah aK (x:=tK) rfl ?_;rw[gk.len,e1];refine aA.ah aK (by simp) rfl fun w5 cW f5 _=>?_;refine⟨rfl,f2.trans f5,g,.inr (.inl rfl),⟨tK,cW,gk.ag f5 (fun k U t=>(mz k U).2 t),mz⟩,Nat.lt_of_lt_of_le CD f5.size,?_⟩;obtain⟨k1,k2,k3,k4,k5⟩:=Ae;refine⟨k1,k2,k3,?_,?_⟩<;>dsimp only
  ·omega
  ·rw[e1];omega
def lB (s:cp)(n:Int):cp×Int:=if s.dead then(s,11) else if n<0 then(s,1) else if n > s.b.length then(s,1) else
 if(dq s).2 then({ (dq s).1 with b:=s.b.take n.toNat,synced:=n },0) else((dq s).1,11)
theorem WG {w:World}{b g:Nat}{s:cp}(h:ie w b g s)(n:Int):Ret Tryz.prog 88 #[.pointer (some ⟨b,0,none⟩),.int .i64 n] w fun r w'=>r=.int .i64 (lB s n).2/\lA w b g (lB s n).1 w':=by
 have h0:=h;obtain⟨⟨sl,hb,hs,hg⟩,gl,ok⟩:=h;refine c88 _ n w _ ?_;unfold lB;refine ae.ah hb rfl ?_;refine aa.by (fun hd=>?_) (fun hd=>?_)
 ·rw[if_pos hd];exact⟨rfl,lA.same h0 (Fr.refl _ _)⟩
 rw[if_neg (by simp[hd])];refine aa.dec (fun hq=>?_) (fun hq=>?_)
 ·rw[if_pos hq];exact⟨rfl,lA.same h0 (Fr.refl _ _)⟩
 rw[if_neg hq];refine ae.ah hb (x:=sl) rfl ?_;rw[hs.len];refine aa.dec (fun mQ=>?_) (fun mQ=>?_)
 ·rw[if_pos mQ];exact⟨rfl,lA.same h0 (Fr.refl _ _)⟩
 rw[if_neg mQ];refine ab.of (G9 h0) ?_;rintro _ w2 ⟨rfl,f2,h2⟩;refine⟨_,rfl,?_⟩;refine aa.by (fun dz=>?_) (fun dz=>?_)
 ·have qk:(dq s).2=false:=by simpa using dz
  rw[qk];exact⟨rfl,f2,g,.inr (.inl rfl),h2⟩
 ·have qk:(dq s).2=true:=by simpa using dz
  rw[qk,if_pos rfl];obtain⟨⟨tK,aK,gk,mz⟩,CD,Ae⟩:=h2;obtain⟨e1,e2,e3⟩:=pe s;refine ae.ah aK (x:=tK) rfl ?_;have qK:=gk.len;rw[e1] at qK;refine aZ.sub gk.rd (by omega) (by omega) gk.cap fun hu=>?_;rw[e1] at hu;have kk:=Ae.len;rw[e1] at kk;refine ab.of (Cz (v:=(tK.1,n.toNat,tK.2.2)) hu (by simp only[List.length_take];omega)) ?_;rintro _ w3 ⟨u,rfl,hu,f3,ql⟩;refine⟨u,rfl,?_⟩;refine aA.ah (f3.af aK) (by simp) rfl fun w5 cW f5 _=>?_;refine aA.ah cW (by simp) rfl fun w6 fI f6 _=>?_;have lj:=bQ aK;have Nu:cg w6 u (s.b.take n.toNat):=(hu.ag f5 (fun k U t=>by have:=ql k U;have:k=b:=t;omega)).ag f6 (fun k U t=>by have:=ql k U;have:k=b:=t;omega);have WH:Fr (only b) w2 w6:=(f3.eL f5).trans f6;obtain⟨gy,Ha,nz,Hb⟩:=Np (b:=b) (n:=w2.heap.size) (bQ fI) Nu (fun k U=>by have:=ql k U;omega);refine⟨rfl,f2.trans WH,gy,Ha.imp id (fun t=>.inr (Nat.le_trans f2.size t)),⟨u,fI,Nu,Hb⟩,nz,?_⟩;obtain⟨k1,k2,k3,k4,k5⟩:=Ae;refine⟨?_,k2,k3,by dsimp only;omega,?_⟩<;>dsimp only<;>simp only[List.length_take]<;>omega
def CF (x:UInt8)(p:Int):UInt8:=UInt8.ofNat (BitVec.ofInt 8 (x.toNat:Int) ^^^ BitVec.ofInt 8 p).toNat
theorem WI (x:UInt8)(p:Int):Value.int .u8 (IntKind.u8.wrap ((BitVec.ofInt 8 (x.toNat:Int) ^^^ BitVec.ofInt 8 p).toNat:Int))=bc (CF x p):=by
 have h:=(BitVec.ofInt 8 (x.toNat:Int) ^^^ BitVec.ofInt 8 p).isLt;rw[wB (by omega) (by omega)];unfold bc CF;rw[UInt8.toNat_ofNat',Nat.mod_eq_of_lt h]
def C41  (w:World) (K:Value->World->Prop):Prop:=
 ak (.cells #[.int .i64 (-1),.int .i64 (-1),.int .u64 0] 187) w (fun g1 w2=>K (.pointer (some (ad g1))) w2)
def pl41:aB:=.auto
theorem c41  (w:World) (K:Value->World->Prop) (h:C41  w K):Ret Tryz.prog 41 #[] w K:=aC (by kernel_rfl) Tryz.func41 (p:=pl41) (Eq.mpr (by kernel_rfl) h)
def C55 (p0:Addr)(p1:Int)(p2:Int)(w:World)(K:Value->World->Prop):Prop:=
 aa (decide (p1<0))
 (K (.bool false) w)
 (aa (decide (p2<0))
 (K (.bool false) w)
 (ae (.int .i64) (p0.add 0) w (fun(x1:Int)=>aa (decide (p1<x1))
 (K (.bool false) w)
 (ae (.int .i64) (p0.add 0) w (fun(x2:Int)=>aa (decide (p1 > x2))
 (aA (p0.add 0) (.int .i64 p1) w (fun w3=>aA (p0.add 1) (.int .i64 p2) w3 (fun w4=>aA (p0.add 2) (.int .u64 1) w4 (fun w5=>K (.bool true) w5))))
 (ae (.int .i64) (p0.add 1) w (fun(x6:Int)=>aa (decide (p2 > x6))
 (ae (.int .i64) (p0.add 1) w (fun(x7:Int)=>aA (p0.add 1) (.int .i64 p2) w (fun w8=>aa (decide ((IntKind.i64.wrap (p2 - x7)) >= 64))
 (aA (p0.add 2) (.int .u64 0) w8 (fun w9=>ae (.int .u64) (p0.add 2) w9 (fun(aR:Int)=>jC (if 63<IntKind.i64.wrap (p2 - x7) then 63 else IntKind.i64.wrap (p2 - x7)) (aA (p0.add 2) (.int .u64 (IntKind.u64.wrap ((BitVec.ofInt 64 (IntKind.u64.wrap (aR * 2 ^ (min (Int.toNat (if 63<IntKind.i64.wrap (p2 - x7) then 63 else IntKind.i64.wrap (p2 - x7))) 64))) ||| BitVec.ofInt 64 1).toNat:Int))) w9 (fun aO=>K (.bool true) aO)))))
 (ae (.int .u64) (p0.add 2) w8 (fun(bt:Int)=>jC (if 63<IntKind.i64.wrap (p2 - x7) then 63 else IntKind.i64.wrap (p2 - x7)) (aA (p0.add 2) (.int .u64 (IntKind.u64.wrap ((BitVec.ofInt 64 (IntKind.u64.wrap (bt * 2 ^ (min (Int.toNat (if 63<IntKind.i64.wrap (p2 - x7) then 63 else IntKind.i64.wrap (p2 - x7))) 64))) ||| BitVec.ofInt 64 1).toNat:Int))) w8 (fun aW=>K (.bool true) aW)))))))
 (ae (.int .i64) (p0.add 1) w (fun(bd:Int)=>aa (decide ((IntKind.i64.wrap (bd - p2)) >= 64))
 (K (.bool false) w)
 (ae (.int .u64) (p0.add 2) w (fun(bj:Int)=>jC (IntKind.i64.wrap (bd - p2)) (aa ((IntKind.u64.wrap ((BitVec.ofInt 64 (Int.fdiv bj (2 ^ (min (Int.toNat (IntKind.i64.wrap (bd - p2))) 64))) &&& BitVec.ofInt 64 1).toNat:Int))==1)
 (K (.bool false) w)
 (aD w (fun bn=>ae (.int .u64) (p0.add 2) bn (fun(aX:Int)=>jC (IntKind.i64.wrap (bd - p2)) (aA (p0.add 2) (.int .u64 (IntKind.u64.wrap ((BitVec.ofInt 64 aX ||| BitVec.ofInt 64 (IntKind.u64.wrap (1 * 2 ^ (min (Int.toNat (IntKind.i64.wrap (bd - p2))) 64)))).toNat:Int))) bn (fun bz=>K (.bool true) bz)))))))))))))))))
def pl55:aB:=(.seq .auto (.seq .auto (.seq .auto (.seq .auto (.seq (.tail 10) .auto)))))
theorem c55 (p0:Addr)(p1:Int)(p2:Int)(w:World)(K:Value->World->Prop)(h:C55 p0 p1 p2 w K):Ret Tryz.prog 55 #[.pointer (some p0),.int .i64 p1,.int .i64 p2] w K:=aC (by kernel_rfl) Tryz.func55 (p:=pl55) (Eq.mpr (by kernel_rfl) h)
def oq (w:World)(b:Nat)(e h:Int)(S:Int->Bool):Prop:=
 ∃ x:Nat,w.heap[b]? = some (.cells #[.int .i64 e,.int .i64 h,.int .u64 (x:Int)] 187 (0,0))/\x<2 ^ 64 /\
  -1<=e/\-1<=h/\(0<=e->0<=h)/\e<=9223372036854775807/\h<=9223372036854775807/\(∀ i:Nat,i<64->x.testBit i=S (h - i))/\∀ m,h<m->S m=false
theorem oq.ag {w w':World}{b:Nat}{e h:Int}{S:Int->Bool}(hw:oq w b e h S){T:Nat->Prop}(f:Fr T w w')(hn:¬ T b):oq w' b e h S:=by
 obtain⟨x,hb,r⟩:=hw;exact⟨x,f.ag hb hn,r⟩
theorem oq.lt {w:World}{b:Nat}{e h:Int}{S:Int->Bool}(hw:oq w b e h S):b<w.heap.size:=by
 obtain⟨x,hb,r⟩:=hw;exact bQ hb
theorem oq.ne {w:World}{b:Nat}{e h:Int}{S:Int->Bool}(hw:oq w b e h S){c:Nat}{o:Obj}(hc:w.heap[c]? = some o)(ho:∀ cs fr,o≠.cells cs 187 fr):b≠c:=by
 obtain⟨x,hb,r⟩:=hw;intro e;subst e;rw[hb] at hc;exact ho _ _ (Option.some.inj hc).symm
theorem WJ (w:World):Ret Tryz.prog 41 #[] w fun r w'=>∃ b,w.heap.size<=b/\r=.pointer (some ⟨b,0,none⟩)/\Fr none1 w w'/\oq w' b (-1) (-1) (fun _=>false):=by
 refine c41 w _ (ak.of fun g w1 hg hb hf hs=>⟨g,by omega,rfl,hf,0,hb,by decide,by omega,by omega,by omega,by omega,by omega,fun i _=>by simp,fun _ _=>rfl⟩)
def jg (e h:Int)(S:Int->Bool)(ep n:Int):Bool:=
 if ep<0\/n<0\/ep<e then false else if e<ep then true else decide (h - 64<n)&&!S n
def tL (e ep:Int)(r:Bool):Int:=if r then(if e<ep then ep else e) else e
def rh (e h ep n:Int)(r:Bool):Int:=if r then(if e<ep then n else if h<n then n else h) else h
def tM (e ep n:Int)(S:Int->Bool)(r:Bool):Int->Bool:=fun m=>if r then(if e<ep then m==n else S m||m==n) else S m
theorem WK {e ep:Int}(hl:e<ep):tL e ep true=ep:=by simp[tL,hl]
theorem WL {e h ep n:Int}(hl:e<ep):rh e h ep n true=n:=by simp[rh,hl]
theorem WM {e ep n:Int}{S:Int->Bool}(hl:e<ep):tM e ep n S true=fun m=>m==n:=by funext m;simp[tM,hl]
theorem Nv (e:Int):tL e e true=e:=by simp[tL]
theorem WN {e h n:Int}(hl:h<n):rh e h e n true=n:=by simp[rh,hl]
theorem WO {e h n:Int}(hl:¬ h<n):rh e h e n true=h:=by simp[rh,hl]
theorem Nw (e n:Int)(S:Int->Bool):tM e e n S true=fun m=>S m||m==n:=by funext m;simp[tM]
theorem Nx (n:Int)(i:Nat):Nat.testBit 1 i=(n - (i:Int)==n):=by
 rw[show(1:Nat)=2 ^ 0 by decide,Nat.testBit_two_pow]
 by_cases h:i=0
 ·subst h;simp
 ·have h1:(n - (i:Int)==n)=false:=by simp;omega
  have h2:decide (0=i)=false:=by simp;omega
  rw[h1,h2]
theorem WQ (x k:Nat)(hx:x<18446744073709551616)(U:k<64):
  (IntKind.u64.wrap ((BitVec.ofInt 64 (Int.fdiv (x:Int) (2 ^ (min k 64))) &&& BitVec.ofInt 64 1).toNat:Int)==1)=x.testBit k:=by
 have h2:x / 2 ^ k<=x:=Nat.div_le_self _ _;rw[Br x k U,wF,BitVec.toNat_and,yI,show(BitVec.ofInt 64 1).toNat=1 by decide,Nat.mod_eq_of_lt (by omega:x / 2 ^ k<_),Nat.and_one_is_mod];have h3:x / 2 ^ k % 2<2:=Nat.mod_lt _ (by decide);rw[Nat.mod_eq_of_lt (by omega:x / 2 ^ k % 2<18446744073709551616)];rw[Nat.testBit_eq_decide_div_mod_eq]
 rcases (by omega:x / 2 ^ k % 2=0\/x / 2 ^ k % 2=1) with h | h<;>rw[h]<;>rfl
theorem WR (k:Nat)(U:k<64):2 ^ k<18446744073709551616:=Nat.pow_lt_pow_right (a:=2) (by decide) U
theorem WS (x k i:Nat)(hi:i<64):(x * 2 ^ k % 18446744073709551616 ||| 1).testBit i=(decide (i=0)||(decide (k<=i)&&x.testBit (i - k))):=by
 rw[Nat.testBit_or,show(18446744073709551616:Nat)=2 ^ 64 by decide,Nat.testBit_mod_two_pow,Nat.testBit_mul_two_pow];have h1:Nat.testBit 1 i=decide (i=0):=by
  rw[show(1:Nat)=2 ^ 0 by decide,Nat.testBit_two_pow]
  by_cases h:i=0<;>simp[h,eq_comm]
 rw[h1];simp only[hi,decide_true,Bool.true_and];rw[Bool.or_comm]
theorem WU (x k i:Nat):(x ||| 2 ^ k).testBit i=(x.testBit i||decide (i=k)):=by
 rw[Nat.testBit_or,Nat.testBit_two_pow]
 congr 1
 by_cases h:i=k
 ·simp[h]
 ·simp[h,Ne.symm h]
theorem WV {w:World}{b:Nat}{e h:Int}{S:Int->Bool}(ep n:Int)(hw:oq w b e h S)(he:ep<=9223372036854775807)(hn:n<=9223372036854775807):
  Ret Tryz.prog 55 #[.pointer (some ⟨b,0,none⟩),.int .i64 ep,.int .i64 n] w fun r w'=>
   r=.bool (jg e h S ep n)/\Fr (only b) w w'/\oq w' b (tL e ep (jg e h S ep n)) (rh e h ep n (jg e h S ep n)) (tM e ep n S (jg e h S ep n)):=by
 have Hc:=hw;obtain⟨x,hb,hx,h1,h2,h3,h4,h5,hS,hH⟩:=hw;have uQ:x<18446744073709551616:=hx;refine c55 _ ep n w _ ?_;unfold C55;have no:jg e h S ep n=false->(.bool false:Value)=.bool (jg e h S ep n)/\Fr (only b) w w/\oq w b (tL e ep (jg e h S ep n)) (rh e h ep n (jg e h S ep n)) (tM e ep n S (jg e h S ep n)):=fun hr=>by
  rw[hr];exact⟨rfl,Fr.refl _ _,Hc⟩
 refine aa.dec (fun c1=>no (by simp[jg,c1])) (fun c1=>?_);refine aa.dec (fun c2=>no (by simp[jg,c2])) (fun c2=>?_);refine ae.ah hb rfl ?_;refine aa.dec (fun c3=>no (by simp[jg,c3])) (fun c3=>?_);refine ae.ah hb rfl ?_;refine aa.dec (fun c4=>?_) (fun c4=>?_)
 ·have hr:jg e h S ep n=true:=by unfold jg;rw[if_neg (by omega),if_pos (by omega)]
  refine aA.ah hb (by simp) rfl fun w1 au f1 _=>?_;refine aA.ah au (by simp) rfl fun w2 aK f2 _=>?_;refine aA.ah aK (by simp) rfl fun w3 aU f3 _=>?_;have Hd:e<ep:=c4;rw[hr,WK Hd,WL Hd,WM Hd];refine⟨rfl,(f1.trans f2).trans f3,1,?_⟩;refine⟨aU,by decide,by omega,by omega,by omega,by omega,by omega,fun i hi=>?_,fun m hm=>by simp;omega⟩;exact Nx n i
 ·have Gc:ep=e:=by omega
  subst Gc;have hh0:0<=h:=h3 (by omega);refine ae.ah hb rfl ?_;refine aa.dec (fun c5=>?_) (fun c5=>?_)
  ·have hr:jg ep h S ep n=true:=by
    unfold jg;rw[if_neg (by omega),if_neg (by omega),hH n c5];simp;omega
   have aS:¬ ep<ep:=by omega
   have WW:h<n:=c5;rw[hr,Nv,WN WW,Nw];refine ae.ah hb rfl ?_;refine aA.ah hb (by simp) rfl fun w1 au f1 _=>?_;have e1:IntKind.i64.wrap (n - h)=n - h:=wI (by omega) (by omega);rw[e1];obtain⟨k,U⟩:∃ k:Nat,n - h=k:=⟨(n - h).toNat,by omega⟩;rw[U];refine aa.dec (fun c6=>?_) (fun c6=>?_)
   ·refine aA.ah au (by simp) rfl fun w2 aK f2 _=>?_
    refine ae.ah aK (x:=(0:Int)) rfl ?_;rw[if_pos (by omega)];refine⟨by omega,?_⟩;refine aA.ah aK (by simp) rfl fun w3 aU f3 _=>?_;refine⟨rfl,(f1.trans f2).trans f3,1,?_⟩;refine⟨?_,by decide,by omega,by omega,by omega,by omega,by omega,fun i hi=>?_,fun m hm=>by have:=hH m (by omega);simp[this];omega⟩
    ·have ee:(IntKind.u64.wrap ((BitVec.ofInt 64 (IntKind.u64.wrap (0 * 2 ^ (min (Int.toNat 63) 64))) ||| BitVec.ofInt 64 1).toNat:Int))=((1:Nat):Int):=by decide
     rw[ee] at aU;exact aU
    ·rw[Nx n i]
     by_cases xB:i=0
     ·subst xB;simp
     ·have u2:=hH (n - i) (by omega)
      simp[u2]
   ·refine ae.ah au (x:=(x:Int)) rfl ?_
    have WX:¬ (63:Int)<k:=by omega
    rw[if_neg WX];refine⟨by omega,?_⟩;refine aA.ah au (by simp) rfl fun w3 aU f3 _=>?_;refine⟨rfl,f1.trans f3,(x * 2 ^ k % 18446744073709551616 ||| 1),?_⟩;have l1:x * 2 ^ k % 18446744073709551616<18446744073709551616:=Nat.mod_lt _ (by decide);refine⟨?_,Nat.or_lt_two_pow (n:=64) l1 (by decide),by omega,by omega,by omega,by omega,by omega,fun i hi=>?_,fun m hm=>by have:=hH m (by omega);simp[this];omega⟩
    ·rw[Int.toNat_natCast,yJ x k (by omega),show(1:Int)=((1:Nat):Int) by rfl,yK _ 1 l1 (by decide)] at aU
     exact aU
    ·rw[WS x k i hi]
     by_cases xB:i=0
     ·subst xB;simp
     ·have u1:¬ (n - (i:Int)=n):=by omega
      simp only[xB,decide_false,Bool.false_or]
      by_cases wi:k<=i
      ·rw[hS (i - k) (by omega)]
       have:h - ((i - k:Nat):Int)=n - i:=by omega
       rw[this];simp[wi,u1]
      ·have:=hH (n - i) (by omega)
       simp[wi,this,u1]
  ·have e1:IntKind.i64.wrap (h - n)=h - n:=wI (by omega) (by omega)
   refine ae.ah hb rfl ?_;rw[e1];obtain⟨k,U⟩:∃ k:Nat,h - n=k:=⟨(h - n).toNat,by omega⟩;rw[U];refine aa.dec (fun c6=>no ?_) (fun c6=>?_)
   ·unfold jg;rw[if_neg (by omega),if_neg (by omega)];simp;omega
   ·have nW:h - (k:Int)=n:=by omega
    refine ae.ah hb rfl ⟨by omega,?_⟩;rw[Int.toNat_natCast,WQ x k uQ (by omega)];refine aa.by (fun c7=>no ?_) (fun c7=>?_)
    ·rw[hS k (by omega),nW] at c7
     unfold jg;rw[if_neg (by omega),if_neg (by omega),c7];simp
    ·rw[hS k (by omega),nW] at c7
     have hr:jg ep h S ep n=true:=by
      unfold jg;rw[if_neg (by omega),if_neg (by omega),c7];simp;omega
     have aS:¬ ep<ep:=by omega
     have ot:¬ h<n:=by omega
     rw[hr,Nv,WO ot,Nw];refine aD.of fun w0 Hc f0=>?_;rw[<- Hc] at hb;refine ae.ah hb rfl ⟨by omega,?_⟩;refine aA.ah hb (by simp) rfl fun w3 aU f3 _=>?_;refine⟨rfl,f0.eL f3,(x ||| 2 ^ k),?_⟩;have l1:=WR k (by omega);refine⟨?_,Nat.or_lt_two_pow (n:=64) uQ l1,by omega,by omega,by omega,by omega,by omega,fun i hi=>?_,fun m hm=>by have:=hH m hm;simp[this];omega⟩
     ·have ee:=yJ 1 k (by omega)
      rw[Nat.one_mul,Nat.mod_eq_of_lt l1] at ee;have WY:IntKind.u64.wrap (1 * 2 ^ (min k 64))=((2 ^ k:Nat):Int):=ee;rw[WY,yK _ _ uQ l1] at aU;exact aU
     ·rw[WU,hS i hi]
      by_cases Ny:i=k
      ·subst Ny;simp[nW]
      ·have:¬ (h - (i:Int)=n):=by omega
       simp[Ny,this]
theorem WZ {s:cp}{x:List UInt8}(hl:s.lit=false)(hd:s.dead=false)(h:(x.length:Int)<=s.cF - s.b.length):(fo s x).2=0/\(fo s x).1.b=s.b++x/\(fo s x).1.cF=s.cF/\(fo s x).1.synced=s.synced/\(fo s x).1.lit=false/\(fo s x).1.dead=false:=by
 unfold fo dq;rw[hl,hd];simp only[Bool.false_and,Bool.false_eq_true,if_false,if_true];rw[if_neg (by omega)];exact⟨rfl,rfl,rfl,rfl,rfl,rfl⟩
theorem W4 {s:cp}{x:List UInt8}(hd:s.dead=false)(h:(x.length:Int) > s.cF - s.b.length):fo s x=(s,10):=by
 unfold fo;rw[hd,if_neg (by simp),if_pos h]
theorem W5 {s:cp}(hl:s.lit=false)(hd:s.dead=false):(iJ s).2=0/\(iJ s).1.b=s.b/\(iJ s).1.cF=s.cF/\(iJ s).1.synced=s.b.length/\(iJ s).1.lit=false/\(iJ s).1.dead=false:=by
 unfold iJ dq;rw[hl,hd];refine⟨rfl,rfl,rfl,rfl,rfl,rfl⟩
theorem tO (D:Nat->Bool)(i:Nat):sQ D i i=true:=by unfold sQ;simp
theorem fp (D:Nat->Bool){i j:Nat}(h:j≠i):sQ D i j=D j:=by
 unfold sQ;have:Nat.beq j i=false:=by rw[<- Bool.not_eq_true];intro t;exact h (Nat.eq_of_beq_eq_true t)
 rw[this]
theorem Nz {z:Int}(h0:0<=z)(h1:z<=255):Value.int .u8 z=bc (toByte z):=by
 unfold bc toByte;rw[UInt8.toNat_ofNat',Nat.mod_eq_of_lt (by omega)]
 congr 1;omega
def NA (w:World)(v:Sl):Prop:=v.2.2<=9223372036854775807/\∃ cs:List UInt8,cg w (v.1,v.2.2,v.2.2) cs
theorem W6 {w:World}{x y:Sl}{ys:List UInt8}(zY:x.2.1=0)(tH:x.2.2=0)(hx:cg w x [])(hy:aZ w y ys)(hl:ys.length<=100000000):
  ∃ (v:Sl) (w':World),(Builtin.append_ #[22,22] 22 #[.slice x.1 x.2.1 x.2.2,.slice y.1 y.2.1 y.2.2]).run Tryz.prog w=.ok (.slice v.1 v.2.1 v.2.2) w'/\cg w' v ys/\Fr none1 w w' /\
   (∀ k,aw v k->aw x k\/w.heap.size<=k)/\NA w' v:=by
 obtain⟨hu,⟨i,hi,hs,hz,qJ⟩,hc,oJ⟩:=mR;have gT:=hy.len;unfold Builtin.append_;have mg:∀ w,(sizeOf 5).run Tryz.prog w=.ok 1 w:=fun w=>by rw[j8 hi,hs]
 have hlen:∀ w,(Builtin.lenOf (.slice y.1 y.2.1 y.2.2)).run Tryz.prog w=.ok y.2.1 w:=fun w=>rfl;simp only[Sem.run_bind,under hu,Result.andThen_ok,mg,List.getElem?_toArray,List.getElem?_cons_zero,List.getElem?_cons_succ,Sem.run_pure,Bool.false_eq_true,if_false,hlen]
 by_cases te:x.2.1+y.2.1<=x.2.2
 ·rw[if_pos te]
  have uC:y.2.1=0:=by omega
  have uD:ys=[]:=by rw[uC] at gT;exact List.eq_nil_of_length_eq_zero gT.symm
  subst uD;simp only[Bool.not_false,if_true,Sem.run_bind,dr.first hy,Result.andThen_ok]
  have tb:NA w x:=⟨by omega,[],by
   rcases hx with⟨rfl,_⟩ | ⟨g,off,cs,h1,h2,h3,h4,h5,h6⟩
   ·exact .inl ⟨rfl,rfl⟩
   ·exact .inr ⟨g,off,cs,h1,h2,Nat.le_refl _,h4,by simp[tH],h6⟩⟩
  rcases NB:x.1 with _ | a
  ·refine⟨x,w,?_,hx,Fr.refl _ _,fun k U=>.inl U,tb⟩
   have:(x.2.1+y.2.1)=0:=by omega
   simp[NB,zY,uC,tH]
  ·refine⟨x,w,?_,hx,Fr.refl _ _,fun k U=>.inl U,tb⟩
   simp only[List.map_nil,Sem.run_bind];rw[show(storeCells (a.add (x.2.1 * 1)) (([]:List Value).toArray).toList 0).run Tryz.prog w=.ok () w from rfl];simp only[Result.andThen_ok,Sem.run_pure,NB,uC,Nat.add_zero]
 ·rw[if_neg te]
  have nQ:∀ w,(typeInfo 5).run Tryz.prog w=.ok i w:=fun w=>by simp[typeInfo,hi]
  have wC:Builtin.nextslicecap (x.2.1+y.2.1) x.2.2 * i.bytes<=2 ^ 48:=by
   rw[qJ];have:=Ke (n:=x.2.1+y.2.1) (c:=x.2.2) (by omega);omega
  have kc:¬ (((x.2.1+y.2.1:Nat):Int) > IntKind.i64.max/\(False\/i.bytes=0)):=by
   rintro⟨_,h | h⟩
   ·exact h
   ·omega
  simp only[Sem.run_bind,nQ,Result.andThen_ok,Sem.run_ite];rw[if_neg kc,if_neg (show ¬ (Builtin.nextslicecap (x.2.1+y.2.1) x.2.2 * i.bytes > 2 ^ 48) by omega)];simp only[run_choose,Question.forced,Bool.false_eq_true,if_false,Result.andThen_ok,run_askRoom];generalize uE:(Question.appendCap (x.2.1+y.2.1) x.2.2 5).cut _=nc;have dQ:x.2.1+y.2.1<=nc:=by rw[<- uE];simp[Question.cut]
  have hle:nc<=9223372036854775807:=by
   rw[<- uE];simp only[Question.cut];have:=Nat.mod_lt (w.tape w.drawn (Question.appendCap (x.2.1+y.2.1) x.2.2 5)) (show 2 ^ 63 - (x.2.1+y.2.1) > 0 by omega);omega
  have f1:=wo w;rw[aF.first (hx.af f1)]
  simp only[Result.andThen_ok,Bool.not_false,if_true];rw[dr.first (hy.af f1)]
  simp only[Result.andThen_ok,qC hi hz,newRow,Sem.run_bind,run_newObj,Sem.run_pure];have uF:Builtin.zeroCells (Value.int .u8 0).cells (nc - (x.2.1+y.2.1))=((List.replicate (nc - (x.2.1+y.2.1)) (0:UInt8)).map bc).toArray:=by
   unfold Builtin.zeroCells;apply Array.ext
   ·simp[Value.cells]
   ·intro j h1 h2
    simp[Value.cells,Nat.mod_one,bc]
  have vl:∀ (h:Array Obj) (o:Obj),(h.push o)[h.size]? = some o:=fun h o=>Array.getElem?_push_size ..;have hcs:(([]:List UInt8).map bc).toArray++(ys.map bc).toArray++Builtin.zeroCells (Value.int .u8 0).cells (nc - (x.2.1+y.2.1))=((ys++List.replicate (nc - (x.2.1+y.2.1)) (0:UInt8)).map bc).toArray:=by rw[uF];simp
  refine⟨(some ⟨w.heap.size,0,none⟩,x.2.1+y.2.1,nc),_,rfl,.inr ⟨w.heap.size,0,_,rfl,vl _ _,dQ,?_,by simp;omega,fun j hj=>?_⟩,
   ((f1.trans (mf _ _)).mono fun _ _ t=>t.elim),fun k ⟨a,ha,U⟩=>.inr (by injection ha with ha;subst ha;subst U;exact Nat.le_refl _),
   hle,ys++List.replicate (nc - (x.2.1+y.2.1)) 0,.inr ⟨w.heap.size,0,_,rfl,vl _ _,Nat.le_refl _,?_,by simp;omega,fun j hj=>?_⟩⟩
  ·rw[hcs];simp;omega
  ·rw[hcs,Nat.zero_add]
   simp only[List.length_map] at hj;simp[List.getElem?_append,hj]
  ·rw[hcs];simp;omega
  ·rw[hcs,Nat.zero_add];simp
theorem W7 (w:World):∃ w',(Instr.buildSlice 22 0 #[]).run Tryz.prog w=.ok (.slice (some ⟨w.heap.size,0,none⟩) 0 0) w'/\w'.heap[w.heap.size]? = some (.cells #[] 5 (0,0))/\Fr none1 w w':=by
 obtain⟨hu,⟨i,hi,hs,hz,qJ⟩,hc,oJ⟩:=mR;have mg:∀ w,(sizeOf 5).run Tryz.prog w=.ok 1 w:=fun w=>by rw[j8 hi,hs]
 unfold Instr.buildSlice;simp only[Sem.run_bind,under hu,Result.andThen_ok,mg];rw[if_neg (by omega)];simp only[Nat.zero_mul,if_true,Sem.run_bind,Sem.run_pure,Result.andThen_ok];simp only[Instr.fill,newRow,Sem.run_bind,run_newObj,Result.andThen_ok,Sem.run_pure];exact⟨_,rfl,by simp,mf _ _⟩
def C145 (p0:Option Addr)(aH aP:Nat)(w:World)(K:Value->World->Prop):Prop:=
 bw (Int×Int×Unit) (fun _ s1 w2 gm=>aa (decide (s1.2.1<(aH:Int)))
 (bK p0 aH s1.2.1 1 (fun a4=>ae (.int .u8) a4 w2 (fun(x5:Int)=>gm (IntKind.u8.wrap ((BitVec.ofInt 8 s1.1 ^^^ BitVec.ofInt 8 x5).toNat:Int),IntKind.i64.wrap (s1.2.1+1),()) w2)))
 (K (.int .u8 s1.1) w2))
 (150,0,()) w
def pl145:aB:=(.seq .auto (.seq .auto (.seq (.seq .auto (.block (.loop [(3,.one (.int .u8)),(8,.one (.int .i64))] .auto))) .auto)))
theorem c145 (p0:Option Addr)(aH aP:Nat)(w:World)(K:Value->World->Prop)(h:C145 p0 aH aP w K):Ret Tryz.prog 145 #[.slice p0 aH aP] w K:=aC (by kernel_rfl) Tryz.func145 (p:=pl145) (Eq.mpr (by kernel_rfl) h)
def C95 (p0:Option Addr)(aH aP:Nat)(w:World)(K:Value->World->Prop):Prop:=
 jC 8 (az Tryz.prog (Instr.buildSlice 22 2 #[(0,.int .u8 (IntKind.u8.wrap (Int.fdiv (aH:Int) (2 ^ (min (Int.toNat 8) 64))))),(1,.int .u8 (IntKind.u8.wrap (aH:Int)))]) w (.v (.one .aj)) (fun(x1:an) w2=>az Tryz.prog (Builtin.append_ #[22,22] 22 #[.slice x1.1 x1.2.1 x1.2.2,.slice p0 aH aP]) w2 (.v (.one .aj)) (fun(x3:an) w4=>ab Tryz.prog 145 #[.slice x3.1 x3.2.1 x3.2.2] w4 (.v (.one (.int .u8))) (fun(x5:Int) w6=>az Tryz.prog (Instr.buildSlice 22 1 #[(0,.int .u8 x5)]) w6 (.v (.one .aj)) (fun(x7:an) w8=>az Tryz.prog (Builtin.append_ #[22,22] 22 #[.slice x3.1 x3.2.1 x3.2.2,.slice x7.1 x7.2.1 x7.2.2]) w8 (.v (.one .aj)) (fun(x9:an) aG=>K (.slice x9.1 x9.2.1 x9.2.2) aG))))))
def pl95:aB:=.auto
theorem c95 (p0:Option Addr)(aH aP:Nat)(w:World)(K:Value->World->Prop)(h:C95 p0 aH aP w K):Ret Tryz.prog 95 #[.slice p0 aH aP] w K:=aC (by kernel_rfl) Tryz.func95 (p:=pl95) (Eq.mpr (by kernel_rfl) h)
def C87 (p0:Option Addr)(aH aP:Nat)(w:World)(K:Value->World->Prop):Prop:=
 aa (decide ((aH:Int)<2))
 (K (.tuple #[.slice none 0 0,.slice p0 aH aP,.bool false]) w)
 (oE w (fun C1=>bK p0 aH 0 1 (fun a2=>fZ C1 2 [] (.v (.one (.int .u8))) (fun w4 k5=>ae (.int .u8) a2 w4 (fun(x6:Int)=>k5 (.int .u8 x6) w4))
 (fun(x3:Int)=>fZ C1 3 [2] (.v (.one (.int .i64))) (fun w8 k9=>k9 (.int .i64 (IntKind.i64.wrap x3)) w8)
 (fun(x7:Int)=>jC 8 (bK p0 aH 1 1 (fun pQ=>fZ C1 7 [] (.v (.one (.int .u8))) (fun aM W8=>ae (.int .u8) pQ aM (fun(bd:Int)=>W8 (.int .u8 bd) aM))
 (fun(ba:Int)=>fZ C1 8 [7] (.v (.one (.int .i64))) (fun bn W9=>W9 (.int .i64 (IntKind.i64.wrap ba)) bn)
 (fun(bj:Int)=>(∀ bz,C1 (mem [2,3,7,8]) bz->oE bz (fun C19=>aa (decide ((IntKind.i64.wrap ((BitVec.ofInt 64 (IntKind.i64.wrap (x7 * 2 ^ (min (Int.toNat 8) 64))) ||| BitVec.ofInt 64 bj).toNat:Int)) > 4000))
 (sR C19 15 (sR C19 20 ((∀ bo,C19 (mem [15,20]) bo->K (.tuple #[.slice none 0 0,.slice p0 aH aP,.bool false]) bo))))
 (aa (decide ((aH:Int)<(IntKind.i64.wrap ((IntKind.i64.wrap (2+(IntKind.i64.wrap ((BitVec.ofInt 64 (IntKind.i64.wrap (x7 * 2 ^ (min (Int.toNat 8) 64))) ||| BitVec.ofInt 64 bj).toNat:Int))))+1))))
 (sR C19 15 (sR C19 20 ((∀ bB,C19 (mem [15,20]) bB->K (.tuple #[.slice none 0 0,.slice p0 aH aP,.bool false]) bB))))
 (bK p0 aH (IntKind.i64.wrap (2+(IntKind.i64.wrap ((BitVec.ofInt 64 (IntKind.i64.wrap (x7 * 2 ^ (min (Int.toNat 8) 64))) ||| BitVec.ofInt 64 bj).toNat:Int)))) 1 (fun Gz=>fZ C19 15 [] (.v (.one (.int .u8))) (fun cm Xa=>ae (.int .u8) Gz cm (fun(cZ:Int)=>Xa (.int .u8 cZ) cm))
 (fun(cr:Int)=>eX p0 aP 0 (IntKind.i64.wrap (2+(IntKind.i64.wrap ((BitVec.ofInt 64 (IntKind.i64.wrap (x7 * 2 ^ (min (Int.toNat 8) 64))) ||| BitVec.ofInt 64 bj).toNat:Int)))) aP 1 (fun zQ zR c29=>fZ C19 20 [] (.v (.one (.int .u8))) (fun fh Xb=>ab Tryz.prog 145 #[.slice zQ zR c29] fh (.v (.one (.int .u8))) (fun(dp:Int) gh=>Xb (.int .u8 dp) gh))
 (fun(eg:Int)=>(∀ dX,C19 (mem [15,20]) dX->aa (cr != eg)
 (K (.tuple #[.slice none 0 0,.slice p0 aH aP,.bool false]) dX)
 (oE dX (fun C36=>eX p0 aP 2 (IntKind.i64.wrap (2+(IntKind.i64.wrap ((BitVec.ofInt 64 (IntKind.i64.wrap (x7 * 2 ^ (min (Int.toNat 8) 64))) ||| BitVec.ofInt 64 bj).toNat:Int)))) aP 1 (fun a37 Xc c39=>fZ C36 4 [] (.v (.one .aj)) (fun ll Xd=>ab Tryz.prog 54 #[.slice a37 Xc c39] ll (.v (.one .aj)) (fun(jo:an) fw=>Xd (.slice jo.1 jo.2.1 jo.2.2) fw))
 (fun(iX:an)=>eX p0 aP (IntKind.i64.wrap ((IntKind.i64.wrap (2+(IntKind.i64.wrap ((BitVec.ofInt 64 (IntKind.i64.wrap (x7 * 2 ^ (min (Int.toNat 8) 64))) ||| BitVec.ofInt 64 bj).toNat:Int))))+1)) aH aP 1 (fun Xe Xf c47=>(∀ gB,C36 (mem [4]) gB->K (.tuple #[.slice iX.1 iX.2.1 iX.2.2,.slice Xe Xf c47,.bool true]) gB))))))))))))))))))))))))
def pl87:aB:=(.seq .auto (.seq .auto (.seq (.any [(2,.v (.one (.int .u8))),(3,.v (.one (.int .i64))),(7,.v (.one (.int .u8))),(8,.v (.one (.int .i64)))]) (.seq (.seq (.any [(15,.v (.one (.int .u8))),(20,.v (.one (.int .u8)))]) .auto) (.seq (.any [(4,.v (.one .aj))]) .auto)))))
theorem c87 (p0:Option Addr)(aH aP:Nat)(w:World)(K:Value->World->Prop)(h:C87 p0 aH aP w K):Ret Tryz.prog 87 #[.slice p0 aH aP] w K:=aC (by kernel_rfl) Tryz.func87 (p:=pl87) (Eq.mpr (by kernel_rfl) h)
def C39 (p0:Addr)(w:World)(K:Value->World->Prop):Prop:=
 ab Tryz.prog 86 #[.pointer (some p0)] w (.v (.one .bool)) (fun(x1:Bool) w2=>aa x1
 (K (.tuple #[.pointer none,.int .i64 11]) w2)
 (ak (.cells #[.pointer (some p0),.slice none 0 0,.bool false] 181) w2 (fun g3 w4=>ab Tryz.prog 17 #[.pointer (some p0)] w4 (.v (.one .aj)) (fun(x5:an) w6=>bw (an×Unit) (fun _ s7 w8 E5=>ab Tryz.prog 87 #[.slice s7.1.1 s7.1.2.1 s7.1.2.2] w8 (.aN [.one .aj,.one .aj,.one .bool]) (fun(aR:an×an×Bool×Unit) aO=>aa (!aR.2.2.1)
 (aa (decide ((s7.1.2.1:Int) > 0))
 (ab Tryz.prog 88 #[.pointer (some p0),.int .i64 (IntKind.i64.wrap ((x5.2.1:Int) - (s7.1.2.1:Int)))] aO (.v (.one (.int .i64))) (fun(bt:Int) aW=>aa (bt != 0)
 (K (.tuple #[.pointer none,.int .i64 bt]) aW)
 (K (.tuple #[.pointer (some (ad g3)),.int .i64 0]) aW)))
 (K (.tuple #[.pointer (some (ad g3)),.int .i64 0]) aO))
 (ae .aj ((ad g3).add 1) aO (fun(bd:an)=>az Tryz.prog (Instr.buildSlice 37 1 #[(0,.slice aR.1.1 aR.1.2.1 aR.1.2.2)]) aO (.v (.one .aj)) (fun(bj:an) bn=>az Tryz.prog (Builtin.append_ #[37,37] 37 #[.slice bd.1 bd.2.1 bd.2.2,.slice bj.1 bj.2.1 bj.2.2]) bn (.v (.one .aj)) (fun(aX:an) bz=>aA ((ad g3).add 1) (.slice aX.1 aX.2.1 aX.2.2) bz (fun bx=>E5 ((aR.2.1.1,aR.2.1.2.1,aR.2.1.2.2),()) bx)))))))
 ((x5.1,x5.2.1,x5.2.2),()) w6))))
def pl39:aB:=(.seq .auto (.seq .auto (.seq .auto (.seq .auto (.seq .auto (.seq (.block (.loop [(6,.one .aj)] .auto)) .auto))))))
theorem c39 (p0:Addr)(w:World)(K:Value->World->Prop)(h:C39 p0 w K):Ret Tryz.prog 39 #[.pointer (some p0)] w K:=aC (by kernel_rfl) Tryz.func39 (p:=pl39) (Eq.mpr (by kernel_rfl) h)
def C67 (p0:Addr)(w:World)(K:Value->World->Prop):Prop:=
 ae .bool (p0.add 2) w (fun(x1:Bool)=>K (.bool x1) w)
def pl67:aB:=.auto
theorem c67 (p0:Addr)(w:World)(K:Value->World->Prop)(h:C67 p0 w K):Ret Tryz.prog 67 #[.pointer (some p0)] w K:=aC (by kernel_rfl) Tryz.func67 (p:=pl67) (Eq.mpr (by kernel_rfl) h)
def C44 (p0:Addr)(p1:Option Addr)(bY cE:Nat)(w:World)(K:Value->World->Prop):Prop:=
 cq (Unit) (fun J1=>ae .bool (p0.add 2) w (fun(x4:Bool)=>aa x4
 (aA (p0.add 2) (.bool true) w (fun w5=>J1 (()) w5))
 (ae .ptr (p0.add 0) w (fun(x6:Option Addr)=>ab Tryz.prog 86 #[.pointer x6] w (.v (.one .bool)) (fun(x7:Bool) w8=>aA (p0.add 2) (.bool x7) w8 (fun w9=>J1 (()) w9))))))
 (fun _ s2 w3=>ae .bool (p0.add 2) w3 (fun(aR:Bool)=>aa aR
 (K (.int .i64 11) w3)
 (aa (decide ((bY:Int) > 4000))
 (K (.int .i64 5) w3)
 (oE w3 (fun C11=>fZ C11 3 [] (.v (.one .ptr)) (fun aW Xg=>ae .ptr (p0.add 0) aW (fun(bj:Option Addr)=>Xg (.pointer bj) aW))
 (fun(bt:Option Addr)=>fZ C11 5 [] (.v (.one .aj)) (fun b9 Xh=>ab Tryz.prog 95 #[.slice p1 bY cE] b9 (.v (.one .aj)) (fun(bu:an) bo=>Xh (.slice bu.1 bu.2.1 bu.2.2) bo))
 (fun(aQ:an)=>fZ C11 6 [3,5] (.v (.one (.int .i64))) (fun bN Xi=>ab Tryz.prog 94 #[.pointer bt,.slice aQ.1 aQ.2.1 aQ.2.2] bN (.v (.one (.int .i64))) (fun(cj:Int) dk=>Xi (.int .i64 cj) dk))
 (fun(bT:Int)=>(∀ ct,C11 (mem [3,5,6]) ct->aa (bT==0)
 (ae .ptr (p0.add 0) ct (fun(cz:Option Addr)=>ab Tryz.prog 96 #[.pointer cz] ct (.v (.one (.int .i64))) (fun(eN:Int) et=>aa (eN != 0)
 (aA (p0.add 2) (.bool (eN==11)) et (fun bO=>K (.int .i64 eN) bO))
 (oE et (fun C31=>fZ C31 4 [] (.v (.one .aj)) (fun dS Xj=>ae .aj (p0.add 1) dS (fun(de:an)=>Xj (.slice de.1 de.2.1 de.2.2) dS))
 (fun(dK:an)=>fZ C31 6 [] (.v (.one .aj)) (fun dG Xk=>ab Tryz.prog 54 #[.slice p1 bY cE] dG (.v (.one .aj)) (fun(eP:an) dD=>Xk (.slice eP.1 eP.2.1 eP.2.2) dD))
 (fun(eF:an)=>fZ C31 7 [6] (.v (.one .aj)) (fun fM Xl=>az Tryz.prog (Instr.buildSlice 37 1 #[(0,.slice eF.1 eF.2.1 eF.2.2)]) fM (.v (.one .aj)) (fun(jq:an) gK=>Xl (.slice jq.1 jq.2.1 jq.2.2) gK))
 (fun(ek:an)=>fZ C31 8 [4,6,7] (.v (.one .aj)) (fun gd Xm=>az Tryz.prog (Builtin.append_ #[37,37] 37 #[.slice dK.1 dK.2.1 dK.2.2,.slice ek.1 ek.2.1 ek.2.2]) gd (.v (.one .aj)) (fun(fu:an) mA=>Xm (.slice fu.1 fu.2.1 fu.2.2) mA))
 (fun(jW:an)=>fZ C31 11 [4,6,7,8] (.aN []) (fun gC Xn=>aA (p0.add 1) (.slice jW.1 jW.2.1 jW.2.2) gC (fun iu=>Xn undef iu))
 (fun(js:Unit)=>(∀ gr,C31 (mem [4,6,7,8,11]) gr->K (.int .i64 0) gr)))))))))))
 (aa (bT != 0)
 (aA (p0.add 2) (.bool (bT==11)) ct (fun rP=>K (.int .i64 bT) rP))
 (oE ct (fun C57=>fZ C57 4 [] (.v (.one .aj)) (fun lL Xo=>ae .aj (p0.add 1) lL (fun(lS:an)=>Xo (.slice lS.1 lS.2.1 lS.2.2) lL))
 (fun(nX:an)=>fZ C57 6 [] (.v (.one .aj)) (fun oR Xp=>ab Tryz.prog 54 #[.slice p1 bY cE] oR (.v (.one .aj)) (fun(oT:an) vx=>Xp (.slice oT.1 oT.2.1 oT.2.2) vx))
 (fun(yS:an)=>fZ C57 7 [6] (.v (.one .aj)) (fun tP Xq=>az Tryz.prog (Instr.buildSlice 37 1 #[(0,.slice yS.1 yS.2.1 yS.2.2)]) tP (.v (.one .aj)) (fun(pT:an) pU=>Xq (.slice pT.1 pT.2.1 pT.2.2) pU))
 (fun(oS:an)=>fZ C57 8 [4,6,7] (.v (.one .aj)) (fun qT Xr=>az Tryz.prog (Builtin.append_ #[37,37] 37 #[.slice nX.1 nX.2.1 nX.2.2,.slice oS.1 oS.2.1 oS.2.2]) qT (.v (.one .aj)) (fun(sx:an) qU=>Xr (.slice sx.1 sx.2.1 sx.2.2) qU))
 (fun(pV:an)=>fZ C57 11 [4,6,7,8] (.aN []) (fun my Xs=>aA (p0.add 1) (.slice pV.1 pV.2.1 pV.2.2) my (fun He=>Xs undef He))
 (fun(vy:Unit)=>(∀ CG,C57 (mem [4,6,7,8,11]) CG->K (.int .i64 0) CG))))))))))))))))))
def pl44:aB:=(.seq .auto (.join [] .auto (.seq .auto (.seq (.any [(3,.v (.one .ptr)),(5,.v (.one .aj)),(6,.v (.one (.int .i64)))]) (.seq .auto (.seq .auto (.seq (.any [(4,.v (.one .aj)),(6,.v (.one .aj)),(7,.v (.one .aj)),(8,.v (.one .aj)),(11,.aN [])]) .auto)))))))
theorem c44 (p0:Addr)(p1:Option Addr)(bY cE:Nat)(w:World)(K:Value->World->Prop)(h:C44 p0 p1 bY cE w K):Ret Tryz.prog 44 #[.pointer (some p0),.slice p1 bY cE] w K:=aC (by kernel_rfl) Tryz.func44 (p:=pl44) (Eq.mpr (by kernel_rfl) h)
def C42 (p0:Addr)(w:World)(K:Value->World->Prop):Prop:=
 ae .aj (p0.add 1) w (fun(x1:an)=>bw (an×Int×Unit) (fun _ s2 w3 Hf=>aa (decide (s2.2.1<(x1.2.1:Int)))
 (bK x1.1 x1.2.1 s2.2.1 1 (fun a5=>ae .aj a5 w3 (fun(x6:an)=>ab Tryz.prog 54 #[.slice x6.1 x6.2.1 x6.2.2] w3 (.v (.one .aj)) (fun(x7:an) w8=>az Tryz.prog (Instr.buildSlice 37 1 #[(0,.slice x7.1 x7.2.1 x7.2.2)]) w8 (.v (.one .aj)) (fun(x9:an) aG=>az Tryz.prog (Builtin.append_ #[37,37] 37 #[.slice s2.1.1 s2.1.2.1 s2.1.2.2,.slice x9.1 x9.2.1 x9.2.2]) aG (.v (.one .aj)) (fun(ba:an) aM=>Hf ((ba.1,ba.2.1,ba.2.2),IntKind.i64.wrap (s2.2.1+1),()) aM))))))
 (K (.slice s2.1.1 s2.1.2.1 s2.1.2.2) w3))
 ((none,0,0),0,()) w)
def pl42:aB:=(.seq .auto (.seq .auto (.seq (.seq .auto (.block (.loop [(3,.one .aj),(11,.one (.int .i64))] .auto))) .auto)))
theorem c42 (p0:Addr)(w:World)(K:Value->World->Prop)(h:C42 p0 w K):Ret Tryz.prog 42 #[.pointer (some p0)] w K:=aC (by kernel_rfl) Tryz.func42 (p:=pl42) (Eq.mpr (by kernel_rfl) h)
theorem NC:il Tryz.prog 37 22 1 (.slice none 0 0) 24:=⟨Tryz.underlying37,⟨Tryz.t22,by kernel_rfl,rfl,rfl,rfl⟩,rfl,by decide⟩
def Hg (u:Sl):Value:=.slice u.1 u.2.1 u.2.2
def Af:Sl:=(none,0,0)
structure iU (w:World)(S:Nat->Prop)(v:Sl)(rs:List (List UInt8)):Prop where
 out:∃ us:List Sl,aF w 22 1 v (us.map Hg)/\us.length=rs.length/\(∀ i,i<us.length->aZ w (us.getD i Af) (rs.getD i []))/\∀ u∈us,(∀ k,aw u k->S k/\¬ aw v k)/\u.2.1<=u.2.2
 own:∀ k,aw v k->S k
 lt:∀ k,S k->k<w.heap.size
theorem iU.ag {w w':World}{S:Nat->Prop}{v:Sl}{rs:List (List UInt8)}(h:iU w S v rs){T:Nat->Prop}(f:Fr T w w')(hT:∀ k,S k->¬ T k):iU w' S v rs:=by
 obtain⟨⟨us,a,b,c,d⟩,o,l⟩:=h;refine⟨⟨us,a.ag f (fun k U=>hT k (o k U)),b,fun i hi=>(c i hi).ag f (fun k U=>?_),d⟩,o,fun k U=>Nat.lt_of_lt_of_le (l k U) f.size⟩;rw[List.getD_eq_getElem?_getD,List.getElem?_eq_getElem hi] at U;exact hT k ((d _ (List.getElem_mem hi)).1 k U).1
theorem iU.af {w w':World}{S:Nat->Prop}{v:Sl}{rs:List (List UInt8)}(h:iU w S v rs)(f:Fr none1 w w'):iU w' S v rs:=h.ag f (fun _ _ t=>t)
theorem iU.len {w:World}{S:Nat->Prop}{v:Sl}{rs:List (List UInt8)}(h:iU w S v rs):v.2.1=rs.length:=by
 obtain⟨⟨us,a,b,_⟩,_⟩:=h;have:=a.len;simp at this;omega
theorem Ag (w:World)(S:Nat->Prop)(hS:∀ k,S k->k<w.heap.size):iU w S (none,0,0) []:=
 ⟨⟨[],.inl ⟨rfl,rfl⟩,rfl,fun i hi=>by simp at hi,fun u hu=>by simp at hu⟩,(fun k ⟨a,ha,_⟩=>by cases ha),hS⟩
theorem iU.snoc {w:World}{S:Nat->Prop}{v u:Sl}{rs:List (List UInt8)}{b:List UInt8}(h:iU w S v rs)(hu:aZ w u b)(Ah:u.2.1<=u.2.2)(dm:∀ k,aw u k->k<w.heap.size/\¬ S k)(hl:rs.length<=1000000):
  ∃ (y:Sl) (w2:World) (z:Sl) (w3:World),(Instr.buildSlice 37 1 #[(0,.slice u.1 u.2.1 u.2.2)]).run Tryz.prog w=.ok (.slice y.1 y.2.1 y.2.2) w2/\Fr none1 w w2 /\
   (Builtin.append_ #[37,37] 37 #[.slice v.1 v.2.1 v.2.2,.slice y.1 y.2.1 y.2.2]).run Tryz.prog w2=.ok (.slice z.1 z.2.1 z.2.2) w3 /\
   Fr (aw v) w w3/\∃ S',(∀ k,S' k->S k\/aw u k\/w.heap.size<=k)/\iU w3 S' z (rs++[b]):=by
 have cM:=h.len;obtain⟨⟨us,a1,a2,a3,a4⟩,o,l⟩:=h;obtain⟨y,w2,hr,hy,gT,f1,hf⟩:=lH (P:=Tryz.prog) (w:=w) NC (Hg u) rfl;obtain⟨z,w3,gb,hz,hzl,f2,pG⟩:=gA NC 37 (a1.af f1) hy.rd (by simp[Hg,bI]) (by rw[gT,cM];omega);have f3:Fr (aw v) w w3:=f1.eL f2;refine⟨y,w2,z,w3,hr,f1,gb,f3,fun k=>S k\/aw u k\/aw z k,fun k U=>?_,?_⟩
 ·rcases U with t | t | t
  ·exact .inl t
  ·exact .inr (.inl t)
  ·rcases pG k t with t | t
   ·exact .inl (o k t)
   ·exact .inr (.inr (Nat.le_trans f1.size t))
 ·refine⟨⟨us++[u],?_,by simp[a2],fun i hi=>?_,fun x hx=>⟨fun k U=>?_,?_⟩⟩,fun k U=>.inr (.inr U),fun k U=>?_⟩
  ·rw[List.map_append];exact hz
  ·by_cases CH:i<us.length
   ·rw[MH _ _ _ CH,MH _ _ _ (by omega)]
    refine(a3 i CH).ag f3 (fun k U=>?_);rw[List.getD_eq_getElem?_getD,List.getElem?_eq_getElem CH] at U;exact((a4 _ (List.getElem_mem CH)).1 k U).2
   ·have:i=us.length:=by simp at hi;omega
    subst this;rw[MI,a2,MI];exact hu.ag f3 (fun k U t=>(dm k U).2 (o k t))
  ·rcases List.mem_append.1 hx with hx | hx
   ·obtain⟨t1,t2⟩:=(a4 x hx).1 k U
    refine⟨.inl t1,fun t=>?_⟩
    rcases pG k t with t | t
    ·exact t2 t
    ·have:=l k t1;have:=f1.size;omega
   ·simp at hx;subst hx
    refine⟨.inr (.inl U),fun t=>?_⟩
    rcases pG k t with t | t
    ·exact(dm k U).2 (o k t)
    ·have:=(dm k U).1;have:=f1.size;omega
  ·rcases List.mem_append.1 hx with hx | hx
   ·exact(a4 x hx).2
   ·simp at hx;subst hx;exact Ah
  ·have s3:=f3.size
   rcases U with t | t | t
   ·have:=l k t;omega
   ·have:=(dm k t).1;omega
   ·exact aF.lt hz t
theorem ND {w:World}{v:Sl}{bs:List UInt8}(h:aZ w v bs)(hl:bs.length<=100000000):
  ∃ (u:Sl) (w1:World),Ret Tryz.prog 54 #[.slice v.1 v.2.1 v.2.2] w (fun r w'=>r=.slice u.1 u.2.1 u.2.2/\w1=w')/\cg w1 u bs/\Fr none1 w w1/\∀ k,aw u k->w.heap.size<=k:=by
 cases hn:v.1 with
 | none=>
  obtain⟨_,_,he⟩:=h.2.1 hn;refine⟨(none,0,0),w,?_,.inl ⟨rfl,he⟩,Fr.refl _ _,fun k ⟨a,ha,_⟩=>(by cases ha)⟩;refine c54 none v.2.1 v.2.2 w _ ?_;exact aa.t rfl ⟨rfl,rfl⟩
 | some a=>
  obtain⟨w1,hr,au,f1⟩:=W7 w;have hx:cg w1 (some ⟨w.heap.size,0,none⟩,0,0) []:=.inr ⟨w.heap.size,0,#[],rfl,au,Nat.le_refl _,by simp,by simp,fun i hi=>by simp at hi⟩;obtain⟨u,w2,gb,hu,f2,pG,hq⟩:=W6 rfl rfl hx (h.af f1) hl;refine⟨u,w2,?_,hu,f1.trans f2,fun k U=>?_⟩
  ·refine c54 (some a) v.2.1 v.2.2 w _ ?_
   refine aa.f rfl ?_;rw[hn] at gb;exact⟨(some ⟨w.heap.size,0,none⟩,0,0),w1,hr,u,w2,gb,rfl,rfl⟩
  ·rcases pG k U with⟨a,ha,U⟩ | t
   ·injection ha with ha;subst ha;subst U;exact Nat.le_refl _
   ·exact Nat.le_trans f1.size t
theorem Xt (x:UInt8)(p:Int):IntKind.u8.wrap ((BitVec.ofInt 8 (x.toNat:Int) ^^^ BitVec.ofInt 8 p).toNat:Int)=((CF x p).toNat:Int):=by
 have:=WI x p;unfold bc at this;injection this
def tQ (x:UInt8)(bs:List UInt8):UInt8:=bs.foldl (fun a c=>CF a (c.toNat:Int)) x
theorem NF {w:World}{v:Sl}{bs:List UInt8}(h:aZ w v bs)(hl:bs.length<=100000000):Ret Tryz.prog 145 #[.slice v.1 v.2.1 v.2.2] w fun r w'=>r=.int .u8 ((tQ 150 bs).toNat:Int)/\w=w':=by
 refine c145 v.1 v.2.1 v.2.2 w _ ?_;have cM:=h.len;refine bw.of (fun s w'=>w=w'/\0<=s.2.1/\s.2.1<=v.2.1/\s.1=((tQ 150 (bs.take s.2.1.toNat)).toNat:Int)) (fun s _=>(v.2.1 - s.2.1).toNat) ⟨rfl,by dsimp only;omega,by dsimp only;omega,rfl⟩ ?_;rintro _ ⟨x,i,_⟩ _ ⟨rfl,i0,i1,hx⟩;dsimp only at i0 i1 hx ⊢;refine aa.dec (fun aS=>?_) (fun dQ=>?_)
 ·refine aZ.at h i0 aS ?_
  rw[wI (by omega) (by omega),hx,Xt];refine⟨⟨rfl,by omega,by omega,?_⟩,by omega⟩;rw[show(i+1).toNat=i.toNat+1 by omega,List.take_succ_eq_append_getElem (by omega)];unfold tQ;rw[List.foldl_append,List.getD_eq_getElem?_getD,List.getElem?_eq_getElem (by omega)];rfl
 ·rw[List.take_of_length_le (by omega)] at hx
  rw[hx];exact⟨rfl,rfl⟩
def qm (bs:List UInt8):List UInt8:=[toByte ((bs.length:Int) / 256),toByte ((bs.length:Int) % 256)]
def dE (bs:List UInt8):List UInt8:=qm bs++bs++[tQ 150 (qm bs++bs)]
theorem xI (bs:List UInt8):(dE bs).length=bs.length+3:=by unfold dE qm;simp
theorem Xu {w:World}{v:Sl}{bs:List UInt8}(h:aZ w v bs)(hl:bs.length<=4000):
  ∃ (u:Sl) (w1:World),Ret Tryz.prog 95 #[.slice v.1 v.2.1 v.2.2] w (fun r w'=>r=.slice u.1 u.2.1 u.2.2/\w1=w')/\cg w1 u (dE bs)/\Fr none1 w w1/\∀ k,aw u k->w.heap.size<=k:=by
 have cM:=h.len;obtain⟨x,w1,r1,hx,kN,f1,xf⟩:=rJ (P:=Tryz.prog) (w:=w) mR ((qm bs).map bc) (by intro v hv;obtain⟨x,_,rfl⟩:=List.mem_map.1 hv;rfl) (by simp[qm]);have uQ:cg w1 x (qm bs):=hx;obtain⟨y,w2,r2,hy,f2,yf⟩:=rK uQ (h.af f1) (by simp[qm];omega);obtain⟨z,w3,r3,hz,hzl,f3,zf⟩:=lH (P:=Tryz.prog) (w:=w2) mR (bc (tQ 150 (qm bs++bs))) rfl;have Gd:aZ w3 z [tQ 150 (qm bs++bs)]:=hz.rd;have Xv:=hy.af f3;obtain⟨u,w4,r4,hu,f4,uf⟩:=rK Xv Gd (by simp[qm];omega);have NG:∀ k,aw y k->w.heap.size<=k:=fun k U=>by
  rcases yf k U with t | t
  ·exact xf k t
  ·exact Nat.le_trans f1.size t
 have f12:Fr none1 w w2:=f1.comp f2 (fun k U t=>by have:=xf k t;omega);refine⟨u,w4,?_,hu,(f12.trans f3).comp f4 (fun k U t=>by have:=NG k t;omega),fun k U=>?_⟩
 ·refine c95 v.1 v.2.1 v.2.2 w _ ?_
  refine⟨by omega,x,w1,?_,y,w2,r2,?_⟩
  ·refine Eq.trans ?_ r1
   have e1:IntKind.u8.wrap (Int.fdiv (v.2.1:Int) (2 ^ (min (Int.toNat 8) 64)))=(bs.length:Int) / 256:=by
    rw[show(2:Int) ^ (min (Int.toNat 8) 64)=256 from rfl,Int.fdiv_eq_ediv_of_nonneg _ (by omega),cM,wB (by omega) (by omega)]
   have e2:IntKind.u8.wrap (v.2.1:Int)=(bs.length:Int) % 256:=by rw[IntKind.wrap_u8,cM]
   rw[e1,e2,Nz (z:=(bs.length:Int) / 256) (by omega) (by omega),Nz (z:=(bs.length:Int) % 256) (by omega) (by omega)];rfl
  ·refine ab.of (NF hy.rd (by simp[qm];omega)) ?_
   rintro _ _ ⟨rfl,rfl⟩;exact⟨_,rfl,z,w3,r3,u,w4,r4,rfl,rfl⟩
 ·rcases uf k U with t | t
  ·exact NG k t
  ·exact Nat.le_trans (f12.trans f3).size t
structure iK (w:World)(S:Nat->Prop)(p b g:Nat)(s:cp)(d:Bool)(rs:List (List UInt8)):Prop where
 file:ie w b g s
 out:∃ jl:Sl,w.heap[p]? = some (.cells #[.pointer (some ⟨b,0,none⟩),.slice jl.1 jl.2.1 jl.2.2,.bool d] 181 (0,0))/\iU w S jl rs
 ne:p≠b/\p≠g
 off:∀ k,S k->k≠p/\k≠b/\k≠g
theorem iK.ag {w w':World}{S:Nat->Prop}{p b g:Nat}{s:cp}{d:Bool}{rs:List (List UInt8)}(h:iK w S p b g s d rs){T:Nat->Prop}(f:Fr T w w')(h1:¬ T p)(h2:¬ T b)(h3:¬ T g)(h4:∀ k,S k->¬ T k):iK w' S p b g s d rs:=by
 obtain⟨a,⟨jl,b1,b2⟩,c,d⟩:=h;exact⟨a.ag f h2 h3,⟨jl,f.ag b1 h1,b2.ag f h4⟩,c,d⟩
theorem iK.af {w w':World}{S:Nat->Prop}{p b g:Nat}{s:cp}{d:Bool}{rs:List (List UInt8)}(h:iK w S p b g s d rs)(f:Fr none1 w w'):iK w' S p b g s d rs:=h.ag f (fun t=>t) (fun t=>t) (fun t=>t) (fun _ _ t=>t)
theorem iK.Ai {w:World}{S:Nat->Prop}{p b g:Nat}{s:cp}{d:Bool}{rs:List (List UInt8)}(h:iK w S p b g s d rs):p<w.heap.size:=by
 obtain⟨_,⟨jl,b1,_⟩,_⟩:=h;exact bQ b1
theorem iK.slt {w:World}{S:Nat->Prop}{p b g:Nat}{s:cp}{d:Bool}{rs:List (List UInt8)}(h:iK w S p b g s d rs):∀ k,S k->k<w.heap.size:=by
 obtain⟨_,⟨jl,_,b2⟩,_⟩:=h;exact b2.lt
def tR (S:Nat->Prop)(p b:Nat):Nat->Prop:=fun k=>k=p\/k=b\/S k
def NH (w:World)(S:Nat->Prop)(p b g:Nat)(s':cp)(d':Bool)(Xw:List (List UInt8))(w':World):Prop:=
 Fr (tR S p b) w w'/\∃ S' g',(∀ k,S' k->S k\/w.heap.size<=k)/\(g'=b\/g'=g\/w.heap.size<=g')/\iK w' S' p b g' s' d' Xw
theorem iK.Hh {w w':World}{S:Nat->Prop}{p b g:Nat}{s s':cp}{d:Bool}{rs:List (List UInt8)}(h:iK w S p b g s d rs)(t:lA w b g s' w'):∃ g',(g'=b\/g'=g\/w.heap.size<=g')/\iK w' S p b g' s' d rs:=by
 obtain⟨f,g',hg,i⟩:=t;have hp:=h.Ai;have hs:=h.slt;obtain⟨a,⟨jl,b1,b2⟩,c,o⟩:=h;refine⟨g',hg,i,⟨jl,f.ag b1 (fun t=>c.1 t),b2.ag f (fun k U t=>(o k U).2.1 t)⟩,⟨c.1,?_⟩,fun k U=>⟨(o k U).1,(o k U).2.1,?_⟩⟩
 ·rcases hg with t | t | t
  ·rw[t];exact c.1
  ·rw[t];exact c.2
  ·omega
 ·have:=hs k U
  rcases hg with t | t | t
  ·rw[t];exact(o k U).2.1
  ·rw[t];exact(o k U).2.2
  ·omega
theorem Xx {w:World}{S:Nat->Prop}{p b g:Nat}{s:cp}{d:Bool}{rs:List (List UInt8)}(h:iK w S p b g s d rs):Ret Tryz.prog 67 #[.pointer (some ⟨p,0,none⟩)] w fun r w'=>r=.bool d/\w=w':=by
 obtain⟨_,⟨jl,hp,_⟩,_⟩:=h;exact c67 _ w _ (ae.ah hp rfl ⟨rfl,rfl⟩)
theorem Xy {w:World}{S:Nat->Prop}{p b g:Nat}{s:cp}{d:Bool}{rs:List (List UInt8)}(h:iK w S p b g s d rs)(hl:rs.length<=1000000)(hr:∀ r∈rs,r.length<=100000000):
  Ret Tryz.prog 42 #[.pointer (some ⟨p,0,none⟩)] w fun r w'=>∃ (v:Sl) (S':Nat->Prop),r=.slice v.1 v.2.1 v.2.2/\iU w' S' v rs/\Fr none1 w w'/\∀ k,S' k->w.heap.size<=k:=by
 obtain⟨_,⟨jl,hp,hj⟩,_⟩:=h;have CI:=hj.len;refine c42 _ w _ ?_;refine ae.ah hp (x:=jl) rfl ?_;refine bw.of (fun q w'=>0<=q.2.1/\q.2.1<=jl.2.1/\Fr none1 w w'/\∃ S',iU w' S' q.1 (rs.take q.2.1.toNat)/\∀ k,S' k->w.heap.size<=k) (fun q _=>(jl.2.1 - q.2.1).toNat)
  ⟨by dsimp only;omega,by dsimp only;omega,Fr.refl _ _,fun _=>False,Ag _ _ (fun k t=>t.elim),fun k t=>t.elim⟩ ?_
 rintro _ ⟨v,i,_⟩ w1 ⟨i0,i1,f1,S',hv,hS⟩;dsimp only at i0 i1 hv ⊢;refine aa.dec (fun aS=>?_) (fun dQ=>?_)
 ·obtain⟨⟨us,a1,a2,a3,a4⟩,o,l⟩:=hj.af f1
  have hi:i.toNat<us.length:=by omega
  have Xz:=a3 i.toNat hi;refine aF.ld a1 i0 aS (x:=us.getD i.toNat Af) (by rw[List.getElem?_map,List.getD_eq_getElem?_getD,List.getElem?_eq_getElem hi];rfl) ?_;have zT:(rs.getD i.toNat []).length<=100000000:=by
   rw[List.getD_eq_getElem?_getD,List.getElem?_eq_getElem (by omega)];exact hr _ (List.getElem_mem _)
  refine ab.of (Cz Xz zT) ?_;rintro _ w2 ⟨u,rfl,hu,f2,pg⟩;refine⟨u,rfl,?_⟩;have uA:=hv.af f2;obtain⟨y,w3,z,w4,r1,f3,r2,f4,S2,ri,hz⟩:=uA.snoc hu.rd hu.cap (fun k U=>⟨aF.lt hu U,fun t=>by have:=hv.lt k t;have:=pg k U;omega⟩) (by simp only[List.length_take];omega);refine⟨y,w3,r1,z,w4,r2,?_⟩;rw[wI (by omega) (by omega)];refine⟨⟨by omega,by omega,(f1.trans f2).comp f4 (fun k U t=>by have:=hS k (hv.own k t);omega),S2,?_,fun k U=>?_⟩,by omega⟩
  ·rw[show(i+1).toNat=i.toNat+1 by omega,List.take_succ_eq_append_getElem (by omega)]
   rw[List.getD_eq_getElem?_getD,List.getElem?_eq_getElem (by omega)] at hz;exact hz
  ·have:=f1.size
   have:=f2.size
   rcases ri k U with t | t | t
   ·exact hS k t
   ·have:=pg k t;omega
   ·omega
 ·rw[List.take_of_length_le (by omega)] at hv
  exact⟨v,S',rfl,hv,f1,hS⟩
end Go.Proofs.YtmkehncgjnhhcaaGreatDoor
