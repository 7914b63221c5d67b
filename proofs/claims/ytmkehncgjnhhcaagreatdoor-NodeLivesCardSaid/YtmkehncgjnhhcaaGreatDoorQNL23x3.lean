/-
  Texts of this claim, put together: TakeSpec, VcCmd, DoSpec, RefEv2, TakeSpec2, TakeSpec3, CSipG, SipSpec, NilNe, CFrameG, FrameSpec, FrameF, CSameG, SameSpec, CEvSame, EvSame, AgreeF, CFile, FileSpec, CWindow, WinSpec, FQuota, FCuts, FFuse, FMem, CJournal, JSpec, JPut, JForms.
  Conditions: those of each theorem.
-/
import Derived.Test.YtmkehncgjnhhcaaGreatDoorQNL23x0
import Derived.Test.YtmkehncgjnhhcaaGreatDoorQNL23x1
import Derived.Test.YtmkehncgjnhhcaaGreatDoorQNL23x2
import Derived.KernelRfl
import Derived.Laws.BytesString
import Derived.Laws.IdiomStrings
import Derived.Laws.StructEq
import Derived.Lib.Bytes
import Derived.Test.YtmkehncgjnhhcaaGreatDoorProg
set_option linter.unusedVariables false
set_option maxRecDepth 100000
namespace Go.Proofs.YtmkehncgjnhhcaaGreatDoor
open Vc
def iS (T:TypeId)(w:World)(g n:Nat)(s:gX):Prop:=
 ∃ u:Sl,w.heap[g]? = some (.cells #[.slice u.1 u.2.1 u.2.2,.bool s.2] T (0,0))/\aY w u s.1/\u.2.1<=u.2.2/\(s.1≠[]->∀ k,au u k->k<n)
theorem iS.ag {T:TypeId}{w w':World}{g n:Nat}{s:gX}(h:iS T w g n s){S:Nat->Prop}(f:Fr S w w')(hg:¬ S g)(hS:∀ k,S k->n<=k):iS T w' g n s:=by
 obtain⟨u,a,b,c,d⟩:=h;exact⟨u,f.ag a hg,b.sL f fun hn k U t=>by have:=d hn k U;have:=hS k t;omega,c,d⟩
theorem iS.af {T:TypeId}{w w':World}{g n:Nat}{s:gX}(h:iS T w g n s)(f:Fr none1 w w'):iS T w' g n s:=h.ag f (fun t=>t) (fun _ t=>t.elim)
theorem Uk (w:World):aY w (none,0,0) []:=(DA w).rd
theorem Ul (m:Nat)(b:UInt8)(hm:m<65536):IntKind.i64.wrap ((BitVec.ofInt 64 (IntKind.i64.wrap ((m:Int) * 2 ^ (min (Int.toNat 8) 64))) ||| BitVec.ofInt 64 (IntKind.i64.wrap (b.toNat:Int))).toNat:Int)=((m * 256+b.toNat:Nat):Int):=by
 have hb:=b.toNat_lt;have e1:((m:Int) * 2 ^ (min (Int.toNat 8) 64))=((m * 256:Nat):Int):=by
  rw[show min (Int.toNat 8) 64=8 by decide];norm_cast
 rw[e1,wI (x:=((m * 256:Nat):Int)) (by omega) (by omega),wI (x:=(b.toNat:Int)) (by omega) (by omega),BitVec.toNat_or,AA,AA,Nat.mod_eq_of_lt (by omega),Nat.mod_eq_of_lt (by omega)];have e2:m * 256 ||| b.toNat=m * 256+b.toNat:=by
  rw[show m * 256=m <<< 8 by rw[Nat.shiftLeft_eq],<- Nat.shiftLeft_add_eq_or_of_lt (show b.toNat<2 ^ 8 from hb)]
 rw[e2,wI (by omega) (by omega)]
theorem Um {z:Bool}{n:Nat}{s:gX}(h:s.2=true\/s.1.length<n):dt z n s=(if z=true then List.replicate n 0 else[],(s.1,true)):=by unfold dt;rw[if_pos h]
theorem Un {z:Bool}{n:Nat}{s:gX}(h:s.2=false)(h':n<=s.1.length):dt z n s=(s.1.take n,(s.1.drop n,false)):=by
 unfold dt;rw[if_neg (by rw[h];simp;omega)]
theorem BA {w:World}{g n0:Nat}{s:gX}(h:iS 274 w g n0 s)(hg:n0<=g)(n:Nat):Ret Tryz.prog 150 #[.pointer (some ⟨g,0,none⟩),.int .i64 (n:Int)] w fun r w'=>
  ∃ v:Sl,r=.slice v.1 v.2.1 v.2.2/\aY w' v (dt false n s).1/\((dt false n s).1≠[]->∀ k,au v k->k<n0)/\iS 274 w' g n0 (dt false n s).2/\Fr (only g) w w':=by
 obtain⟨u,hb,hu,hc,aU⟩:=h;have cS:=hu.len;refine c150 _ _ w _ ?_;unfold C150;have bad:s.2=true\/s.1.length<n->∀ w1,w1.heap[g]? = some (.cells #[.slice u.1 u.2.1 u.2.2,.bool true] 274 (0,0))->Fr (only g) w w1 ->
   ∃ v:Sl,(Value.slice none 0 0)=.slice v.1 v.2.1 v.2.2/\aY w1 v (dt false n s).1/\((dt false n s).1≠[]->∀ k,au v k->k<n0)/\iS 274 w1 g n0 (dt false n s).2/\Fr (only g) w w1:=fun Uo w1 ar f1=>by
  rw[Um Uo];exact⟨(none,0,0),rfl,Uk w1,(fun h=>(h rfl).elim),⟨u,ar,hu.sL f1 fun hn k U t=>by have:=aU hn k U;have:k=g:=t;omega,hc,aU⟩,f1⟩
 refine ae.ai hb (x:=s.2) rfl ?_;refine aa.by (fun e=>?_) (fun e=>?_)
 ·exact ay.ai hb (by show 0+1<2;omega) rfl fun w1 ar f1 _=>bad (.inl e) w1 ar f1
 refine ae.ai hb (x:=u) rfl ?_;refine aa.dec (fun Up=>?_) (fun hle=>?_)
 ·exact ay.ai hb (by show 0+1<2;omega) rfl fun w1 ar f1 _=>bad (.inr (by omega)) w1 ar f1
 refine ae.ai hb (x:=u) rfl ?_;refine aY.sub hu (by omega) (by omega) hc fun ha=>?_;refine ae.ai hb (x:=u) rfl ?_;refine aY.jj hu (by omega) (by omega) (Int.le_refl _) hc fun v hv Uq cC LW=>?_;refine ay.ai hb (by show 0+0<2;omega) rfl fun w1 ar f1 _=>?_;rw[Int.toNat_natCast] at ha hv ⊢;have e2:(s.1.drop n).take ((u.2.1:Int) - (n:Int)).toNat=s.1.drop n:=List.take_of_length_le (by rw[List.length_drop];omega);rw[e2] at hv;rw[Un e (by omega)];have LX:s.1.take n≠[]->s.1≠[]:=fun h t=>h (by rw[t];simp);have LY:s.1.drop n≠[]->s.1≠[]:=fun h t=>h (by rw[t];simp);refine⟨(u.1,n,u.2.2),rfl,ha.sL f1 fun hn k U t=>by have:=aU (LX hn) k U;have:k=g:=t;omega,(fun hn k U=>aU (LX hn) k U),⟨v,?_,hv.sL f1 fun hn k U t=>by have:=aU (LY hn) k (LW k U);have:k=g:=t;omega,Uq,fun hn k U=>aU (LY hn) k (LW k U)⟩,f1⟩;rw[ar,<- e];rfl
theorem LZ {w:World}{g n0:Nat}{s:gX}(h:iS 274 w g n0 s)(hg:n0<=g)(size:Nat)(hs:size<=2):Ret Tryz.prog 194 #[.pointer (some ⟨g,0,none⟩),.int .i64 (size:Int)] w fun r w'=>
  r=.string (str (fk false size s).1)/\iS 274 w' g n0 (fk false size s).2/\Fr (only g) w w':=by
 refine c194 _ _ w _ ?_;unfold C194;refine ab.of (BA h hg size) ?_;rintro _ w1 ⟨v,rfl,hv,_,h1,f1⟩;refine⟨v,rfl,?_⟩;have cC:=hv.len;have pW:(dt false size s).1.length<=2:=by
  unfold dt;split
  ·simp
  ·dsimp only;rw[List.length_take];omega
 unfold fk;generalize dt false size s=x at *;have Ur:∀ i,i<=2->eV (x.1.take i)<65536:=fun i hi=>by
  have h1:=DG (x.1.take i);have h2:256 ^ (x.1.take i).length<=256 ^ 2:=Nat.pow_le_pow_right (by decide) (by rw[List.length_take];omega);have:(256:Nat) ^ 2=65536:=by decide
  omega
 refine bj.of (fun st w'=>∃ i:Nat,st.2.1=i/\i<=x.1.length/\st.1=(eV (x.1.take i):Int)/\w1=w') (fun st _=>(2 - st.2.1).toNat) ⟨0,rfl,by omega,rfl,rfl⟩ ?_;rintro _ ⟨m,i',_⟩ _ ⟨i,hi,xI,hm,rfl⟩;dsimp only at hi hm ⊢;subst hi hm;refine aa.dec (fun aU=>?_) (fun dh=>?_)
 ·refine aY.at hv (by omega) aU ?_
  refine⟨by omega,?_⟩;rw[Int.toNat_natCast,Ul _ _ (Ur i (by omega)),wI (by omega) (by omega)];refine⟨⟨i+1,by omega,by omega,?_,rfl⟩,by omega⟩;rw[DI x.1 i (by omega)]
 ·rw[List.take_of_length_le (by omega)]
  refine ab.of (BA h1 hg (eV x.1)) ?_;rintro _ w2 ⟨u,rfl,hu,_,h2,f2⟩;refine⟨u,rfl,?_⟩;exact⟨_,w2,E4 hu,rfl,h2,f1.trans f2⟩
theorem Us {w:World}{g n0:Nat}{s:gX}(h:iS 274 w g n0 s)(hg:n0<=g):Ret Tryz.prog 192 #[.pointer (some ⟨g,0,none⟩)] w fun r w'=>
  r=.int .i64 (iE false s).1/\iS 274 w' g n0 (iE false s).2/\Fr (only g) w w':=by
 refine c192 _ w _ ?_;unfold C192;refine ab.of (BA h hg 8) ?_;rintro _ w1 ⟨v,rfl,hv,_,h1,f1⟩;refine⟨v,rfl,?_⟩;unfold iE;generalize dt false 8 s=x at *;refine ab.of (AB hv) ?_;rintro _ _ ⟨rfl,rfl⟩;refine⟨((gC x.1).1,(gC x.1).2,()),rfl,?_⟩;obtain⟨u,hb,hu,hc,aU⟩:=h1;have kp:∀ w2,Fr (only g) w1 w2->aY w2 u x.2.1:=fun w2 f2=>hu.sL f2 fun hn k U t=>by have:=aU hn k U;have:k=g:=t;omega
 refine ae.ai hb (x:=x.2.2) rfl ?_;refine aa.by (fun e=>?_) (fun e=>?_)
 ·refine ay.ai hb (by show 0+1<2;omega) rfl fun w2 aM f2 _=>?_
  exact⟨rfl,⟨u,by rw[aM,e];rfl,kp w2 f2,hc,aU⟩,f1.trans f2⟩
 ·refine ay.ai hb (by show 0+1<2;omega) rfl fun w2 aM f2 _=>?_
  exact⟨rfl,⟨u,by rw[aM,e];simp,kp w2 f2,hc,aU⟩,f1.trans f2⟩
theorem L0 (z:Bool)(size:Nat)(hs:size<=2)(s:gX):(fk z size s).1.length<=65535:=by
 have hb:eV (dt z size s).1<=65535:=by
  have pW:(dt z size s).1.length<=2:=by
   unfold dt;split
   ·dsimp only;split<;>simp<;>omega
   ·dsimp only;rw[List.length_take];omega
  have h1:=DG (dt z size s).1;have h2:256 ^ (dt z size s).1.length<=256 ^ 2:=Nat.pow_le_pow_right (by decide) pW;have:(256:Nat) ^ 2=65536:=by decide
  omega
 unfold fk;generalize(dt z size s).2=t;generalize eV (dt z size s).1=n at *;unfold dt;split
 ·dsimp only;split<;>simp;omega
 ·dsimp only;rw[List.length_take];omega
theorem Ut {w:World}{g n0:Nat}{s:gX}(h:iS 274 w g n0 s)(hg:n0<=g):Ret Tryz.prog 193 #[.pointer (some ⟨g,0,none⟩)] w fun r w'=>
  r=(rj false s).1.v/\iS 274 w' g n0 (rj false s).2/\Fr (only g) w w':=by
 refine c193 _ w _ ?_;unfold C193;refine ab.of (LZ h hg 2 (by decide)) ?_;rintro _ w1 ⟨rfl,h1,f1⟩;have hl:=L0 false 2 (by decide) s;unfold rj;generalize fk false 2 s=x at *;refine⟨_,rfl,?_⟩;refine ab.of (Uf x.1 (by omega) w1) ?_;rintro _ w2 ⟨rfl,f2⟩;refine⟨((mK x.1).1.v,(mK x.1).2.1,(mK x.1).2.2,()),rfl,?_⟩;obtain⟨u,hb,hu,hc,aU⟩:=h1.af f2;have kp:∀ w3,Fr (only g) w2 w3->aY w3 u x.2.1:=fun w3 f3=>hu.sL f3 fun hn k U t=>by have:=aU hn k U;have:k=g:=t;omega
 refine ae.ai hb (x:=x.2.2) rfl ?_;have f12:Fr (only g) w w2:=f1.dp f2;refine aa.by (fun e=>?_) (fun e=>?_)
 ·refine ay.ai hb (by show 0+1<2;omega) rfl fun w3 ba f3 _=>?_
  exact⟨rfl,⟨u,by rw[ba,e];rfl,kp w3 f3,hc,aU⟩,f12.trans f3⟩
 ·refine ay.ai hb (by show 0+1<2;omega) rfl fun w3 ba f3 _=>?_
  exact⟨rfl,⟨u,by rw[ba,e];simp,kp w3 f3,hc,aU⟩,f12.trans f3⟩
def nG (m:aQ):Obj:=.cells (wv m) 36 (0,0)
 where wv (m:aQ):Array Value:=#[.int .i64 m.1,.string (str m.2.1),.string (str m.2.2.1),.string (str m.2.2.2.1),.string (str m.2.2.2.2.1),.int .i64 m.2.2.2.2.2.1,.int .i64 m.2.2.2.2.2.2.1,m.2.2.2.2.2.2.2.v]
theorem Fw {g b:Nat}{w w1 w2:World}(f1:Fr (only g) w w1)(f2:Fr (only b) w1 w2):Fr (fun k=>k=g\/k=b) w w2:=(f1.mono fun k _ t=>.inl t).trans (f2.mono fun k _ t=>.inr t)
theorem Uu {w:World}{g b n0:Nat}{x:gX×aQ}(h:iS 274 w g n0 x.1)(hg:n0<=g)(hb:w.heap[b]? = some (nG x.2))(hn:n0<=b)(jA:b≠g)(c:UInt8)(hc:c=73\/c=78\/c=76\/c=67\/c=68\/c=86\/c=84):
  Ret Tryz.prog 151 #[.pointer (some ⟨g,0,none⟩),.pointer (some ⟨b,0,none⟩),.int .i32 (dA c)] w fun r w'=>
   r=.tuple #[]/\iS 274 w' g n0 (gz false x c).1/\w'.heap[b]? = some (nG (gz false x c).2)/\Fr (fun k=>k=g\/k=b) w w':=by
 refine c151 _ _ _ w _ ?_;unfold C151;have hd:∀ (a:UInt8) (n:Int),dA a=n->c≠a->(dA c==n)=false:=fun a n ha aA=>by
  subst ha;unfold dA;have:c.toNat≠a.toNat:=fun t=>aA (UInt8.toNat_inj.1 t);simp;omega
 have num:∀ (o:Nat) (ho:o<8) (m':aQ) (hm:((nG.wv x.2).setIfInBounds o (.int .i64 (iE false x.1).1))=nG.wv m') (hs:gz false x c=((iE false x.1).2,m')),
   ab Tryz.prog 192 #[.pointer (some ⟨g,0,none⟩)] w (.v (.one (.int .i64))) (fun(x1:Int) w2=>ay ((⟨b,0,none⟩:Addr).add o) (.int .i64 x1) w2 (fun w3=>(Value.tuple #[])=.tuple #[]/\iS 274 w3 g n0 (gz false x c).1/\w3.heap[b]? = some (nG (gz false x c).2)/\Fr (fun k=>k=g\/k=b) w w3)):=fun o ho m' hm hs=>by
  refine ab.of (Us h hg) ?_;rintro _ w1 ⟨rfl,h1,f1⟩;refine⟨_,rfl,?_⟩;have ar:=f1.iX hb jA;refine ay.ai ar (by show 0+o<8;omega) rfl fun w2 aM f2 _=>?_;rw[hs];refine⟨rfl,h1.ag f2 (fun t=>by have:g=b:=t;omega) (fun k t=>by have:k=b:=t;omega),?_,Fw f1 f2⟩;rw[aM,Nat.zero_add,hm];rfl
 have dM:∀ (o:Nat) (ho:o<8) (m':aQ) (hm:((nG.wv x.2).setIfInBounds o (.string (str (fk false 1 x.1).1)))=nG.wv m') (hs:gz false x c=((fk false 1 x.1).2,m')),
   ab Tryz.prog 194 #[.pointer (some ⟨g,0,none⟩),.int .i64 1] w (.v (.one .str)) (fun(x1:ByteArray) w2=>ay ((⟨b,0,none⟩:Addr).add o) (.string x1) w2 (fun w3=>(Value.tuple #[])=.tuple #[]/\iS 274 w3 g n0 (gz false x c).1/\w3.heap[b]? = some (nG (gz false x c).2)/\Fr (fun k=>k=g\/k=b) w w3)):=fun o ho m' hm hs=>by
  refine ab.of (LZ h hg 1 (by decide)) ?_;rintro _ w1 ⟨rfl,h1,f1⟩;refine⟨_,rfl,?_⟩;have ar:=f1.iX hb jA;refine ay.ai ar (by show 0+o<8;omega) rfl fun w2 aM f2 _=>?_;rw[hs];refine⟨rfl,h1.ag f2 (fun t=>by have:g=b:=t;omega) (fun k t=>by have:k=b:=t;omega),?_,Fw f1 f2⟩;rw[aM,Nat.zero_add,hm];rfl
 rcases hc with rfl | rfl | rfl | rfl | rfl | rfl | rfl
 ·exact aa.f (by decide) (aa.f (by decide) (aa.f (by decide) (aa.t (by decide) (dM 1 (by decide) _ rfl rfl))))
 ·exact aa.f (by decide) (aa.f (by decide) (aa.f (by decide) (aa.f (by decide) (aa.t (by decide) (dM 2 (by decide) _ rfl rfl)))))
 ·exact aa.f (by decide) (aa.f (by decide) (aa.f (by decide) (aa.f (by decide) (aa.f (by decide) (aa.t (by decide) (dM 3 (by decide) _ rfl rfl))))))
 ·exact aa.f (by decide) (aa.f (by decide) (aa.f (by decide) (aa.f (by decide) (aa.f (by decide) (aa.f (by decide) (aa.t (by decide) (dM 4 (by decide) _ rfl rfl)))))))
 ·exact aa.t (by decide) (num 5 (by decide) _ rfl rfl)
 ·exact aa.f (by decide) (aa.t (by decide) (num 6 (by decide) _ rfl rfl))
 ·refine aa.f (by decide) (aa.f (by decide) (aa.t (by decide) ?_))
  refine ab.of (Ut h hg) ?_;rintro _ w1 ⟨rfl,h1,f1⟩;refine⟨_,rfl,?_⟩;have ar:=f1.iX hb jA;refine⟨Tm.fp _,av.one ar (by show 7<8;omega) (Tm.bP _) fun w2 aM f2 _=>?_⟩;refine⟨rfl,h1.ag f2 (fun t=>by have:g=b:=t;omega) (fun k t=>by have:k=b:=t;omega),?_,Fw f1 f2⟩;rw[aM];rfl
def dD (m:aQ):Prop:=m.2.1.length<=65535/\m.2.2.1.length<=65535/\m.2.2.2.1.length<=65535/\m.2.2.2.2.1.length<=65535/\aJ m.2.2.2.2.2.2.2<=1000000
theorem Uv (bs:List UInt8):aJ (mK bs).1<=1000000:=by
 unfold mK;split
 ·show aJ .none<=_;decide
 split
 ·show aJ .none<=_;decide
 ·rename_i h _
  exact LS (Classical.not_not.1 h)
theorem Uw (z:Bool)(x:gX×aQ)(c:UInt8)(h:dD x.2):dD (gz z x c).2:=by
 obtain⟨h1,h2,h3,h4,h5⟩:=h;have ht:=L0 z 1 (by decide) x.1;unfold gz
 repeat' split
 ·exact⟨h1,h2,h3,h4,h5⟩
 ·exact⟨h1,h2,h3,h4,h5⟩
 ·exact⟨h1,h2,h3,h4,Uv _⟩
 ·exact⟨ht,h2,h3,h4,h5⟩
 ·exact⟨h1,ht,h3,h4,h5⟩
 ·exact⟨h1,h2,ht,h4,h5⟩
 ·exact⟨h1,h2,h3,ht,h5⟩
theorem L1 (z:Bool):∀ (l:List UInt8) (x:gX×aQ),dD x.2->dD (l.foldl (gz z) x).2
 | [],x,h=>h
 | c::l,x,h=>L1 z l _ (Uw z x c h)
theorem Fy (z:Bool)(bs:List UInt8):dD (kM z bs).2:=L1 z _ _ ⟨by simp,by simp,by simp,by simp,by show aJ .none<=_;decide⟩
theorem dD.e {m:aQ}(h:dD m):o7 m.e:=by
 obtain⟨h1,h2,h3,h4,h5⟩:=h;exact⟨by show(str _).size<=_;rw[dx];omega,by show(str _).size<=_;rw[dx];omega,by show(str _).size<=_;rw[dx];omega,by show(str _).size<=_;rw[dx];omega⟩
theorem wz (t:Tm):o0 t.v:=by cases t<;>first | (exact .inl rfl) | (exact .inr ⟨_,_,rfl⟩)
theorem L2 (m:aQ)(h:dD m)(w:World)(ht:TabW w):Ret Tryz.prog 33 #[gV m.e] w fun r w'=>∃ v:Sl,r=.tuple #[.slice v.1 v.2.1 v.2.2,.int .i64 (da m).2]/\bR w' v (da m).1/\Fr none1 w w'/\∀ k,au v k->w.heap.size<=k:=by
 have hl:=sE m.t;exact D4 m.e (wz m.t) h.e (bh m.t).1 (by omega) (bh m.t).2 w fun _ w1 f=>AZ m.t h.2.2.2.2 w1 (ht.af f)
theorem L3 (m:aQ)(h:dD m):(da m).1.length<=10000000:=by
 have hl:=sE m.t;exact yH m.e h.e _ (by omega) _
theorem L4 (bs:List UInt8):Go.strOfNums (bs.map fun b=>(b.toNat:Int))=str bs:=by
 unfold Go.strOfNums str
 congr 1
 rw[List.map_map]
 congr 1
 conv=>rhs;rw[<- List.map_id bs]
 refine List.map_congr_left fun b _=>?_;simp
theorem L5 (bs:List UInt8):Lib.bytesOf (bs.map fun b=>(b.toNat:Int))=bs:=by
 unfold Lib.bytesOf;rw[List.map_map]
 conv=>rhs;rw[<- List.map_id bs]
 refine List.map_congr_left fun b _=>?_;simp
theorem Fz {w:World}{v u:Sl}{bs cs:List UInt8}(h:aY w v bs)(h':aY w u cs):Ret Tryz.prog 53 #[.slice v.1 v.2.1 v.2.2,.slice u.1 u.2.1 u.2.2] w fun r w'=>r=.bool (bs==cs)/\w=w':=by
 refine(Tryz.bytes_Equal _ _ (bs.map fun b=>(b.toNat:Int)) (cs.map fun b=>(b.toNat:Int)) w (by rw[L4];exact E4 h) (by rw[L4];exact E4 h')).mono ?_;rintro e w' ⟨rfl,rfl⟩;exact⟨_,rfl,by rw[L5,L5],rfl⟩
theorem Ux {c:UInt8}{k:Int}(h:c∈dZ k):c=73\/c=78\/c=76\/c=67\/c=68\/c=86\/c=84:=by
 have:=(List.mem_filter.1 h).1;simpa[o6] using this
theorem FA {w:World}{v:Sl}{bs:List UInt8}(h:aY w v bs)(hc:v.2.1<=v.2.2)(ht:TabW w):Ret Tryz.prog 93 #[.slice v.1 v.2.1 v.2.2] w fun r w'=>
  r=.tuple #[gV (fw false bs).1.e,.int .i64 (fw false bs).2]/\Fr none1 w w':=by
 refine c93 v.1 v.2.1 v.2.2 w _ ?_;unfold C93;refine aq.of fun g1 w1 di ar f1 jL=>aq.of fun g3 w2 wA ba f2 fQ=>aq.of fun g5 w3 uH dr f3 ox=>?_;have FB:w3.heap[g5]? = some (.cells (gP bp.e).toArray 36 (0,0)):=dr;refine av.aG (cs:=gP bp.e) (vs:=gP bp.e) FB rfl rfl fun w4 Uy f4 rn=>?_;have f13:=(f1.trans f2).trans f3;have f14:Fr none1 w w4:=f13.fresh f4 (by have:=f13.size;omega);have Uz:w4.heap[g3]? = _:=f4.ag (f3.af ba) (fun t=>by have:g3=g5:=t;omega);have BB:w4.heap[g1]? = some (.cells (gP bp.e).toArray 36 (0,0)):=f4.ag (f3.af (f2.af ar)) (fun t=>by have:g1=g5:=t;omega);have UA:iS 274 w4 g3 w.heap.size (bs,false):=⟨v,Uz,h.af f14,hc,fun hn k U=>h.Ft hn U⟩;refine ab.of (BA UA (by omega) 1) ?_;rintro _ w5 ⟨x8,rfl,hx,L6,UB,f5⟩;refine⟨x8,rfl,?_⟩;have UC:w5.heap[g5]? = some (nG bp):=f5.iX Uy (by omega);have UD:=f5.iX BB (by omega);have f15:Fr none1 w w5:=f14.fresh f5 (by omega);have kj:(dt false 1 (bs,false)).1.length<=1:=by
  unfold dt;split
  ·simp
  ·dsimp only;rw[List.length_take];omega
 have hM:kM false bs=(dZ (eV (dt false 1 (bs,false)).1:Int)).foldl (gz false) ((dt false 1 (bs,false)).2,((eV (dt false 1 (bs,false)).1:Int),[],[],[],[],0,0,.none)):=rfl;have sM:=Fy false bs;have hP:fw false bs=if yC false bs=true then((kM false bs).2,0) else(bp,2):=rfl;have hO:yC false bs=(!(kM false bs).1.2&&((da (kM false bs).2).2==0&&((da (kM false bs).2).1==bs&&(!false||(kM false bs).1.1==[])))):=rfl;generalize fw false bs=P at *;generalize yC false bs=O at *;generalize kM false bs=M at *;generalize dt false 1 (bs,false)=x at *;have abf:=hx.len;refine bj.of (fun st w'=>∃ i:Nat,st.1=i/\i<=x.1.length/\w'.heap[g5]? = some (nG ((eV (x.1.take i):Int),[],[],[],[],0,0,.none))/\Fr (only g5) w5 w') (fun st _=>(1 - st.1).toNat) ⟨0,rfl,by omega,UC,Fr.refl _ _⟩ ?_;rintro _ ⟨i',_⟩ w6 ⟨i,hi,iz,yT,f6⟩;dsimp only at hi ⊢;subst hi;have L7:aY w6 x8 x.1:=hx.sL f6 fun hn k U t=>by have:=L6 hn k U;have:k=g5:=t;omega
 have UE:=UB.ag f6 (fun t=>by have:g3=g5:=t;omega) (fun k t=>by have:k=g5:=t;omega);have BC:=f6.iX UD (by omega);refine aa.dec (fun aU=>?_) (fun dh=>?_)
 ·refine aY.at L7 (by omega) aU ?_
  have hb:=(x.1.getD (Int.toNat (i:Int)) 0).toNat_lt;refine ay.ai yT (by show 0+0<8;omega) rfl fun w7 wC f7 _=>?_;rw[wI (by omega) (by omega)] at wC;refine⟨⟨i+1,by rw[wI (by omega) (by omega)];omega,by omega,?_,f6.trans f7⟩,by rw[wI (by omega) (by omega)];omega⟩;have UF:i=0:=by omega
  subst UF;rw[wC,DI x.1 0 (by omega)];show some (Obj.cells _ _ _)=some (Obj.cells _ _ _);simp[nG.wv,eV]
 rw[List.take_of_length_le (by omega)] at yT;clear hx L7 L6;refine ae.ai yT (x:=(eV x.1:Int)) rfl ?_;refine ab.of (JT (eV x.1:Int) w6) ?_;rintro _ w7 ⟨fv,rfl,xX,f7,ff⟩;refine⟨fv,rfl,?_⟩;have s5:=f15.size;have s6:=f6.size;have s7:=f7.size;have wC:=f7.af yT;have UG:=f7.af BC;have FC:=UE.af f7;have f17:Fr none1 w w7:=(f15.fresh f6 (by omega)).trans f7;have je:=xX.len;rw[List.length_map] at je;have AK:(dZ (eV x.1:Int)).length<=7:=by unfold dZ;exact Nat.le_trans (List.length_filter_le _ _) (by decide)
 have sh:∀ c∈dZ (eV x.1:Int),c=73\/c=78\/c=76\/c=67\/c=68\/c=86\/c=84:=fun c h=>Ux h;generalize dZ (eV x.1:Int)=L at *;obtain⟨X,hX⟩:∃ X:gX×aQ,X=(x.2,((eV x.1:Int),[],[],[],[],0,0,.none)):=⟨_,rfl⟩;rw[<- hX] at hM;have FC:iS 274 w7 g3 w.heap.size X.1:=by rw[hX];exact FC
 have wC:w7.heap[g5]? = some (nG X.2):=by rw[hX];exact wC
 refine bj.of (fun st w'=>∃ i:Nat,st.1=i/\i<=L.length/\iS 274 w' g3 w.heap.size ((L.take i).foldl (gz false) X).1/\w'.heap[g5]? = some (nG ((L.take i).foldl (gz false) X).2)/\Fr (fun k=>k=g3\/k=g5) w7 w') (fun st _=>(L.length - st.1).toNat) ⟨0,rfl,by omega,FC,wC,Fr.refl _ _⟩ ?_;rintro _ ⟨i',_⟩ w8 ⟨i,hi,iz,FD,BD,f8⟩;dsimp only at hi ⊢;subst hi;have UH:ku w8 fv (L.map dA):=aD.ag xX f8 fun k U t=>by have:=ff k U;have h5:=cj yT;rcases t with t | t<;>omega
 refine aa.dec (fun aU=>?_) (fun dh=>?_)
 ·have D7:i<L.length:=by omega
  refine ku.ld UH (by omega) aU ?_;obtain⟨c,hc⟩:∃ c,L[i]? = some c:=⟨_,List.getElem?_eq_getElem D7⟩;have D8:(L.map dA).getD (Int.toNat (i:Int)) 0=dA c:=by
   rw[Int.toNat_natCast,List.getD_eq_getElem?_getD,List.getElem?_map,hc];rfl
  rw[D8];refine ab.of (Uu FD (by omega) BD (by omega) (by omega) c (sh c (List.mem_of_getElem? hc))) ?_;rintro _ w9 ⟨rfl,UI,FE,f9⟩;refine⟨(),rfl,⟨i+1,by rw[wI (by omega) (by omega)];omega,by omega,?_,?_,f8.trans f9⟩,by rw[wI (by omega) (by omega)];omega⟩
  ·rw[List.take_add_one,hc,List.foldl_append];exact UI
  ·rw[List.take_add_one,hc,List.foldl_append];exact FE
 rw[List.take_of_length_le (by omega),<- hM] at FD BD;have f18:Fr none1 w w8:=f17.comp f8 fun k U t=>by rcases t with t | t<;>omega
 have UJ:w8.heap[g1]? = _:=f8.ag UG (fun t=>by rcases t with t | t<;>omega)
 refine az.aG (cks:=EK) (x:=M.2.e) BD ?_;refine ab.of (L2 M.2 sM w8 (ht.af f18)) ?_;rintro _ w9 ⟨u,rfl,hu,f9,uf⟩;refine⟨(u,(da M.2).2,()),rfl,?_⟩;have BE:=f9.af UJ;have FE:=f9.af BD;have f19:=f18.trans f9;have fail:O=false->∀ aK,aK.heap[g1]? = some (.cells (gP bp.e).toArray 36 (0,0))->Fr none1 w aK->av ⟨g1,0,none⟩ (gP bp.e) aK (fun cn=>az EK ⟨g1,0,none⟩ cn (fun(y:dz)=>(Value.tuple #[gV y,.int .i64 2])=.tuple #[gV P.1.e,.int .i64 P.2]/\Fr none1 w cn)):=fun ho aK hb f10=>by
  rw[hP,ho];refine av.aG (cs:=gP bp.e) (vs:=gP bp.e) hb rfl rfl fun aR pw f11 _=>az.aG (cks:=EK) (x:=bp.e) pw ?_;exact⟨rfl,f10.fresh f11 (by omega)⟩
 obtain⟨ru,UK,hru,hrc,yQ⟩:=FD.af f9;refine ae.ai UK (x:=M.1.2) rfl ?_;refine aa.by (fun e=>fail (by rw[hO,e];rfl) w9 BE f19) (fun e=>?_);dsimp only;refine aa.ne (fun aA=>fail (by rw[hO,e];simp[aA]) w9 BE f19) (fun he=>?_);refine ab.of (Fz hu.rd (h.af f19)) ?_;rintro _ _ ⟨rfl,rfl⟩;refine⟨_,rfl,aa.not (aa.by (fun eq=>?_) (fun ne=>fail (by rw[hO,ne];simp) w9 BE f19))⟩;have ho:O=true:=by rw[hO,e,he,eq];rfl
 rw[hP,ho];refine az.aG (cks:=EK) (x:=M.2.e) FE ?_;refine av.aG (cs:=gP bp.e) (vs:=gP M.2.e) BE rfl (E9 (Tm.bP _)) fun aK UL f10 _=>az.aG (cks:=EK) (x:=M.2.e) UL ?_;exact⟨rfl,f19.fresh f10 (by omega)⟩
namespace Vc
variable {P:Program}
abbrev CmV:=Int×Int×Int×Int×Int×ByteArray×(Option Addr×Nat×Nat)×(Option Addr×Nat×Nat)×Unit
def cmL (c:CmV):List Value:=[.int .i64 c.1,.int .i64 c.2.1,.int .i64 c.2.2.1,.int .i64 c.2.2.2.1,.int .i64 c.2.2.2.2.1,.string c.2.2.2.2.2.1,.slice c.2.2.2.2.2.2.1.1 c.2.2.2.2.2.2.1.2.1 c.2.2.2.2.2.2.1.2.2,.slice c.2.2.2.2.2.2.2.1.1 c.2.2.2.2.2.2.2.1.2.1 c.2.2.2.2.2.2.2.1.2.2]
def L8 (c:CmV):PlV:=(c.2.2.2.2.2.2.1,c.2.2.2.2.2.2.2.1,())
def IsCm (w:World)(c:CmV):Prop:=IsPl w (L8 c)/\(Lit.int .i64 c.1).wf=true/\(Lit.int .i64 c.2.1).wf=true/\(Lit.int .i64 c.2.2.1).wf=true/\(Lit.int .i64 c.2.2.2.1).wf=true/\(Lit.int .i64 c.2.2.2.2.1).wf=true/\c.2.2.2.2.2.1.size<=maxLen
theorem open_cmd {H:Type}{enc:TypeId×Value->H}{w:World}{base:Nat}{held:Bool}{t ti ts tp t0 t1 e0 e1:TypeId}{f0 f1 f2 f3 f4 f5 f6 g0 g1:Field}{fuel:Nat}{cs:List Value}{x:DataW H×List MemPlace}
  (ht:P.underlying t=some (.struct #[f0,f1,f2,f3,f4,f5,f6]))
  (q0:f0.type=ti/\f0.offset=0) (q1:f1.type=ti/\f1.offset=1) (q2:f2.type=ti/\f2.offset=2) (q3:f3.type=ti/\f3.offset=3) (q4:f4.type=ti/\f4.offset=4) (q5:f5.type=ts/\f5.offset=5) (q6:f6.type=tp/\f6.offset=6)
  (np:P.underlying ti=some (.int .i64)) (jC:P.underlying ts=some .string) (UM:P.underlying tp=some (.struct #[g0,g1])) (FF:g0.type=t0) (di:g1.type=t1) (E7:g0.offset=0) (E8:g1.offset=1)
  (hc:P.cellsOf t=8) (uI:P.cellsOf ti=1) (hcs:P.cellsOf ts=1) (vv:P.cellsOf tp=2) (yM:P.cellsOf t0=1) (nC:P.cellsOf t1=1)
  (h0:P.underlying t0=some (.slice e0)) (h1:P.underlying t1=some (.slice e1)) (k0:P.underlying e0=some (.int .i64)) (k1:P.underlying e1=some .string) (d0:P.cellsOf e0=1) (d1:P.cellsOf e1=1)
  (h:DataW.trod enc P w base (fun _=>true) held fuel t cs=some x):∃ c:CmV,cs=cmL c/\IsCm w c:=by
 obtain⟨xs,n,_,_,hl,hlen,hf⟩:=DataW.trod_struct ht h;rw[hc] at hl
 match xs,hlen with
 | [y0,y1,y2,y3,y4,y5,y6],_=>
  match cs,hl with
  | [c0,c1,c2,c3,c4,c5,c6,c7],_=>
   have a0:=hf 0 f0 rfl;have a1:=hf 1 f1 rfl;have a2:=hf 2 f2 rfl;have a3:=hf 3 f3 rfl;have a4:=hf 4 f4 rfl;have a5:=hf 5 f5 rfl;have a6:=hf 6 f6 rfl;rw[q0.1,q0.2,uI] at a0;rw[q1.1,q1.2,uI] at a1;rw[q2.1,q2.2,uI] at a2;rw[q3.1,q3.2,uI] at a3;rw[q4.1,q4.2,uI] at a4;rw[q5.1,q5.2,hcs] at a5;rw[q6.1,q6.2,vv] at a6;simp only[List.drop_zero,List.drop_succ_cons,List.take_succ_cons,List.take_zero,List.getElem?_cons_zero,List.getElem?_cons_succ] at a0 a1 a2 a3 a4 a5 a6;obtain⟨z0,e0,_,w0⟩:=DataW.trod_int np a0;obtain⟨z1,e1,_,w1⟩:=DataW.trod_int np a1;obtain⟨z2,e2,_,w2⟩:=DataW.trod_int np a2;obtain⟨z3,e3,_,w3⟩:=DataW.trod_int np a3;obtain⟨z4,e4,_,w4⟩:=DataW.trod_int np a4;obtain⟨s5,e5,_,w5⟩:=DataW.trod_string jC a5;obtain⟨p,ep,hp⟩:=open_plan UM FF di E7 E8 vv yM nC h0 h1 k0 k1 d0 d1 a6;simp only[List.cons.injEq,and_true] at e0 e1 e2 e3 e4 e5 ep;obtain⟨p1,p2⟩:=ep;subst e0;subst e1;subst e2;subst e3;subst e4;subst e5;subst p1;subst p2;exact⟨(z0,z1,z2,z3,z4,s5,p.1,p.2.1,()),rfl,hp,w0,w1,w2,w3,w4,w5⟩
end Vc
def wD (w:World)(S:Nat->Prop)(x:pv):Prop:=∃ (e:dz) (t:Tm) (v:TV),x=Bo e v/\e.2.2.2.2.2.2.2.1=t.v/\o7 e/\aJ t<=2000/\qm t/\kQ w S (ql t) v
structure ll (w wc:World)(g1 g3 g5:Nat)(c:CmV):Prop where
 b1:wc.heap[g1]? = some (.cells (cmL c).toArray 55 (0,0))
 pl:IsPl w (L8 c)
 b3:∃ x:pv,wc.heap[g3]? = some (.cells (uD x).toArray 62 (0,0))
 b5:∃ x:pv,wc.heap[g5]? = some (.cells (uD x).toArray 62 (0,0))/\wD wc (fun k=>w.heap.size<=k/\k<wc.heap.size/\k≠g3/\k≠g5) x
 fr:Fr none1 w wc
 lo:w.heap.size<=g1/\w.heap.size<=g3/\w.heap.size<=g5/\g1≠g3/\g1≠g5/\g3≠g5
theorem wD.ag {w w':World}{S S' T:Nat->Prop}{x:pv}(h:wD w S x)(f:Fr T w w')(hn:∀ k,S k->¬ T k)(hs:∀ k,S k->S' k):wD w' S' x:=by
 obtain⟨e,t,v,h1,h2,h3,h4,h5,h6⟩:=h;exact⟨e,t,v,h1,h2,h3,h4,h5,kQ.mono hs _ _ (kQ.ag f hn _ _ h6)⟩
def Told (w:World)(r:Value)(w':World):Prop:=∃ x:pv,r=LI x/\wD w' (fun k=>w.heap.size<=k/\k<w'.heap.size) x/\Fr none1 w w'
theorem ll.fin {w wc:World}{g1 g3 g5:Nat}{c:CmV}(h:ll w wc g1 g3 g5 c):
  az Br ⟨g5,0,none⟩ wc (fun(x:pv)=>av ⟨g3,0,none⟩ (uD x) wc (fun w2=>az Br ⟨g3,0,none⟩ w2 (fun(y:pv)=>Told w (LI y) w2))):=by
 obtain⟨x3,h3⟩:=h.b3;obtain⟨x5,h5,hf⟩:=h.b5;refine az.aG (cks:=Br) (x:=x5) h5 ?_;refine av.aG (cs:=uD x3) (vs:=uD x5) h3 rfl rfl fun w2 aM f2 _=>az.aG (cks:=Br) (x:=x5) aM ?_;exact⟨x5,rfl,hf.ag f2 (fun k U t=>U.2.2.1 t) (fun k U=>⟨U.1,Nat.lt_of_lt_of_le U.2.1 f2.size⟩),h.fr.fresh f2 h.lo.2.1⟩
theorem ll.put {w wc wd:World}{g1 g3 g5:Nat}{c:CmV}(h:ll w wc g1 g3 g5 c){x x':pv}(hx:wc.heap[g5]? = some (.cells (uD x).toArray 62 (0,0)))(f:Fr (only g5) wc wd)(hb:wd.heap[g5]? = some (.cells (uD x').toArray 62 (0,0)))
  (hf:wD wc (fun k=>w.heap.size<=k/\k<wc.heap.size/\k≠g3/\k≠g5) x'):ll w wd g1 g3 g5 c:=by
 obtain⟨x3,h3⟩:=h.b3;obtain⟨l1,l2,l3,l4,l5,l6⟩:=h.lo;exact⟨f.ag h.b1 (fun t=>l5 t),h.pl,⟨x3,f.ag h3 (fun t=>l6 t)⟩,⟨x',hb,hf.ag f (fun k U t=>U.2.2.2 t) fun k U=>⟨U.1,Nat.lt_of_lt_of_le U.2.1 f.size,U.2.2⟩⟩,h.fr.fresh f l3,h.lo⟩
theorem ll.s1 {w wc:World}{g1 g3 g5:Nat}{c:CmV}(h:ll w wc g1 g3 g5 c)(s:ByteArray)(hs:s.size<=1000000){K:World->Prop}(k:∀ wd,ll w wd g1 g3 g5 c->Fr (only g5) wc wd->K wd):ay ((⟨g5,0,none⟩:Addr).add 1) (.string s) wc K:=by
 obtain⟨x5,h5,e,t,v,rfl,he,hz,hn,uE,hT⟩:=h.b5;exact ay.ai h5 (by show 0+1<11;omega) rfl fun wd hb f _=>k wd (h.put h5 (x':=Bo (e.1,s,e.2.2) v) f hb ⟨(e.1,s,e.2.2),t,v,rfl,he,⟨hs,hz.2⟩,hn,uE,hT⟩) f
theorem ll.s2 {w wc:World}{g1 g3 g5:Nat}{c:CmV}(h:ll w wc g1 g3 g5 c)(s:ByteArray)(hs:s.size<=1000000){K:World->Prop}(k:∀ wd,ll w wd g1 g3 g5 c->Fr (only g5) wc wd->K wd):ay ((⟨g5,0,none⟩:Addr).add 2) (.string s) wc K:=by
 obtain⟨x5,h5,e,t,v,rfl,he,hz,hn,uE,hT⟩:=h.b5;exact ay.ai h5 (by show 0+2<11;omega) rfl fun wd hb f _=>k wd (h.put h5 (x':=Bo (e.1,e.2.1,s,e.2.2.2) v) f hb ⟨(e.1,e.2.1,s,e.2.2.2),t,v,rfl,he,⟨hz.1,hs,hz.2.2⟩,hn,uE,hT⟩) f
theorem ll.s3 {w wc:World}{g1 g3 g5:Nat}{c:CmV}(h:ll w wc g1 g3 g5 c)(s:ByteArray)(hs:s.size<=1000000){K:World->Prop}(k:∀ wd,ll w wd g1 g3 g5 c->Fr (only g5) wc wd->K wd):ay ((⟨g5,0,none⟩:Addr).add 3) (.string s) wc K:=by
 obtain⟨x5,h5,e,t,v,rfl,he,hz,hn,uE,hT⟩:=h.b5;exact ay.ai h5 (by show 0+3<11;omega) rfl fun wd hb f _=>k wd (h.put h5 (x':=Bo (e.1,e.2.1,e.2.2.1,s,e.2.2.2.2) v) f hb ⟨(e.1,e.2.1,e.2.2.1,s,e.2.2.2.2),t,v,rfl,he,⟨hz.1,hz.2.1,hs,hz.2.2.2⟩,hn,uE,hT⟩) f
theorem L9 {p:Addr}{m:Nat}:∀ (vs:List Value) (w:World) (i:Nat),oL w p (m+i) vs->oL w (p.add m) i vs
 | [],_,_,_=>trivial
 | v::vs,w,i,⟨h1,h2,h3,h4⟩=>⟨h1,by rw[add_add];exact h2,by rw[add_add];exact h3,by rw[add_add];exact L9 vs _ (i+1) h4⟩
theorem Ma {p:Addr}{m:Nat}:∀ (vs:List Value) (w:World) (i:Nat),setCells w (p.add m) i vs=setCells w p (m+i) vs
 | [],_,_=>rfl
 | v::vs,w,i=>by
  show setCells (w.setCell ((p.add m).add i) v) (p.add m) (i+1) vs=setCells (w.setCell (p.add (m+i)) v) p (m+i+1) vs;rw[add_add,Ma vs _ (i+1)];rfl
theorem ll.rs {w wc:World}{g1 g3 g5:Nat}{c:CmV}(h:ll w wc g1 g3 g5 c){K:ByteArray->Prop}(k:∀ x,K x):ae .str ((⟨g1,0,none⟩:Addr).add 5) wc K:=ae.ai h.b1 (x:=c.2.2.2.2.2.1) rfl (k _)
theorem wE {S:Nat->Prop}{g i:Nat}{K:Prop}(hS:S g)(k:K):aE S ((⟨g,0,none⟩:Addr).add i) K:=⟨by rw[dw];exact hS,k⟩
theorem UN {w:World}{x:Sl}{xs:List UInt8}(hx:bR w x xs){y:Sl}{ys:List UInt8}(hy:bR w y ys)(hl:xs.length+ys.length<=140737488355000){K:(Option Addr×Nat×Nat)->World->Prop}
  (k:∀ (u:Sl) w',bR w' u (xs++ys)->Fr (au x) w w'->(∀ k,au u k->au x k\/w.heap.size<=k)->K u w') :
  aw Tryz.prog (Builtin.append_ #[22,22] 22 #[.slice x.1 x.2.1 x.2.2,.slice y.1 y.2.1 y.2.2]) w (.v (.one .ah)) (fun(u:Option Addr×Nat×Nat) w'=>K u w'):=by
 obtain⟨u,w',hr,hu,f,uf⟩:=qK hx hy.rd hl;exact⟨u,w',hr,k u w' hu f uf⟩
def hZ (z:Bool)(bs:List UInt8):(aQ×Bool)×Int:=
 if bs=[]\/1<bs.getD 0 0 then((bp,false),2) else if(fw z (bs.drop 1)).2≠0 then((bp,false),(fw z (bs.drop 1)).2) else(((fw z (bs.drop 1)).1,bs.getD 0 0==1),0)
abbrev qn:List Ck:=[.int .i64,.str,.str,.str,.str,.int .i64,.int .i64,.raw,.bool]
def pz (e:dz)(r:Bool):List Value:=[.int .i64 e.1,.string e.2.1,.string e.2.2.1,.string e.2.2.2.1,.string e.2.2.2.2.1,.int .i64 e.2.2.2.2.2.1,.int .i64 e.2.2.2.2.2.2.1,e.2.2.2.2.2.2.2.1,.bool r]
theorem FG {e:dz}(r:Bool)(h:bJ e.2.2.2.2.2.2.2.1=true):(pz e r).all bJ=true:=by
 show(bJ (.int .i64 _)&&(bJ (.string _)&&(bJ (.string _)&&(bJ (.string _)&&(bJ (.string _)&&(bJ (.int .i64 _)&&(bJ (.int .i64 _)&&(bJ e.2.2.2.2.2.2.2.1&&(bJ (.bool r)&&true)))))))))=true;rw[h];rfl
theorem UO {w:World}{v:Sl}{bs:List UInt8}(h:aY w v bs)(hc:v.2.1<=v.2.2)(ht:TabW w):Ret Tryz.prog 91 #[.slice v.1 v.2.1 v.2.2] w fun r w'=>
  r=.tuple #[E5 (hZ false bs).1.1.e (hZ false bs).1.2,.int .i64 (hZ false bs).2]/\Fr none1 w w':=by
 refine c91 v.1 v.2.1 v.2.2 w _ ?_;unfold C91;have hl:=h.len;refine aq.of fun g1 w1 di ar f1 jL=>?_;have ar:w1.heap[g1]? = some (.cells (pz bp.e false).toArray 110 (0,0)):=ar;have fail:∀ (code:Int) (q:hZ false bs=((bp,false),code)) (w2:World),w2.heap[g1]? = some (.cells (pz bp.e false).toArray 110 (0,0))->Fr none1 w w2->av ⟨g1,0,none⟩ (pz bp.e false) w2 (fun w3=>az qn ⟨g1,0,none⟩ w3 (fun(y:Lt)=>(Value.tuple #[.agg #[.int .i64 y.1,.string y.2.1,.string y.2.2.1,.string y.2.2.2.1,.string y.2.2.2.2.1,.int .i64 y.2.2.2.2.2.1,.int .i64 y.2.2.2.2.2.2.1,y.2.2.2.2.2.2.2.1,.bool y.2.2.2.2.2.2.2.2.1],.int .i64 code])=.tuple #[E5 (hZ false bs).1.1.e (hZ false bs).1.2,.int .i64 (hZ false bs).2]/\Fr none1 w w3)):=fun code q w2 hb f2=>by
  rw[q];refine av.aG (cs:=pz bp.e false) (vs:=pz bp.e false) hb rfl rfl fun w3 ba f3 _=>az.aG (cks:=qn) (x:=mP bp.e false) ba ?_;exact⟨rfl,f2.fresh f3 (by omega)⟩
 refine aa.eq (fun e=>?_) (fun e=>?_)
 ·have:bs=[]:=List.eq_nil_of_length_eq_zero (by omega)
  exact fail 2 (by unfold hZ;rw[if_pos (.inl this)]) w1 ar f1
 have aA:bs≠[]:=fun t=>by subst t;exact e (by rw[hl];rfl)
 have hlp:0<bs.length:=by cases bs with
  | nil=>exact(aA rfl).elim
  | cons _ _=>simp
 refine aY.at (h.af f1) (Int.le_refl _) (by omega) ?_;rw[show Int.toNat 0=0 by rfl];refine aa.dec (fun Up=>?_) (fun hle=>?_)
 ·exact fail 2 (by unfold hZ;rw[if_pos (.inr (by rw[UInt8.lt_iff_toNat_lt];show 1<_;omega))]) w1 ar f1
 have Du:¬ 1<bs.getD 0 0:=fun t=>hle (by rw[UInt8.lt_iff_toNat_lt] at t;have:(1:UInt8).toNat=1:=rfl;omega);have hE:hZ false bs=if(fw false (bs.drop 1)).2≠0 then((bp,false),(fw false (bs.drop 1)).2) else(((fw false (bs.drop 1)).1,bs.getD 0 0==1),0):=by
  unfold hZ;rw[if_neg (fun t=>t.elim aA Du)]
 refine aY.jj (h.af f1) (by omega) (by omega) (Int.le_refl _) hc fun u hu oy cS lQ=>?_;have e2:(bs.drop (1:Int).toNat).take ((v.2.1:Int) - 1).toNat=bs.drop 1:=by
  rw[show(1:Int).toNat=1 by rfl];exact List.take_of_length_le (by rw[List.length_drop];omega)
 rw[e2] at hu;refine ab.of (FA hu oy (ht.af f1)) ?_;rintro _ w2 ⟨rfl,f2⟩;refine⟨((fw false (bs.drop 1)).1.e,(fw false (bs.drop 1)).2,()),rfl,?_⟩;generalize fw false (bs.drop 1)=P at *;have f12:=f1.trans f2;refine cB (zs:=gP bp.e) (vs:=gP P.1.e) rfl (E9 (Tm.bP _)) fun g4 w4 hg4 dm f4=>?_;have s2:=f2.size;have BB:=f4.af (f2.af ar);have f14:=f12.trans f4;refine aa.ne (fun hc=>?_) (fun hc=>?_)
 ·exact fail P.2 (by rw[hE,if_pos hc]) w4 BB f14
 refine aH.of fun w5 _ f5=>?_;refine az.aG (cks:=EK) (x:=P.1.e) (f5.af dm) ?_;refine aY.at ((h.af f14).af f5) (Int.le_refl _) (by omega) ?_;rw[show Int.toNat 0=0 by rfl];have UP:(((bs.getD 0 0).toNat:Int)==1)=(bs.getD 0 0==1):=by
  rw[Bool.eq_iff_iff];simp only[beq_iff_eq];exact⟨fun t=>UInt8.toNat_inj.1 (by have:(1:UInt8).toNat=1:=rfl;omega),fun t=>by rw[t];rfl⟩
 rw[UP];refine av.aG (cs:=pz bp.e false) (vs:=pz P.1.e (bs.getD 0 0==1)) (f5.af BB) rfl (FG _ (Tm.bP _)) fun w6 gI f6 _=>az.aG (cks:=qn) (x:=mP P.1.e (bs.getD 0 0==1)) gI ?_;rw[hE,if_neg (fun t=>t hc)];exact⟨rfl,(f14.trans f5).fresh f6 (by omega)⟩
namespace Vc
theorem bK.FH {base:Option Addr}{len:Nat}{i:Int}{size:Nat}{K:Addr->Prop}{S:Nat->Prop}(hS:∀ a,base=some a->S a.block)(h:bK base len i size K):bK base len i size fun p=>aE S p (K p):=by
 obtain⟨a,ha,h0,h1,k⟩:=h.out;exact⟨a,ha,h0,h1,⟨by rw[I8];exact hS a ha,k⟩⟩
theorem ak.same {S:Nat->Prop}{w:World}{K:Prop}(k:K):ak S w w K:=ak.of (Fr.refl _ _) k
end Vc
def C199 (p0:Int)(p1:Int)(w:World)(K:Value->World->Prop):Prop:=
 lA (IntKind.u64.wrap ((BitVec.ofInt 64 (IntKind.u64.wrap p1) &&& BitVec.ofInt 64 63).toNat:Int)) (lA (IntKind.u64.wrap (64 - (IntKind.u64.wrap ((BitVec.ofInt 64 (IntKind.u64.wrap p1) &&& BitVec.ofInt 64 63).toNat:Int)))) (K (.int .u64 (IntKind.u64.wrap ((BitVec.ofInt 64 (IntKind.u64.wrap (p0 * 2 ^ (min (Int.toNat (IntKind.u64.wrap ((BitVec.ofInt 64 (IntKind.u64.wrap p1) &&& BitVec.ofInt 64 63).toNat:Int))) 64))) ||| BitVec.ofInt 64 (Int.fdiv p0 (2 ^ (min (Int.toNat (IntKind.u64.wrap (64 - (IntKind.u64.wrap ((BitVec.ofInt 64 (IntKind.u64.wrap p1) &&& BitVec.ofInt 64 63).toNat:Int))))) 64)))).toNat:Int))) w))
def pl199:aB:=.auto
theorem c199 (p0:Int)(p1:Int)(w:World)(K:Value->World->Prop)(h:C199 p0 p1 w K):Ret Tryz.prog 199 #[.int .u64 p0,.int .i64 p1] w K:=aC (by kernel_rfl) Tryz.func199 (p:=pl199) (Eq.mpr (by kernel_rfl) h)
def C154 (p0:Addr)(w:World)(K:Value->World->Prop):Prop:=
 aH w (fun w1=>ae (.int .u64) (p0.add 0) w1 (fun(x2:Int)=>ae (.int .u64) (p0.add 1) w1 (fun(x3:Int)=>ay (p0.add 0) (.int .u64 (IntKind.u64.wrap (x2+x3))) w1 (fun w4=>aH w4 (fun w5=>bb (fun S6=>aE S6 (p0.add 1) (ae (.int .u64) (p0.add 1) w5 (fun(x7:Int)=>aE S6 (p0.add 0) (ae (.int .u64) (p0.add 0) w5 (fun(x8:Int)=>ab Tryz.prog 199 #[.int .u64 x7,.int .i64 13] w5 (.v (.one (.int .u64))) (fun(x9:Int) aK=>ak S6 w5 aK (ay (p0.add 1) (.int .u64 (IntKind.u64.wrap ((BitVec.ofInt 64 x9 ^^^ BitVec.ofInt 64 x8).toNat:Int))) aK (fun aR=>ae (.int .u64) (p0.add 0) aR (fun(bw:Int)=>ab Tryz.prog 199 #[.int .u64 bw,.int .i64 32] aR (.v (.one (.int .u64))) (fun(bC:Int) bu=>ay (p0.add 0) (.int .u64 bC) bu (fun bL=>aH bL (fun br=>ae (.int .u64) (p0.add 2) br (fun(aX:Int)=>ae (.int .u64) (p0.add 3) br (fun(bE:Int)=>ay (p0.add 2) (.int .u64 (IntKind.u64.wrap (aX+bE))) br (fun bO=>aH bO (fun bz=>bb (fun lR=>aE lR (p0.add 3) (ae (.int .u64) (p0.add 3) bz (fun(cr:Int)=>aE lR (p0.add 2) (ae (.int .u64) (p0.add 2) bz (fun(cc:Int)=>ab Tryz.prog 199 #[.int .u64 cr,.int .i64 16] bz (.v (.one (.int .u64))) (fun(cN:Int) dn=>ak lR bz dn (ay (p0.add 3) (.int .u64 (IntKind.u64.wrap ((BitVec.ofInt 64 cN ^^^ BitVec.ofInt 64 cc).toNat:Int))) dn (fun bZ=>aH bZ (fun eM=>ae (.int .u64) (p0.add 0) eM (fun(eX:Int)=>ae (.int .u64) (p0.add 3) eM (fun(cH:Int)=>ay (p0.add 0) (.int .u64 (IntKind.u64.wrap (eX+cH))) eM (fun cn=>aH cn (fun eK=>bb (fun FI=>aE FI (p0.add 3) (ae (.int .u64) (p0.add 3) eK (fun(dH:Int)=>aE FI (p0.add 0) (ae (.int .u64) (p0.add 0) eK (fun(ez:Int)=>ab Tryz.prog 199 #[.int .u64 dH,.int .i64 21] eK (.v (.one (.int .u64))) (fun(de:Int) cW=>ak FI eK cW (ay (p0.add 3) (.int .u64 (IntKind.u64.wrap ((BitVec.ofInt 64 de ^^^ BitVec.ofInt 64 ez).toNat:Int))) cW (fun dq=>aH dq (fun jg=>ae (.int .u64) (p0.add 2) jg (fun(eY:Int)=>ae (.int .u64) (p0.add 1) jg (fun(iw:Int)=>ay (p0.add 2) (.int .u64 (IntKind.u64.wrap (eY+iw))) jg (fun kL=>aH kL (fun eU=>bb (fun FJ=>aE FJ (p0.add 1) (ae (.int .u64) (p0.add 1) eU (fun(kn:Int)=>aE FJ (p0.add 2) (ae (.int .u64) (p0.add 2) eU (fun(fY:Int)=>ab Tryz.prog 199 #[.int .u64 kn,.int .i64 17] eU (.v (.one (.int .u64))) (fun(mv:Int) kx=>ak FJ eU kx (ay (p0.add 1) (.int .u64 (IntKind.u64.wrap ((BitVec.ofInt 64 mv ^^^ BitVec.ofInt 64 fY).toNat:Int))) kx (fun gu=>ae (.int .u64) (p0.add 2) gu (fun(fR:Int)=>ab Tryz.prog 199 #[.int .u64 fR,.int .i64 32] gu (.v (.one (.int .u64))) (fun(jy:Int) iA=>ay (p0.add 2) (.int .u64 jy) iA (fun kq=>K (.tuple #[]) kq))))))))))))))))))))))))))))))))))))))))))))))))))))))))))
def pl154:aB:=(.seq (.tail 11) (.seq (.held (.soft 0 (.soft 1 (.soft 2 (.soft 3 (.soft 4 (.soft 6 (.soft 7 (.soft 8 (.soft 9 (.pick 5 (.soft 10 (.soft 11 (.soft 12 (.last 13 .done)))) .stop))))))))))) (.seq .auto (.seq (.tail 11) (.seq (.held (.soft 0 (.soft 1 (.soft 2 (.soft 3 (.soft 4 (.soft 6 (.soft 7 (.soft 8 (.soft 9 (.pick 5 (.soft 10 (.soft 11 (.soft 12 (.last 13 .done)))) .stop))))))))))) (.seq (.tail 11) (.seq (.held (.soft 0 (.soft 1 (.soft 2 (.soft 3 (.soft 4 (.soft 6 (.soft 7 (.soft 8 (.soft 9 (.pick 5 (.soft 10 (.soft 11 (.soft 12 (.last 13 .done)))) .stop))))))))))) (.seq (.tail 11) (.seq (.held (.soft 0 (.soft 1 (.soft 2 (.soft 3 (.soft 4 (.soft 6 (.soft 7 (.soft 8 (.soft 9 (.pick 5 (.soft 10 (.soft 11 (.soft 12 (.last 13 .done)))) .stop))))))))))) .auto)))))))))
theorem c154 (p0:Addr)(w:World)(K:Value->World->Prop)(h:C154 p0 w K):Ret Tryz.prog 154 #[.pointer (some p0)] w K:=aC (by kernel_rfl) Tryz.func154 (p:=pl154) (Eq.mpr (by kernel_rfl) h)
def C106 (p0:Addr)(p1:Int)(w:World)(K:Value->World->Prop):Prop:=
 bj (Int×Unit) (fun _ s1 w2 gr=>aa (decide (s1.1<p1))
 (ab Tryz.prog 154 #[.pointer (some p0)] w2 (.aP []) (fun(x4:Unit) w5=>gr (IntKind.i64.wrap (s1.1+1),()) w5))
 (K (.tuple #[]) w2))
 (0,()) w
def pl106:aB:=(.seq .auto (.block (.loop [(5,.one (.int .i64))] .auto)))
theorem c106 (p0:Addr)(p1:Int)(w:World)(K:Value->World->Prop)(h:C106 p0 p1 w K):Ret Tryz.prog 106 #[.pointer (some p0),.int .i64 p1] w K:=aC (by kernel_rfl) Tryz.func106 (p:=pl106) (Eq.mpr (by kernel_rfl) h)
def C105 (p0:Addr)(p1:Int)(w:World)(K:Value->World->Prop):Prop:=
 ae (.int .u64) (p0.add 3) w (fun(x1:Int)=>ay (p0.add 3) (.int .u64 (IntKind.u64.wrap ((BitVec.ofInt 64 x1 ^^^ BitVec.ofInt 64 p1).toNat:Int))) w (fun w2=>ab Tryz.prog 106 #[.pointer (some p0),.int .i64 2] w2 (.aP []) (fun(x3:Unit) w4=>ae (.int .u64) (p0.add 0) w4 (fun(x5:Int)=>ay (p0.add 0) (.int .u64 (IntKind.u64.wrap ((BitVec.ofInt 64 x5 ^^^ BitVec.ofInt 64 p1).toNat:Int))) w4 (fun w6=>K (.tuple #[]) w6)))))
def pl105:aB:=.auto
theorem c105 (p0:Addr)(p1:Int)(w:World)(K:Value->World->Prop)(h:C105 p0 p1 w K):Ret Tryz.prog 105 #[.pointer (some p0),.int .u64 p1] w K:=aC (by kernel_rfl) Tryz.func105 (p:=pl105) (Eq.mpr (by kernel_rfl) h)
def C104 (p0:Option Addr)(aI aN:Nat)(w:World)(K:Value->World->Prop):Prop:=
 bj (Int×Int×Unit) (fun _ s1 w2 gr=>aa (decide (s1.2.1<(aI:Int)))
 (bK p0 aI s1.2.1 1 (fun a4=>ae (.int .u8) a4 w2 (fun(x5:Int)=>lA (IntKind.i64.wrap (8 * s1.2.1)) (gr (IntKind.u64.wrap ((BitVec.ofInt 64 s1.1 ||| BitVec.ofInt 64 (IntKind.u64.wrap ((IntKind.u64.wrap x5) * 2 ^ (min (Int.toNat (IntKind.i64.wrap (8 * s1.2.1))) 64)))).toNat:Int),IntKind.i64.wrap (s1.2.1+1),()) w2))))
 (K (.int .u64 s1.1) w2))
 (0,0,()) w
def pl104:aB:=(.seq .auto (.seq .auto (.seq (.seq .auto (.block (.loop [(3,.one (.int .u64)),(8,.one (.int .i64))] .auto))) .auto)))
theorem c104 (p0:Option Addr)(aI aN:Nat)(w:World)(K:Value->World->Prop)(h:C104 p0 aI aN w K):Ret Tryz.prog 104 #[.slice p0 aI aN] w K:=aC (by kernel_rfl) Tryz.func104 (p:=pl104) (Eq.mpr (by kernel_rfl) h)
def C50 (p0:List Value)(p1:Option Addr)(ct cO:Nat)(w:World)(K:Value->World->Prop):Prop:=
 aq (.cells p0.toArray 24) w (fun g1 w2=>aH w2 (fun w3=>bb (fun S4=>eu (some (ad g1)) 16 0 8 16 1 (fun a5 l6 c7=>eu (some (ad g1)) 16 8 16 16 1 (fun a8 l9 c10=>ab Tryz.prog 104 #[.slice a5 l6 c7] w3 (.v (.one (.int .u64))) (fun(aZ:Int) aO=>ak S4 w3 aO (ab Tryz.prog 104 #[.slice a8 l9 c10] aO (.v (.one (.int .u64))) (fun(bC:Int) bu=>ak S4 aO bu (aq (.cells #[.int .u64 (IntKind.u64.wrap ((BitVec.ofInt 64 aZ ^^^ BitVec.ofInt 64 8317987319222330741).toNat:Int)),.int .u64 (IntKind.u64.wrap ((BitVec.ofInt 64 bC ^^^ BitVec.ofInt 64 7237128888997146477).toNat:Int)),.int .u64 (IntKind.u64.wrap ((BitVec.ofInt 64 aZ ^^^ BitVec.ofInt 64 7816392313619706465).toNat:Int)),.int .u64 (IntKind.u64.wrap ((BitVec.ofInt 64 bC ^^^ BitVec.ofInt 64 8387220255154660723).toNat:Int))] 202) bu (fun g15 br=>tu 8 (bj (Int×Unit) (fun _ mT bx FL=>aa (decide (mT.1<(IntKind.i64.wrap ((IntKind.i64.wrap (Int.tdiv (ct:Int) 8)) * 8))))
 (eu p1 cO mT.1 (IntKind.i64.wrap (mT.1+8)) cO 1 (fun a20 FM c22=>ab Tryz.prog 104 #[.slice a20 FM c22] bx (.v (.one (.int .u64))) (fun(cc:Int) bU=>ab Tryz.prog 105 #[.pointer (some (ad g15)),.int .u64 cc] bU (.aP []) (fun(bG:Unit) bZ=>FL (IntKind.i64.wrap (mT.1+8),()) bZ))))
 (eu p1 cO (IntKind.i64.wrap ((IntKind.i64.wrap (Int.tdiv (ct:Int) 8)) * 8)) ct cO 1 (fun yN yO c29=>ab Tryz.prog 104 #[.slice yN yO c29] bx (.v (.one (.int .u64))) (fun(dX:Int) eK=>lA 56 (ab Tryz.prog 105 #[.pointer (some (ad g15)),.int .u64 (IntKind.u64.wrap ((BitVec.ofInt 64 dX ||| BitVec.ofInt 64 (IntKind.u64.wrap ((IntKind.u64.wrap (ct:Int)) * 2 ^ (min (Int.toNat 56) 64)))).toNat:Int))] eK (.aP []) (fun(dS:Unit) dy=>ae (.int .u64) ((ad g15).add 2) dy (fun(ez:Int)=>ay ((ad g15).add 2) (.int .u64 (IntKind.u64.wrap ((BitVec.ofInt 64 ez ^^^ BitVec.ofInt 64 255).toNat:Int))) dy (fun fz=>ab Tryz.prog 106 #[.pointer (some (ad g15)),.int .i64 4] fz (.aP []) (fun(dO:Unit) dq=>aH dq (fun jg=>ae (.int .u64) ((ad g15).add 0) jg (fun(eY:Int)=>ae (.int .u64) ((ad g15).add 1) jg (fun(iw:Int)=>ae (.int .u64) ((ad g15).add 2) jg (fun(fN:Int)=>ae (.int .u64) ((ad g15).add 3) jg (fun(jD:Int)=>K (.int .u64 (IntKind.u64.wrap ((BitVec.ofInt 64 (IntKind.u64.wrap ((BitVec.ofInt 64 (IntKind.u64.wrap ((BitVec.ofInt 64 eY ^^^ BitVec.ofInt 64 iw).toNat:Int)) ^^^ BitVec.ofInt 64 fN).toNat:Int)) ^^^ BitVec.ofInt 64 jD).toNat:Int))) jg))))))))))))))
 (0,()) br)))))))))))
def pl50:aB:=(.seq .auto (.seq (.held (.soft 0 (.soft 2 (.pick 1 (.pick 3 (.soft 4 (.soft 5 .done)) .stop) .stop)))) (.seq .auto (.seq .auto (.seq (.seq .auto (.block (.loop [(9,.one (.int .i64))] .auto))) (.seq .auto (.seq .auto (.seq .auto (.seq .still .auto)))))))))
theorem c50 (p0:List Value)(p1:Option Addr)(ct cO:Nat)(w:World)(K:Value->World->Prop)(h:C50 p0 p1 ct cO w K):Ret Tryz.prog 50 #[.agg p0.toArray,.slice p1 ct cO] w K:=aC (by kernel_rfl) Tryz.func50 (p:=pl50) (Eq.mpr (by kernel_rfl) h)
def C49 (p0:Int)(w:World)(K:Value->World->Prop):Prop:=
 aw Tryz.prog (Instr.makeSlice 22 (.int .i64 8) (.int .i64 8)) w (.v (.one .ah)) (fun(x1:ao) w2=>bj (Int×Unit) (fun _ s3 w4 kg=>aa (decide (s3.1<(x1.2.1:Int)))
 (lA (IntKind.i64.wrap (8 * s3.1)) (bK x1.1 x1.2.1 s3.1 1 (fun a6=>ay a6 (.int .u8 (IntKind.u8.wrap (Int.fdiv p0 (2 ^ (min (Int.toNat (IntKind.i64.wrap (8 * s3.1))) 64))))) w4 (fun w7=>kg (IntKind.i64.wrap (s3.1+1),()) w7))))
 (K (.slice x1.1 x1.2.1 x1.2.2) w4))
 (0,()) w2)
def pl49:aB:=(.seq .auto (.seq .auto (.seq (.seq .auto (.block (.loop [(8,.one (.int .i64))] .auto))) .auto)))
theorem c49 (p0:Int)(w:World)(K:Value->World->Prop)(h:C49 p0 w K):Ret Tryz.prog 49 #[.int .u64 p0] w K:=aC (by kernel_rfl) Tryz.func49 (p:=pl49) (Eq.mpr (by kernel_rfl) h)
def C108 (p0:Option Addr)(aI aN:Nat)(w:World)(K:Value->World->Prop):Prop:=
 aa ((aI:Int) != 8)
 (K (.tuple #[.int .u64 0,.bool false]) w)
 (ab Tryz.prog 104 #[.slice p0 aI aN] w (.v (.one (.int .u64))) (fun(x1:Int) w2=>K (.tuple #[.int .u64 x1,.bool true]) w2))
def pl108:aB:=.auto
theorem c108 (p0:Option Addr)(aI aN:Nat)(w:World)(K:Value->World->Prop)(h:C108 p0 aI aN w K):Ret Tryz.prog 108 #[.slice p0 aI aN] w K:=aC (by kernel_rfl) Tryz.func108 (p:=pl108) (Eq.mpr (by kernel_rfl) h)
def C48 (p0:Option Addr)(aI aN:Nat)(p1:Option Addr)(ct cO:Nat)(w:World)(K:Value->World->Prop):Prop:=
 ab Tryz.prog 53 #[.slice p0 aI aN,.slice p1 ct cO] w (.v (.one .bool)) (fun(x1:Bool) w2=>K (.bool x1) w2)
def pl48:aB:=.auto
theorem c48 (p0:Option Addr)(aI aN:Nat)(p1:Option Addr)(ct cO:Nat)(w:World)(K:Value->World->Prop)(h:C48 p0 aI aN p1 ct cO w K):Ret Tryz.prog 48 #[.slice p0 aI aN,.slice p1 ct cO] w K:=aC (by kernel_rfl) Tryz.func48 (p:=pl48) (Eq.mpr (by kernel_rfl) h)
namespace Vc
theorem eF.of {w:World}{b n:Nat}{cs:List Value}{T:TypeId}{fr:Nat×Nat}(hb:w.heap[b]? = some (.cells cs.toArray T fr))(hn:cs.length=n){K:List Value->Prop}(k:K cs):eF n ⟨b,0,none⟩ w K:=
 ⟨cs,hn,nV hb _ 0 fun j _=>by simp,k⟩
end Vc
def BF (s:kB):Array Value:=#[.int .u64 s.1,.int .u64 s.2.1,.int .u64 s.2.2.1,.int .u64 s.2.2.2]
def gQ (w:World)(b:Nat)(s:kB):Prop:=w.heap[b]? = some (.cells (BF s) 202 (0,0))
theorem UQ (x k:Int)(U:k=13\/k=16\/k=17\/k=21\/k=32)(w:World):Ret Tryz.prog 199 #[.int .u64 x,.int .i64 k] w fun r w'=>r=.int .u64 (fD x k.toNat)/\w=w':=by
 refine c199 x k w _ ?_;unfold C199 fD;have e1:IntKind.u64.wrap ((BitVec.ofInt 64 (IntKind.u64.wrap k) &&& BitVec.ofInt 64 63).toNat:Int)=k:=by rcases U with rfl | rfl | rfl | rfl | rfl<;>decide
 have e2:IntKind.u64.wrap (64 - k)=64 - k:=by rcases U with rfl | rfl | rfl | rfl | rfl<;>decide
 have e3:Int.toNat (64 - k)=64 - k.toNat:=by rcases U with rfl | rfl | rfl | rfl | rfl<;>decide
 rw[e1,e2,e3];exact⟨by rcases U with rfl | rfl | rfl | rfl | rfl<;>decide,by rcases U with rfl | rfl | rfl | rfl | rfl<;>decide,rfl,rfl⟩
theorem wF (x k:Int)(U:k=13\/k=16\/k=17\/k=21\/k=32)(w:World){K:Int->World->Prop}(h:K (fD x k.toNat) w):ab Tryz.prog 199 #[.int .u64 x,.int .i64 k] w (.v (.one (.int .u64))) (fun(y:Int) w'=>K y w'):=by
 refine ab.of (UQ x k U w) ?_;rintro _ _ ⟨rfl,rfl⟩;exact⟨_,rfl,h⟩
theorem gQ.ld {w:World}{b:Nat}{s:kB}(h:gQ w b s){o:Nat}{x:Int}(hx:(BF s)[o]? = some (.int .u64 x)){K:Int->Prop}(k:K x):ae (.int .u64) ((⟨b,0,none⟩:Addr).add o) w K:=ae.ai h (x:=x) (by rw[Nat.zero_add];exact hx) k
theorem gQ.st {w:World}{b:Nat}{s s':kB}(h:gQ w b s){o:Nat}{x:Int}(ho:o<4)(hs:(BF s).setIfInBounds o (.int .u64 x)=BF s'){K:World->Prop}(k:∀ w1,gQ w1 b s'->Fr (only b) w w1->K w1):ay ((⟨b,0,none⟩:Addr).add o) (.int .u64 x) w K:=
 ay.ai h (by show 0+o<4;omega) rfl fun w1 hb f _=>k w1 (by unfold gQ;rw[hb,Nat.zero_add,hs]) f
theorem gQ.af {w w':World}{b:Nat}{s:kB}(h:gQ w b s)(f:Fr none1 w w'):gQ w' b s:=f.af h
theorem UR {w:World}{b:Nat}{s:kB}(h:gQ w b s):Ret Tryz.prog 154 #[.pointer (some ⟨b,0,none⟩)] w fun r w'=>r=.tuple #[]/\gQ w' b (EZ s)/\Fr (only b) w w':=by
 refine c154 _ w _ ?_;unfold C154;obtain⟨a0,a1,a2,a3⟩:=s;refine aH.of fun w1 _ f1=>?_;have h:=h.af f1;refine h.ld rfl (h.ld rfl (h.st (s':=(dU a0 a1,a1,a2,a3)) (by decide) rfl fun w2 h f2=>?_));have F:=(Fr.eG f1 f2);refine aH.of fun w3 _ f3=>bb.all (aE.all (gQ.ld (h.af f3) rfl (aE.all (gQ.ld (h.af f3) rfl ?_))));have h:=h.af f3;have F:=F.dp f3;refine wF _ 13 (by decide) _ (ak.same (h.st (s':=(dU a0 a1,dC (fD a1 13) (dU a0 a1),a2,a3)) (by decide) rfl fun w4 h f4=>?_));have F:=F.trans f4;refine h.ld rfl (wF _ 32 (by decide) _ (h.st (s':=(fD (dU a0 a1) 32,dC (fD a1 13) (dU a0 a1),a2,a3)) (by decide) rfl fun w5 h f5=>?_));have F:=F.trans f5;have e:EZ (a0,a1,a2,a3)=(dU (fD (dU a0 a1) 32) (dC (fD a3 16) (dU a2 a3)),dC (fD (dC (fD a1 13) (dU a0 a1)) 17) (dU (dU a2 a3) (dC (fD a1 13) (dU a0 a1))),fD (dU (dU a2 a3) (dC (fD a1 13) (dU a0 a1))) 32,dC (fD (dC (fD a3 16) (dU a2 a3)) 21) (dU (fD (dU a0 a1) 32) (dC (fD a3 16) (dU a2 a3)))):=rfl;rw[e];generalize dC (fD a1 13) (dU a0 a1)=b1 at *;generalize fD (dU a0 a1) 32=b0 at *;refine aH.of fun w6 _ f6=>?_;have h:=h.af f6;have F:=F.dp f6;refine h.ld rfl (h.ld rfl (h.st (s':=(b0,b1,dU a2 a3,a3)) (by decide) rfl fun w7 h f7=>?_));have F:=F.trans f7;refine aH.of fun w8 _ f8=>bb.all (aE.all (gQ.ld (h.af f8) rfl (aE.all (gQ.ld (h.af f8) rfl ?_))));have h:=h.af f8;have F:=F.dp f8;refine wF _ 16 (by decide) _ (ak.same (h.st (s':=(b0,b1,dU a2 a3,dC (fD a3 16) (dU a2 a3))) (by decide) rfl fun w9 h f9=>?_));have F:=F.trans f9;generalize dC (fD a3 16) (dU a2 a3)=b3 at *;generalize dU a2 a3=b2 at *;refine aH.of fun aK _ f10=>?_;have h:=h.af f10;have F:=F.dp f10;refine h.ld rfl (h.ld rfl (h.st (s':=(dU b0 b3,b1,b2,b3)) (by decide) rfl fun aR h f11=>?_));have F:=F.trans f11;refine aH.of fun aO _ f12=>bb.all (aE.all (gQ.ld (h.af f12) rfl (aE.all (gQ.ld (h.af f12) rfl ?_))));have h:=h.af f12;have F:=F.dp f12;refine wF _ 21 (by decide) _ (ak.same (h.st (s':=(dU b0 b3,b1,b2,dC (fD b3 21) (dU b0 b3))) (by decide) rfl fun aW h f13=>?_));have F:=F.trans f13;generalize dC (fD b3 21) (dU b0 b3)=c3 at *;generalize dU b0 b3=c0 at *;refine aH.of fun bu _ f14=>?_;have h:=h.af f14;have F:=F.dp f14;refine h.ld rfl (h.ld rfl (h.st (s':=(c0,b1,dU b2 b1,c3)) (by decide) rfl fun bL h f15=>?_));have F:=F.trans f15;refine aH.of fun br _ f16=>bb.all (aE.all (gQ.ld (h.af f16) rfl (aE.all (gQ.ld (h.af f16) rfl ?_))));have h:=h.af f16;have F:=F.dp f16;refine wF _ 17 (by decide) _ (ak.same (h.st (s':=(c0,dC (fD b1 17) (dU b2 b1),dU b2 b1,c3)) (by decide) rfl fun cD h f17=>?_));have F:=F.trans f17;refine h.ld rfl (wF _ 32 (by decide) _ (h.st (s':=(c0,dC (fD b1 17) (dU b2 b1),fD (dU b2 b1) 32,c3)) (by decide) rfl fun bx h f18=>?_));exact⟨rfl,h,F.trans f18⟩
theorem Mb {w:World}{b:Nat}{s:kB}(h:gQ w b s)(n:Nat)(hn:n<=100):Ret Tryz.prog 106 #[.pointer (some ⟨b,0,none⟩),.int .i64 (n:Int)] w fun r w'=>r=.tuple #[]/\gQ w' b (po n s)/\Fr (only b) w w':=by
 refine c106 _ _ w _ ?_;unfold C106;refine bj.of (fun st w'=>∃ i:Nat,st.1=i/\i<=n/\gQ w' b (po i s)/\Fr (only b) w w') (fun st _=>(n - st.1).toNat) ⟨0,rfl,by omega,h,Fr.refl _ _⟩ ?_;rintro _ ⟨i',_⟩ w1 ⟨i,hi,lG,h1,f1⟩;dsimp only at hi ⊢;subst hi;refine aa.dec (fun aU=>?_) (fun dh=>?_)
 ·refine ab.of (UR h1) ?_
  rintro _ w2 ⟨rfl,h2,f2⟩;refine⟨(),rfl,?_⟩;rw[wI (by omega) (by omega)];exact⟨⟨i+1,by omega,by omega,h2,f1.trans f2⟩,by omega⟩
 ·obtain rfl:i=n:=by omega
  exact⟨rfl,h1,f1⟩
theorem Mc {w:World}{b:Nat}{s:kB}(h:gQ w b s)(m:Int):Ret Tryz.prog 105 #[.pointer (some ⟨b,0,none⟩),.int .u64 m] w fun r w'=>r=.tuple #[]/\gQ w' b (yG m s)/\Fr (only b) w w':=by
 refine c105 _ _ w _ ?_;unfold C105 yG;obtain⟨a0,a1,a2,a3⟩:=s;refine h.ld rfl (h.st (s':=(a0,a1,a2,dC a3 m)) (by decide) rfl fun w1 h1 f1=>?_);refine ab.of (Mb h1 2 (by decide)) ?_;rintro _ w2 ⟨rfl,h2,f2⟩;refine⟨(),rfl,?_⟩;dsimp only;generalize po 2 (a0,a1,a2,dC a3 m)=t at *;obtain⟨t0,t1,t2,t3⟩:=t;refine h2.ld rfl (h2.st (s':=(dC t0 m,t1,t2,t3)) (by decide) rfl fun w3 h3 f3=>?_);exact⟨rfl,h3,(f1.trans f2).trans f3⟩
theorem yU {w:World}{v:Sl}{bs:List UInt8}(h:aY w v bs)(hl:bs.length<=8):Ret Tryz.prog 104 #[.slice v.1 v.2.1 v.2.2] w fun r w'=>r=.int .u64 (gj bs:Int)/\w=w':=by
 refine c104 v.1 v.2.1 v.2.2 w _ ?_;unfold C104;have cC:=h.len;refine bj.of (fun s w'=>∃ i:Nat,s.2.1=i/\i<=bs.length/\s.1=(gj (bs.take i):Int)/\w=w') (fun s _=>(bs.length - s.2.1).toNat) ⟨0,rfl,by omega,rfl,rfl⟩ ?_;rintro _ ⟨m,i',_⟩ _ ⟨i,hi,iz,hm,rfl⟩;dsimp only at hi hm ⊢;subst hi hm;refine aa.dec (fun aU=>?_) (fun dh=>?_)
 ·refine aY.at h (by omega) aU ?_
  rw[wI (x:=8 * (i:Int)) (by omega) (by omega),wI (x:=(i:Int)+1) (by omega) (by omega)];refine⟨by omega,⟨i+1,by omega,by omega,?_,rfl⟩,by omega⟩;have xI:i<8:=by omega
  have hb:=(bs.getD i 0).toNat_lt;have uJ:=Bk (bs.take i);rw[List.length_take,Nat.min_eq_left (by omega)] at uJ;have hp:256 ^ i=2 ^ (8 * i):=by rw[show(256:Nat)=2 ^ 8 by decide,<- Nat.pow_mul]
  have yV:256 ^ i<=72057594037927936:=by
   have:(72057594037927936:Nat)=256 ^ 7:=by decide
   rw[this];exact Nat.pow_le_pow_right (by decide) (by omega)
  have lS:256 ^ i * (bs.getD i 0).toNat<18446744073709551616:=by
   have h1:256 ^ i * (bs.getD i 0).toNat<=256 ^ i * 255:=Nat.mul_le_mul_left _ (by omega);have h2:256 ^ i * 255<=72057594037927936 * 255:=Nat.mul_le_mul_right _ yV;omega
  rw[Int.toNat_natCast,TF bs i (by omega),xG (bs.getD i 0).toNat,Nat.mod_eq_of_lt (show(bs.getD i 0).toNat<18446744073709551616 by omega),show Int.toNat (8 * (i:Int))=8 * i by omega,DC _ (8 * i) (by omega),
   <- hp,Nat.mul_comm (bs.getD i 0).toNat,Nat.mod_eq_of_lt lS,DD _ _ (by omega) lS]
  congr 1
  rw[hp,Nat.mul_comm,<- Nat.shiftLeft_eq,Nat.or_comm,<- Nat.shiftLeft_add_eq_or_of_lt (by rw[<- hp];exact uJ),Nat.shiftLeft_eq];omega
 ·rw[List.take_of_length_le (by omega)];exact⟨rfl,rfl⟩
def cK (kb:List UInt8):List Value:=kb.map bc
theorem US {w:World}{g:Nat}{kb:List UInt8}{T:TypeId}{fr:Nat×Nat}(hb:w.heap[g]? = some (.cells (cK kb).toArray T fr))(U:kb.length=16):aY w (some ⟨g,0,none⟩,16,16) kb:=by
 refine⟨by simp[U],(fun t=>nomatch t),fun a ha=>?_⟩;injection ha with ha
 subst ha;exact nV hb _ 0 fun j _=>by simp[cK]
theorem UT {w:World}{g:Nat}{kb:List UInt8}(U:kb.length=16)(h:aY w (some ⟨g,0,none⟩,16,16) kb){K:Option Addr->Nat->Nat->Prop}(k:aY w (some ⟨g,0,none⟩,8,16) (kb.take 8)->K (some ⟨g,0,none⟩) 8 16):
  eu (some ⟨g,0,none⟩) 16 0 8 16 1 K:=by
 refine⟨by decide,by decide,by decide,by decide,?_⟩;have e:(if(16:Int)=0 then some (⟨g,0,none⟩:Addr) else(some (⟨g,0,none⟩:Addr)).map (·.add ((0:Int).toNat * 1)))=some ⟨g,0,none⟩:=by
  rw[if_neg (by decide),Option.map_some,dw];rfl
 rw[e];refine k ⟨by simp[U],(fun t=>nomatch t),fun a ha=>?_⟩;rw[List.map_take];exact vx _ 0 8 (h.2.2 a ha)
theorem UU {w:World}{g:Nat}{kb:List UInt8}(U:kb.length=16)(h:aY w (some ⟨g,0,none⟩,16,16) kb){K:Option Addr->Nat->Nat->Prop}(k:aY w (some ⟨g,8,none⟩,8,8) (kb.drop 8)->K (some ⟨g,8,none⟩) 8 8):
  eu (some ⟨g,0,none⟩) 16 8 16 16 1 K:=by
 refine⟨by decide,by decide,by decide,by decide,?_⟩;have e:(if(16:Int)=8 then some (⟨g,0,none⟩:Addr) else(some (⟨g,0,none⟩:Addr)).map (·.add ((8:Int).toNat * 1)))=some ⟨g,8,none⟩:=by
  rw[if_neg (by decide),Option.map_some,dw];rfl
 rw[e];refine k ⟨by simp[U],(fun t=>nomatch t),fun a ha=>?_⟩;injection ha with ha
 subst ha;have h8:=Bl 8 _ 0 (h.2.2 ⟨g,0,none⟩ rfl);have:=yI (m:=8) _ 0 h8;rw[dw,Nat.zero_add] at this;rw[List.map_drop];exact this
theorem FN {w:World}{v:Sl}{kb bs:List UInt8}(U:kb.length=16)(h:aY w v bs)(hc:v.2.1<=v.2.2)(hl:bs.length<=140737488355300):Ret Tryz.prog 50 #[.agg (cK kb).toArray,.slice v.1 v.2.1 v.2.2] w fun r w'=>r=.int .u64 (mO kb bs)/\Fr none1 w w':=by
 refine c50 (cK kb) v.1 v.2.1 v.2.2 w _ ?_;unfold C50;have cC:=h.len;refine aq.of fun g1 w1 di ar f1 _=>aH.of fun w2 _ f2=>bb.all ?_;have f12:=f1.trans f2;have hK:=US (f2.af ar) U;refine UT U hK fun hA=>UU U hK fun hu=>?_;refine ab.of (yU (v:=(some ⟨g1,0,none⟩,8,16)) hA (by rw[List.length_take];omega)) ?_;rintro _ _ ⟨rfl,rfl⟩;refine⟨_,rfl,ak.same ?_⟩;refine ab.of (yU (v:=(some ⟨g1,8,none⟩,8,8)) hu (by rw[List.length_drop];omega)) ?_;rintro _ _ ⟨rfl,rfl⟩;refine⟨_,rfl,ak.same ?_⟩;refine aq.of fun b w3 hb ba f3 _=>⟨by decide,?_⟩;have S3:gQ w3 b (E0 kb):=ba;have f13:=f12.trans f3;have UW:((v.2.1:Int).tdiv 8)=((bs.length / 8:Nat):Int):=by rw[Int.tdiv_eq_ediv_of_nonneg (by omega)];omega
 rw[UW,wI (x:=((bs.length / 8:Nat):Int)) (by omega) (by omega),wI (x:=((bs.length / 8:Nat):Int) * 8) (by omega) (by omega)];unfold mO;generalize E0 kb=s0 at *;have Md:=f13.size;refine bj.of (fun st w'=>∃ i:Nat,st.1=8 * (i:Int)/\i<=bs.length / 8/\gQ w' b (Bh bs s0 i)/\Fr (only b) w3 w') (fun st _=>(8 * (bs.length / 8:Nat) - st.1).toNat) ⟨0,rfl,by omega,S3,Fr.refl _ _⟩ ?_;rintro _ ⟨i',_⟩ w4 ⟨i,hi,iz,S4,f4⟩;dsimp only at hi ⊢;subst hi;have fQ:=f12.size;have h4:aY w4 v bs:=(h.af f13).sL f4 fun hn k U t=>by have:=h.Ft hn U;have:k=b:=t;omega
 refine aa.dec (fun aU=>?_) (fun dh=>?_)
 ·rw[wI (x:=8 * (i:Int)+8) (by omega) (by omega)]
  refine aY.jj h4 (by omega) (by omega) (by omega) hc fun u hu _ _ _=>?_;rw[show(8 * (i:Int)).toNat=8 * i by omega,show(8 * (i:Int)+8 - 8 * (i:Int)).toNat=8 by omega] at hu;refine ab.of (yU hu (by rw[List.length_take];omega)) ?_;rintro _ _ ⟨rfl,rfl⟩;refine⟨_,rfl,?_⟩;refine ab.of (Mc S4 _) ?_;rintro _ w5 ⟨rfl,S5,f5⟩;exact⟨(),rfl,⟨i+1,by omega,by omega,S5,f4.trans f5⟩,by omega⟩
 ·obtain rfl:i=bs.length / 8:=by omega
  refine aY.jj h4 (by omega) (by omega) (Int.le_refl _) hc fun u hu _ _ _=>?_;rw[show(((bs.length / 8:Nat):Int) * 8).toNat=8 * (bs.length / 8) by omega,List.take_of_length_le (by rw[List.length_drop];omega)] at hu;have nB:(bs.drop (8 * (bs.length / 8))).length<=7:=by rw[List.length_drop];omega
  refine ab.of (yU hu (by omega)) ?_;rintro _ _ ⟨rfl,rfl⟩;refine⟨_,rfl,by decide,?_⟩;have uJ:=Bk (bs.drop (8 * (bs.length / 8)));have UX:gj (bs.drop (8 * (bs.length / 8)))<72057594037927936:=by
   have h2:256 ^ (bs.drop (8 * (bs.length / 8))).length<=256 ^ 7:=Nat.pow_le_pow_right (by decide) nB;have:(256:Nat) ^ 7=72057594037927936:=by decide
   omega
  have UY:IntKind.u64.wrap ((BitVec.ofInt 64 (gj (bs.drop (8 * (bs.length / 8))):Int) ||| BitVec.ofInt 64 (IntKind.u64.wrap ((IntKind.u64.wrap (v.2.1:Int)) * 2 ^ (min (Int.toNat 56) 64)))).toNat:Int)=(Bi bs:Int):=by
   rw[cC,xG bs.length,Nat.mod_eq_of_lt (show bs.length<18446744073709551616 by omega),show Int.toNat 56=56 by rfl,DC _ 56 (by decide),show bs.length * 2 ^ 56 % 18446744073709551616=bs.length % 256 * 72057594037927936 by omega,
    DD _ _ (by omega) (by omega)]
   congr 1
   unfold Bi;rw[Nat.or_comm,show bs.length % 256 * 72057594037927936=(bs.length % 256) <<< 56 by rw[Nat.shiftLeft_eq],<- Nat.shiftLeft_add_eq_or_of_lt (by exact UX)];omega
  rw[UY];refine ab.of (Mc S4 _) ?_;rintro _ w5 ⟨rfl,S5,f5⟩;refine⟨(),rfl,?_⟩;generalize yG (Bi bs:Int) (Bh bs s0 (bs.length / 8))=t at *;obtain⟨t0,t1,t2,t3⟩:=t;unfold Lp;refine S5.ld rfl (S5.st (s':=(t0,t1,dC t2 255,t3)) (by decide) rfl fun w6 S6 f6=>?_);refine ab.of (Mb S6 4 (by decide)) ?_;rintro _ w7 ⟨rfl,S7,f7⟩;refine⟨(),rfl,?_⟩;dsimp only;generalize po 4 (t0,t1,dC t2 255,t3)=q at *;obtain⟨q0,q1,q2,q3⟩:=q;refine aH.of fun w8 _ f8=>?_;have S8:=S7.af f8;refine S8.ld rfl (S8.ld rfl (S8.ld rfl (S8.ld rfl ?_)));have f38:Fr (only b) w3 w8:=((((f4.trans f5).trans f6).trans f7).dp f8);exact⟨rfl,f13.fresh f38 (by omega)⟩
theorem Me (n:Int)(h0:0<=n)(h1:n<18446744073709551616)(w:World):Ret Tryz.prog 49 #[.int .u64 n] w fun r w'=>∃ v:Sl,r=.slice v.1 v.2.1 v.2.2/\bR w' v (gk n)/\Fr none1 w w'/\∀ k,au v k->w.heap.size<=k:=by
 refine c49 n w _ ?_;unfold C49;obtain⟨M,rfl⟩:∃ M:Nat,n=M:=⟨n.toNat,by omega⟩;obtain⟨w1,dG,yW,f1⟩:=Ug (w:=w) (n:=8) (m:=8) (by decide) (by decide) (by decide);refine⟨(some ⟨w.heap.size,0,none⟩,8,8),w1,dG,?_⟩;have yW:bR w1 (some ⟨w.heap.size,0,none⟩,8,8) (List.replicate 8 0):=yW;have hh:gk (M:Int)=ow 8 M:=by unfold gk;rw[show((M:Int) % 18446744073709551616).toNat=M by omega]
 refine bj.of (fun st w'=>∃ (i:Nat) (cs:List UInt8),st.1=i/\i<=8/\bR w' (some ⟨w.heap.size,0,none⟩,8,8) cs/\cs.length=8/\(∀ j,j<i->cs[j]? = (ow 8 M)[j]?)/\Fr none1 w w') (fun st _=>(8 - st.1).toNat) ⟨0,_,rfl,by omega,yW,by simp,fun j hj=>by omega,f1⟩ ?_;rintro _ ⟨i',_⟩ w2 ⟨i,cs,hi,iz,sN,dQ,hall,f2⟩;dsimp only at hi ⊢;subst hi;refine aa.dec (fun aU=>?_) (fun dh=>?_)
 ·have xI:i<8:=by omega
  rw[wI (x:=8 * (i:Int)) (by omega) (by omega),wI (x:=(i:Int)+1) (by omega) (by omega),show Int.toNat (8 * (i:Int))=8 * i by omega];refine⟨by omega,?_⟩;have hv:Value.int .u8 (IntKind.u8.wrap (Int.fdiv (M:Int) (2 ^ (min (8 * i) 64))))=bc (UInt8.ofNat (M / 256 ^ i % 256)):=by
   rw[DE M (8 * i) (by omega),DH];unfold bc;rw[nY (Nat.mod_lt _ (by decide)),show(256:Nat) ^ i=2 ^ (8 * i) by rw[show(256:Nat)=2 ^ 8 by decide,<- Nat.pow_mul]]
  rw[hv];refine aD.st (v:=(some ⟨w.heap.size,0,none⟩,8,8)) sN (by omega) aU rfl fun w3 ba f3 _=>?_;have UZ:bR w3 (some ⟨w.heap.size,0,none⟩,8,8) (cs.set i (UInt8.ofNat (M / 256 ^ i % 256))):=by unfold bR;rw[List.map_set];rw[Int.toNat_natCast] at ba;exact ba
  refine⟨⟨i+1,_,by omega,by omega,UZ,by rw[List.length_set];exact dQ,fun j hj=>?_,f2.comp f3 fun k U ⟨a,ha,e⟩=>by injection ha with ha;subst ha;dsimp only at e;omega⟩,by omega⟩
  rw[List.getElem?_set]
  by_cases kJ:i=j
  ·subst kJ;rw[if_pos rfl,if_pos (by omega),Ls 8 M i xI]
  ·rw[if_neg kJ];exact hall j (by omega)
 ·refine⟨(some ⟨w.heap.size,0,none⟩,8,8),rfl,?_,f2,fun k ⟨a,ha,e⟩=>by injection ha with ha;subst ha;dsimp only at e;omega⟩
  have:cs=ow 8 M:=by
   refine List.ext_getElem? fun j=>?_
   by_cases hj:j<8
   ·exact hall j (by omega)
   ·rw[List.getElem?_eq_none (by omega),List.getElem?_eq_none (by rw[E1];omega)]
  rw[hh,<- this];exact sN
theorem U0 {w:World}{v:Sl}{bs:List UInt8}(h:aY w v bs):Ret Tryz.prog 108 #[.slice v.1 v.2.1 v.2.2] w fun r w'=>r=.tuple #[.int .u64 (if bs.length=8 then(gj bs:Int) else 0),.bool (decide (bs.length=8))]/\w=w':=by
 refine c108 v.1 v.2.1 v.2.2 w _ ?_;unfold C108;have cC:=h.len;refine aa.ne (fun aA=>?_) (fun heq=>?_)
 ·rw[if_neg (by omega),decide_eq_false (by omega)];exact⟨rfl,rfl⟩
 ·rw[if_pos (by omega),decide_eq_true (by omega)]
  refine ab.of (yU h (by omega)) ?_;rintro _ _ ⟨rfl,rfl⟩;exact⟨_,rfl,rfl,rfl⟩
theorem U1 {w:World}{v u:Sl}{bs cs:List UInt8}(h:aY w v bs)(h':aY w u cs):Ret Tryz.prog 48 #[.slice v.1 v.2.1 v.2.2,.slice u.1 u.2.1 u.2.2] w fun r w'=>r=.bool (bs==cs)/\w=w':=by
 refine c48 v.1 v.2.1 v.2.2 u.1 u.2.1 u.2.2 w _ ?_;unfold C48;refine ab.of (Fz h h') ?_;rintro _ _ ⟨rfl,rfl⟩;exact⟨_,rfl,rfl,rfl⟩
theorem FO:∃ ms,Tryz.prog.underlying 34=some (.interface ms):=⟨_,Tryz.underlying34⟩
def C155 (p0:Int)(w:World)(K:Value->World->Prop):Prop:=
 aa (decide (p0 >= 0))
 (K (.bool (decide (p0<=2147483647))) w)
 (K (.bool false) w)
def pl155:aB:=.auto
theorem c155 (p0:Int)(w:World)(K:Value->World->Prop)(h:C155 p0 w K):Ret Tryz.prog 155 #[.int .i64 p0] w K:=aC (by kernel_rfl) Tryz.func155 (p:=pl155) (Eq.mpr (by kernel_rfl) h)
def C156 (p0:bH)(w:World)(K:Value->World->Prop):Prop:=
 aq (.cells ((bS p0).toArray) 36) w (fun g1 w2=>ae .raw ((ad g1).add 7) w2 (fun(x3:Value)=>aw Tryz.prog (do eqGuard .eql 34 (.tmp 4) (.const .nilIface) x3 .nilIface;binOp .eql 34 x3 .nilIface) w2 (.v (.one .bool)) (fun(x4:Bool) w5=>aa x4
 (ae (.int .i64) ((ad g1).add 0) w5 (fun(x6:Int)=>aa (x6==0)
 (ae .str ((ad g1).add 1) w5 (fun(x7:ByteArray)=>aa (x7.toList==(⟨#[]⟩:ByteArray).toList)
 (ae .str ((ad g1).add 2) w5 (fun(x8:ByteArray)=>aa (x8.toList==(⟨#[]⟩:ByteArray).toList)
 (ae .str ((ad g1).add 3) w5 (fun(x9:ByteArray)=>aa (x9.toList==(⟨#[]⟩:ByteArray).toList)
 (ae .str ((ad g1).add 4) w5 (fun(aS:ByteArray)=>aa (aS.toList==(⟨#[]⟩:ByteArray).toList)
 (ae (.int .i64) ((ad g1).add 5) w5 (fun(aZ:Int)=>aa (aZ==0)
 (ae (.int .i64) ((ad g1).add 6) w5 (fun(bw:Int)=>K (.bool (bw==0)) w5))
 (K (.bool false) w5)))
 (K (.bool false) w5)))
 (K (.bool false) w5)))
 (K (.bool false) w5)))
 (K (.bool false) w5)))
 (K (.bool false) w5)))
 (K (.bool false) w5))))
def pl156:aB:=.auto
theorem c156 (p0:bH)(w:World)(K:Value->World->Prop)(h:C156 p0 w K):Ret Tryz.prog 156 #[.agg (bS p0).toArray] w K:=aC (by kernel_rfl) Tryz.func156 (p:=pl156) (Eq.mpr (by kernel_rfl) h)
def C109 (p0:fM)(w:World)(K:Value->World->Prop):Prop:=
 aq (.cells ((gd p0).toArray) 42) w (fun g1 w2=>bQ (Bool×Unit) (fun J3=>ae (.int .i64) ((ad g1).add 0) w2 (fun(x6:Int)=>aa (x6 != 0)
 (ae (.int .i64) ((ad g1).add 0) w2 (fun(x7:Int)=>aa (x7 != 1)
 (J3 (true,()) w2)
 (ae (.int .i64) ((ad g1).add 1) w2 (fun(x8:Int)=>ab Tryz.prog 155 #[.int .i64 x8] w2 (.v (.one .bool)) (fun(x9:Bool) aK=>aa (!x9)
 (J3 (true,()) aK)
 (ae (.int .i64) ((ad g1).add 2) aK (fun(aZ:Int)=>ab Tryz.prog 155 #[.int .i64 aZ] aK (.v (.one .bool)) (fun(bw:Bool) aW=>aa (!bw)
 (J3 (true,()) aW)
 (ae (.int .i64) ((ad g1).add 4) aW (fun(bn:Int)=>ab Tryz.prog 155 #[.int .i64 bn] aW (.v (.one .bool)) (fun(bm:Bool) br=>J3 ((!bm),()) br)))))))))))
 (ae (.int .i64) ((ad g1).add 1) w2 (fun(aX:Int)=>ab Tryz.prog 155 #[.int .i64 aX] w2 (.v (.one .bool)) (fun(bE:Bool) bO=>aa (!bE)
 (J3 (true,()) bO)
 (ae (.int .i64) ((ad g1).add 2) bO (fun(cm:Int)=>ab Tryz.prog 155 #[.int .i64 cm] bO (.v (.one .bool)) (fun(b9:Bool) bA=>aa (!b9)
 (J3 (true,()) bA)
 (ae (.int .i64) ((ad g1).add 4) bA (fun(cc:Int)=>ab Tryz.prog 155 #[.int .i64 cc] bA (.v (.one .bool)) (fun(cN:Bool) dn=>J3 ((!cN),()) dn)))))))))))
 (fun _ s4 w5=>aa s4.1
 (K (.int .i64 1) w5)
 (bQ (Bool×Unit) (fun yX=>ae (.int .i64) ((ad g1).add 3) w5 (fun(cH:Int)=>aa (decide (cH<1))
 (yX (true,()) w5)
 (ae (.int .i64) ((ad g1).add 3) w5 (fun(dX:Int)=>aa (decide (dX > 4))
 (yX (true,()) w5)
 (ae .bool ((ad g1).add 6) w5 (fun(bX:Bool)=>aa bX
 (ae (.int .i64) ((ad g1).add 3) w5 (fun(dS:Int)=>aa (dS==1)
 (yX (true,()) w5)
 (ae (.int .i64) ((ad g1).add 3) w5 (fun(dH:Int)=>yX ((dH==3),()) w5))))
 (yX (false,()) w5)))))))
 (fun _ U2 bV=>aa U2.1
 (K (.int .i64 1) bV)
 (ae (.int .i64) ((ad g1).add 3) bV (fun(ez:Int)=>aa (ez==1)
 (az dR ((ad g1).add 7) bV (fun(de:bH)=>ab Tryz.prog 70 #[.agg (bS de).toArray] bV (.v (.one (.int .i64))) (fun(dO:Int) dq=>K (.int .i64 dO) dq)))
 (az dR ((ad g1).add 7) bV (fun(dN:bH)=>ab Tryz.prog 156 #[.agg (bS dN).toArray] bV (.v (.one .bool)) (fun(eY:Bool) ef=>aa (!eY)
 (K (.int .i64 1) ef)
 (K (.int .i64 0) ef))))))))))
def pl109:aB:=(.seq .auto (.seq (.block (.join [(3,.one .bool)] .auto (.cond .auto (.join [(30,.one .bool)] .auto .auto)))) .auto))
theorem c109 (p0:fM)(w:World)(K:Value->World->Prop)(h:C109 p0 w K):Ret Tryz.prog 109 #[.agg (gd p0).toArray] w K:=aC (by kernel_rfl) Tryz.func109 (p:=pl109) (Eq.mpr (by kernel_rfl) h)
def C111 (p0:Bool)(w:World)(K:Value->World->Prop):Prop:=
 aa p0
 (K (.int .u8 1) w)
 (K (.int .u8 0) w)
def pl111:aB:=.auto
theorem c111 (p0:Bool)(w:World)(K:Value->World->Prop)(h:C111 p0 w K):Ret Tryz.prog 111 #[.bool p0] w K:=aC (by kernel_rfl) Tryz.func111 (p:=pl111) (Eq.mpr (by kernel_rfl) h)
def C52 (p0:fM)(w:World)(K:Value->World->Prop):Prop:=
 aq (.cells ((gd p0).toArray) 42) w (fun g1 w2=>az ig (ad g1) w2 (fun(x3:fM)=>ab Tryz.prog 109 #[.agg (gd x3).toArray] w2 (.v (.one (.int .i64))) (fun(x4:Int) w5=>aa (x4 != 0)
 (K (.tuple #[.slice none 0 0,.int .i64 x4]) w5)
 (ae (.int .i64) ((ad g1).add 0) w5 (fun(x6:Int)=>aw Tryz.prog (Instr.buildSlice 22 1 #[(0,.int .u8 (IntKind.u8.wrap x6))]) w5 (.v (.one .ah)) (fun(x7:ao) w8=>aH w8 (fun w9=>bb (fun uK=>aE uK ((ad g1).add 1) (ae (.int .i64) ((ad g1).add 1) w9 (fun(aZ:Int)=>aE uK ((ad g1).add 2) (ae (.int .i64) ((ad g1).add 2) w9 (fun(bw:Int)=>ab Tryz.prog 110 #[.int .i64 aZ] w9 (.v (.one .ah)) (fun(bC:ao) bu=>ak uK w9 bu (aw Tryz.prog (Builtin.append_ #[22,22] 22 #[.slice x7.1 x7.2.1 x7.2.2,.slice bC.1 bC.2.1 bC.2.2]) bu (.v (.one .ah)) (fun(bm:ao) br=>ak uK bu br (ab Tryz.prog 110 #[.int .i64 bw] br (.v (.one .ah)) (fun(aX:ao) bx=>ak uK br bx (aw Tryz.prog (Builtin.append_ #[22,22] 22 #[.slice bm.1 bm.2.1 bm.2.2,.slice aX.1 aX.2.1 aX.2.2]) bx (.v (.one .ah)) (fun(bt:ao) bz=>ak uK bx bz (aH bz (fun bq=>bb (fun mF=>aE mF ((ad g1).add 3) (ae (.int .i64) ((ad g1).add 3) bq (fun(cc:Int)=>aE mF ((ad g1).add 4) (ae (.int .i64) ((ad g1).add 4) bq (fun(cN:Int)=>ak mF bq bq (aw Tryz.prog (Instr.buildSlice 22 1 #[(0,.int .u8 (IntKind.u8.wrap cc))]) bq (.v (.one .ah)) (fun(bG:ao) bZ=>ak mF bq bZ (aw Tryz.prog (Builtin.append_ #[22,22] 22 #[.slice bt.1 bt.2.1 bt.2.2,.slice bG.1 bG.2.1 bG.2.2]) bZ (.v (.one .ah)) (fun(cE:ao) bV=>ak mF bZ bV (ab Tryz.prog 110 #[.int .i64 cN] bV (.v (.one .ah)) (fun(cH:ao) cn=>ak mF bV cn (aw Tryz.prog (Builtin.append_ #[22,22] 22 #[.slice cE.1 cE.2.1 cE.2.2,.slice cH.1 cH.2.1 cH.2.2]) cn (.v (.one .ah)) (fun(bX:ao) cZ=>ak mF cn cZ (aH cZ (fun dy=>bb (fun uL=>aE uL ((ad g1).add 5) (ae (.int .u64) ((ad g1).add 5) dy (fun(de:Int)=>aE uL ((ad g1).add 6) (ae .bool ((ad g1).add 6) dy (fun(dO:Bool)=>ab Tryz.prog 49 #[.int .u64 de] dy (.v (.one .ah)) (fun(ij:ao) jg=>ak uL dy jg (aw Tryz.prog (Builtin.append_ #[22,22] 22 #[.slice bX.1 bX.2.1 bX.2.2,.slice ij.1 ij.2.1 ij.2.2]) jg (.v (.one .ah)) (fun(eY:ao) ef=>ak uL jg ef (ab Tryz.prog 111 #[.bool dO] ef (.v (.one (.int .u8))) (fun(fN:Int) eU=>ak uL ef eU (aw Tryz.prog (Instr.buildSlice 22 1 #[(0,.int .u8 fN)]) eU (.v (.one .ah)) (fun(jx:ao) fU=>ak uL eU fU (aw Tryz.prog (Builtin.append_ #[22,22] 22 #[.slice eY.1 eY.2.1 eY.2.2,.slice jx.1 jx.2.1 jx.2.2]) fU (.v (.one .ah)) (fun(fY:ao) gN=>ak uL fU gN (ae (.int .i64) ((ad g1).add 3) gN (fun(fO:Int)=>aa (fO != 1)
 (K (.tuple #[.slice fY.1 fY.2.1 fY.2.2,.int .i64 0]) gN)
 (az dR ((ad g1).add 7) gN (fun(la:bH)=>ab Tryz.prog 33 #[.agg (bS la).toArray] gN (.aP [.one .ah,.one (.int .i64)]) (fun(fR:ao×Int×Unit) mR=>aa (fR.2.1 != 0)
 (K (.tuple #[.slice none 0 0,.int .i64 fR.2.1]) mR)
 (aw Tryz.prog (Builtin.append_ #[22,22] 22 #[.slice fY.1 fY.2.1 fY.2.2,.slice fR.1.1 fR.1.2.1 fR.1.2.2]) mR (.v (.one .ah)) (fun(ko:ao) kq=>K (.tuple #[.slice ko.1 ko.2.1 ko.2.2,.int .i64 0]) kq)))))))))))))))))))))))))))))))))))))))))))))))))))))))))
def pl52:aB:=(.seq .auto (.seq .auto (.seq .auto (.seq (.held (.soft 0 (.soft 1 (.soft 2 (.soft 5 (.soft 6 (.pick 3 (.pick 4 (.pick 7 (.pick 8 (.soft 9 .done) .stop) .stop) .stop) .stop))))))) (.seq (.held (.soft 0 (.soft 1 (.soft 2 (.soft 6 (.soft 7 (.pick 3 (.pick 4 (.pick 5 (.pick 8 (.pick 9 (.soft 10 .done) .stop) .stop) .stop) .stop) .stop))))))) (.seq (.held (.soft 0 (.soft 1 (.soft 2 (.soft 5 (.soft 6 (.pick 3 (.pick 4 (.pick 7 (.pick 8 (.pick 9 (.soft 10 .done) .stop) .stop) .stop) .stop) .stop))))))) .auto))))))
theorem c52 (p0:fM)(w:World)(K:Value->World->Prop)(h:C52 p0 w K):Ret Tryz.prog 52 #[.agg (gd p0).toArray] w K:=aC (by kernel_rfl) Tryz.func52 (p:=pl52) (Eq.mpr (by kernel_rfl) h)
def C24 (p0:List Value)(p1:fM)(w:World)(K:Value->World->Prop):Prop:=
 aq (.cells p0.toArray 24) w (fun g1 w2=>aq (.cells ((gd p1).toArray) 42) w2 (fun g3 w4=>az ig (ad g3) w4 (fun(x5:fM)=>ab Tryz.prog 52 #[.agg (gd x5).toArray] w4 (.aP [.one .ah,.one (.int .i64)]) (fun(x6:ao×Int×Unit) w7=>aa (x6.2.1 != 0)
 (K (.tuple #[.slice none 0 0,.int .i64 x6.2.1]) w7)
 (eF 16 (ad g1) w7 (fun x8=>ab Tryz.prog 50 #[.agg x8.toArray,.slice x6.1.1 x6.1.2.1 x6.1.2.2] w7 (.v (.one (.int .u64))) (fun(x9:Int) aK=>ab Tryz.prog 49 #[.int .u64 x9] aK (.v (.one .ah)) (fun(aZ:ao) aO=>aw Tryz.prog (Builtin.append_ #[22,22] 22 #[.slice x6.1.1 x6.1.2.1 x6.1.2.2,.slice aZ.1 aZ.2.1 aZ.2.2]) aO (.v (.one .ah)) (fun(bC:ao) bu=>K (.tuple #[.slice bC.1 bC.2.1 bC.2.2,.int .i64 0]) bu)))))))))
def pl24:aB:=.auto
theorem c24 (p0:List Value)(p1:fM)(w:World)(K:Value->World->Prop)(h:C24 p0 p1 w K):Ret Tryz.prog 24 #[.agg p0.toArray,.agg (gd p1).toArray] w K:=aC (by kernel_rfl) Tryz.func24 (p:=pl24) (Eq.mpr (by kernel_rfl) h)
def C51 (p0:Option Addr)(aI aN:Nat)(w:World)(K:Value->World->Prop):Prop:=
 aq (.cells #[.int .i64 0,.int .i64 0,.int .i64 0,.int .i64 0,.int .i64 0,.int .u64 0,.bool false,.int .i64 0,.string (⟨#[]⟩:ByteArray),.string (⟨#[]⟩:ByteArray),.string (⟨#[]⟩:ByteArray),.string (⟨#[]⟩:ByteArray),.int .i64 0,.int .i64 0,.nilIface] 42) w (fun g1 w2=>aH w2 (fun w3=>bb (fun S4=>bK p0 aI 0 1 (fun a5=>aE S4 a5 (ae (.int .u8) a5 w3 (fun(x6:Int)=>bK p0 aI 17 1 (fun a7=>aE S4 a7 (ae (.int .u8) a7 w3 (fun(x8:Int)=>bK p0 aI 34 1 (fun a9=>aE S4 a9 (ae (.int .u8) a9 w3 (fun(aS:Int)=>aq (.cells #[.int .i64 0,.int .i64 0,.int .i64 0,.int .i64 0,.int .i64 0,.int .u64 0,.bool false,.int .i64 0,.string (⟨#[]⟩:ByteArray),.string (⟨#[]⟩:ByteArray),.string (⟨#[]⟩:ByteArray),.string (⟨#[]⟩:ByteArray),.int .i64 0,.int .i64 0,.nilIface] 42) w3 (fun g11 aO=>ak S4 w3 aO (av (ad g11) [.int .i64 (IntKind.i64.wrap x6),.int .i64 0,.int .i64 0,.int .i64 (IntKind.i64.wrap x8),.int .i64 0,.int .u64 0,.bool (aS==1),.int .i64 0,.string (⟨#[]⟩:ByteArray),.string (⟨#[]⟩:ByteArray),.string (⟨#[]⟩:ByteArray),.string (⟨#[]⟩:ByteArray),.int .i64 0,.int .i64 0,.nilIface] aO (fun aW=>ak S4 aO aW (eu p0 aN 1 9 aN 1 (fun xN U3 c16=>ab Tryz.prog 107 #[.slice xN U3 c16] aW (.aP [.one (.int .i64),.one .bool]) (fun(aX:Int×Bool×Unit) bx=>ay ((ad g11).add 1) (.int .i64 aX.1) bx (fun bO=>eu p0 aN 9 17 aN 1 (fun a20 FM c22=>ab Tryz.prog 107 #[.slice a20 FM c22] bO (.aP [.one (.int .i64),.one .bool]) (fun(cc:Int×Bool×Unit) bU=>ay ((ad g11).add 2) (.int .i64 cc.1) bU (fun dn=>eu p0 aN 18 26 aN 1 (fun FP U4 c28=>ab Tryz.prog 107 #[.slice FP U4 c28] dn (.aP [.one (.int .i64),.one .bool]) (fun(cH:Int×Bool×Unit) cn=>ay ((ad g11).add 4) (.int .i64 cH.1) cn (fun eK=>eu p0 aN 26 34 aN 1 (fun U5 U6 c34=>ab Tryz.prog 108 #[.slice U5 U6 c34] eK (.aP [.one (.int .u64),.one .bool]) (fun(de:Int×Bool×Unit) cW=>ay ((ad g11).add 5) (.int .u64 de.1) cW (fun dq=>ae (.int .i64) ((ad g11).add 3) dq (fun(dN:Int)=>aa (dN==1)
 (eu p0 aN 35 aI aN 1 (fun U7 U8 c41=>ab Tryz.prog 93 #[.slice U7 U8 c41] dq (.aP [.agg dR,.one (.int .i64)]) (fun(jD:bH×Int×Unit) k8=>av ((ad g11).add 7) [.int .i64 jD.1.1,.string jD.1.2.1,.string jD.1.2.2.1,.string jD.1.2.2.2.1,.string jD.1.2.2.2.2.1,.int .i64 jD.1.2.2.2.2.2.1,.int .i64 jD.1.2.2.2.2.2.2.1,jD.1.2.2.2.2.2.2.2.1] k8 (fun fU=>az ig (ad g11) fU (fun(fY:fM)=>av (ad g1) (gd fY) fU (fun gN=>az ig (ad g1) gN (fun(fO:fM)=>K (.agg (gd fO).toArray) gN)))))))
 (az ig (ad g11) dq (fun(la:fM)=>av (ad g1) (gd la) dq (fun AU=>az ig (ad g1) AU (fun(jy:fM)=>K (.agg (gd jy).toArray) AU)))))))))))))))))))))))))))))))))
def pl51:aB:=(.seq .auto (.seq (.held (.soft 0 (.soft 1 (.soft 2 (.soft 3 (.soft 4 (.soft 5 (.soft 6 (.soft 7 (.soft 8 (.soft 9 (.soft 10 (.soft 11 (.soft 12 (.pick 13 (.pick 14 .done .stop) .stop))))))))))))))) .auto))
theorem c51 (p0:Option Addr)(aI aN:Nat)(w:World)(K:Value->World->Prop)(h:C51 p0 aI aN w K):Ret Tryz.prog 51 #[.slice p0 aI aN] w K:=aC (by kernel_rfl) Tryz.func51 (p:=pl51) (Eq.mpr (by kernel_rfl) h)
def C14 (p0:List Value)(p1:Option Addr)(ct cO:Nat)(w:World)(K:Value->World->Prop):Prop:=
 aq (.cells p0.toArray 24) w (fun g1 w2=>aq (.cells #[.int .i64 0,.int .i64 0,.int .i64 0,.int .i64 0,.int .i64 0,.int .u64 0,.bool false,.int .i64 0,.string (⟨#[]⟩:ByteArray),.string (⟨#[]⟩:ByteArray),.string (⟨#[]⟩:ByteArray),.string (⟨#[]⟩:ByteArray),.int .i64 0,.int .i64 0,.nilIface] 42) w2 (fun g3 w4=>aa (decide ((ct:Int)<8))
 (av (ad g3) [.int .i64 0,.int .i64 0,.int .i64 0,.int .i64 0,.int .i64 0,.int .u64 0,.bool false,.int .i64 0,.string (⟨#[]⟩:ByteArray),.string (⟨#[]⟩:ByteArray),.string (⟨#[]⟩:ByteArray),.string (⟨#[]⟩:ByteArray),.int .i64 0,.int .i64 0,.nilIface] w4 (fun w5=>az ig (ad g3) w5 (fun(x6:fM)=>K (.tuple #[.agg (gd x6).toArray,.int .i64 2]) w5)))
 (aH w4 (fun w7=>eu p1 cO 0 (IntKind.i64.wrap ((ct:Int) - 8)) cO 1 (fun a8 l9 c10=>eu p1 cO (IntKind.i64.wrap ((ct:Int) - 8)) ct cO 1 (fun Fe U9 c13=>eF 16 (ad g1) w7 (fun bn=>ab Tryz.prog 50 #[.agg bn.toArray,.slice a8 l9 c10] w7 (.v (.one (.int .u64))) (fun(bm:Int) br=>ab Tryz.prog 49 #[.int .u64 bm] br (.v (.one .ah)) (fun(aX:ao) bx=>ab Tryz.prog 48 #[.slice Fe U9 c13,.slice aX.1 aX.2.1 aX.2.2] bx (.v (.one .bool)) (fun(bt:Bool) bz=>aa (!bt)
 (av (ad g3) [.int .i64 0,.int .i64 0,.int .i64 0,.int .i64 0,.int .i64 0,.int .u64 0,.bool false,.int .i64 0,.string (⟨#[]⟩:ByteArray),.string (⟨#[]⟩:ByteArray),.string (⟨#[]⟩:ByteArray),.string (⟨#[]⟩:ByteArray),.int .i64 0,.int .i64 0,.nilIface] bz (fun bq=>az ig (ad g3) bq (fun(cr:fM)=>K (.tuple #[.agg (gd cr).toArray,.int .i64 12]) bq)))
 (aa (decide ((l9:Int)<35))
 (av (ad g3) [.int .i64 0,.int .i64 0,.int .i64 0,.int .i64 0,.int .i64 0,.int .u64 0,.bool false,.int .i64 0,.string (⟨#[]⟩:ByteArray),.string (⟨#[]⟩:ByteArray),.string (⟨#[]⟩:ByteArray),.string (⟨#[]⟩:ByteArray),.int .i64 0,.int .i64 0,.nilIface] bz (fun dW=>az ig (ad g3) dW (fun(cN:fM)=>K (.tuple #[.agg (gd cN).toArray,.int .i64 2]) dW)))
 (ab Tryz.prog 51 #[.slice a8 l9 c10] bz (.v (.agg ig)) (fun(bG:fM) bZ=>aq (.cells #[.int .i64 0,.int .i64 0,.int .i64 0,.int .i64 0,.int .i64 0,.int .u64 0,.bool false,.int .i64 0,.string (⟨#[]⟩:ByteArray),.string (⟨#[]⟩:ByteArray),.string (⟨#[]⟩:ByteArray),.string (⟨#[]⟩:ByteArray),.int .i64 0,.int .i64 0,.nilIface] 42) bZ (fun FQ bV=>av (ad FQ) (gd bG) bV (fun eg=>az ig (ad FQ) eg (fun(dX:fM)=>ab Tryz.prog 52 #[.agg (gd dX).toArray] eg (.aP [.one .ah,.one (.int .i64)]) (fun(bX:ao×Int×Unit) cZ=>aa (bX.2.1 != 0)
 (av (ad g3) [.int .i64 0,.int .i64 0,.int .i64 0,.int .i64 0,.int .i64 0,.int .u64 0,.bool false,.int .i64 0,.string (⟨#[]⟩:ByteArray),.string (⟨#[]⟩:ByteArray),.string (⟨#[]⟩:ByteArray),.string (⟨#[]⟩:ByteArray),.int .i64 0,.int .i64 0,.nilIface] cZ (fun dy=>az ig (ad g3) dy (fun(ez:fM)=>K (.tuple #[.agg (gd ez).toArray,.int .i64 2]) dy)))
 (ab Tryz.prog 53 #[.slice bX.1.1 bX.1.2.1 bX.1.2.2,.slice a8 l9 c10] cZ (.v (.one .bool)) (fun(de:Bool) cW=>aa (!de)
 (av (ad g3) [.int .i64 0,.int .i64 0,.int .i64 0,.int .i64 0,.int .i64 0,.int .u64 0,.bool false,.int .i64 0,.string (⟨#[]⟩:ByteArray),.string (⟨#[]⟩:ByteArray),.string (⟨#[]⟩:ByteArray),.string (⟨#[]⟩:ByteArray),.int .i64 0,.int .i64 0,.nilIface] cW (fun dq=>az ig (ad g3) dq (fun(dN:fM)=>K (.tuple #[.agg (gd dN).toArray,.int .i64 2]) dq)))
 (az ig (ad FQ) cW (fun(eY:fM)=>av (ad g3) (gd eY) cW (fun ef=>az ig (ad g3) ef (fun(fN:fM)=>K (.tuple #[.agg (gd fN).toArray,.int .i64 0]) ef)))))))))))))))))))))))
def pl14:aB:=(.seq .auto (.seq .auto (.seq .still .auto)))
theorem c14 (p0:List Value)(p1:Option Addr)(ct cO:Nat)(w:World)(K:Value->World->Prop)(h:C14 p0 p1 ct cO w K):Ret Tryz.prog 14 #[.agg p0.toArray,.slice p1 ct cO] w K:=aC (by kernel_rfl) Tryz.func14 (p:=pl14) (Eq.mpr (by kernel_rfl) h)
namespace Vc
theorem az.off {cks:List Ck}{b o:Nat}{w:World}{K:Cs cks->Prop}{cs:Array Value}{T:TypeId}{fr:Nat×Nat}{x:Cs cks}(hb:w.heap[b]? = some (.cells cs T fr))(hx:∀ j,j<(Cs.vals cks x).length->cs[o+j]? = (Cs.vals cks x)[j]?)(h:K x):az cks ((⟨b,0,none⟩:Addr).add o) w K:=
 ⟨x,yI (m:=o) _ 0 (nV hb _ o hx),h⟩
end Vc
abbrev kC:=Int×Int×Int×Int×Int×Int×Bool×dz
abbrev FK:List Ck:=[.int .i64,.int .i64,.int .i64,.int .i64,.int .i64,.int .u64,.bool,.int .i64,.str,.str,.str,.str,.int .i64,.int .i64,.raw]
def fy (f:kC):dz:=f.2.2.2.2.2.2.2
def dv (f:kC):List Value:=[.int .i64 f.1,.int .i64 f.2.1,.int .i64 f.2.2.1,.int .i64 f.2.2.2.1,.int .i64 f.2.2.2.2.1,.int .u64 f.2.2.2.2.2.1,.bool f.2.2.2.2.2.2.1,.int .i64 (fy f).1,.string (fy f).2.1,.string (fy f).2.2.1,.string (fy f).2.2.2.1,.string (fy f).2.2.2.2.1,.int .i64 (fy f).2.2.2.2.2.1,.int .i64 (fy f).2.2.2.2.2.2.1,(fy f).2.2.2.2.2.2.2.1]
def qo (f:kC):Value:=.agg (dv f).toArray
theorem FR {f:kC}(h:bJ (fy f).2.2.2.2.2.2.2.1=true):(dv f).all bJ=true:=by
 unfold dv;simp only[List.all_cons,List.all_nil,Bool.and_true,Bool.and_eq_true,h,and_true];exact⟨rfl,rfl,rfl,rfl,rfl,rfl,rfl,rfl,rfl,rfl,rfl,rfl,rfl,rfl⟩
def iG (n:Int):Bool:=decide (0<=n)&&decide (n<=2147483647)
def rp (e:dz):Bool:=gv e.2.2.2.2.2.2.2.1&&(e.1==0&&(ix e.2.1&&(ix e.2.2.1&&(ix e.2.2.2.1&&(ix e.2.2.2.2.1&&(e.2.2.2.2.2.1==0&&e.2.2.2.2.2.2.1==0))))))
def oz (f:kC):Bool:=(f.1==0||f.1==1)&&(iG f.2.1&&(iG f.2.2.1&&iG f.2.2.2.2.1))
def sO (f:kC):Bool:=decide (1<=f.2.2.2.1)&&(decide (f.2.2.2.1<=4)&&!(f.2.2.2.2.2.2.1&&(f.2.2.2.1==1||f.2.2.2.1==3)))
def lp (f:kC)(tr:Int):Int:=if oz f=false then 1 else if sO f=false then 1 else if f.2.2.2.1=1 then mB (fy f) tr else if rp (fy f)=false then 1 else 0
def qp (f:kC):List UInt8:=UInt8.ofNat (f.1 % 256).toNat::(bW f.2.1++(bW f.2.2.1++(UInt8.ofNat (f.2.2.2.1 % 256).toNat::(bW f.2.2.2.2.1++(gk f.2.2.2.2.2.1++[if f.2.2.2.2.2.2.1=true then 1 else 0])))))
def jH (f:kC)(ts:List UInt8)(tr:Int):List UInt8×Int:=if lp f tr≠0 then([],lp f tr) else if f.2.2.2.1≠1 then(qp f,0) else(qp f++(iy (fy f) ts tr).1,0)
def uM (kb:List UInt8)(f:kC)(ts:List UInt8)(tr:Int):List UInt8×Int:=if(jH f ts tr).2≠0 then([],(jH f ts tr).2) else((jH f ts tr).1++gk (mO kb (jH f ts tr).1),0)
theorem yY (f:kC):(qp f).length=35:=by
 unfold qp;simp only[List.length_cons,List.length_append,gU,pq,List.length_nil]
theorem Va (n:Int)(w:World):Ret Tryz.prog 155 #[.int .i64 n] w fun r w'=>r=.bool (iG n)/\w=w':=by
 refine c155 n w _ ?_;unfold iG;refine aa.dec (fun h=>?_) (fun h=>?_)
 ·rw[decide_eq_true (p:=0<=n) (by omega)];exact⟨rfl,rfl⟩
 ·rw[decide_eq_false (p:=0<=n) (by omega)];exact⟨rfl,rfl⟩
theorem FU (n:Int)(w:World){K:Bool->World->Prop}(h:K (iG n) w):ab Tryz.prog 155 #[.int .i64 n] w (.v (.one .bool)) (fun(x:Bool) w'=>K x w'):=by
 refine ab.of (Va n w) ?_;rintro _ _ ⟨rfl,rfl⟩;exact⟨_,rfl,h⟩
theorem Vb (e:dz)(hT:o0 e.2.2.2.2.2.2.2.1)(w:World):Ret Tryz.prog 156 #[gV e] w fun r w'=>r=.bool (rp e)/\Fr none1 w w':=by
 refine c156 e w _ ?_;unfold C156;refine aq.of fun g1 w1 di ar f1 jL=>?_;unfold rp;refine ae.ai ar (x:=e.2.2.2.2.2.2.2.1) rfl ?_;refine⟨gv e.2.2.2.2.2.2.2.1,w1,nil_eq FO _ hT w1,?_⟩;refine aa.by (fun q=>?_) (fun q=>by rw[q];exact⟨rfl,f1⟩);rw[q,Bool.true_and];refine ae.ai ar (x:=e.1) rfl ?_;refine aa.by (fun q=>?_) (fun q=>by rw[q];exact⟨rfl,f1⟩);rw[q,Bool.true_and];refine ae.ai ar (x:=e.2.1) rfl ?_;refine aa.by (fun q=>?_) (fun q=>by rw[show ix e.2.1=false from q];exact⟨rfl,f1⟩);rw[show ix e.2.1=true from q,Bool.true_and];refine ae.ai ar (x:=e.2.2.1) rfl ?_;refine aa.by (fun q=>?_) (fun q=>by rw[show ix e.2.2.1=false from q];exact⟨rfl,f1⟩);rw[show ix e.2.2.1=true from q,Bool.true_and];refine ae.ai ar (x:=e.2.2.2.1) rfl ?_;refine aa.by (fun q=>?_) (fun q=>by rw[show ix e.2.2.2.1=false from q];exact⟨rfl,f1⟩);rw[show ix e.2.2.2.1=true from q,Bool.true_and];refine ae.ai ar (x:=e.2.2.2.2.1) rfl ?_;refine aa.by (fun q=>?_) (fun q=>by rw[show ix e.2.2.2.2.1=false from q];exact⟨rfl,f1⟩);rw[show ix e.2.2.2.2.1=true from q,Bool.true_and];refine ae.ai ar (x:=e.2.2.2.2.2.1) rfl ?_;refine aa.by (fun q=>?_) (fun q=>by rw[q];exact⟨rfl,f1⟩);rw[q,Bool.true_and];refine ae.ai ar (x:=e.2.2.2.2.2.2.1) rfl ?_;exact⟨rfl,f1⟩
def uN (w:World)(x:Value)(ts:List UInt8)(tr:Int):Prop:=∀ w1,Fr none1 w w1->Ret Tryz.prog 132 #[x] w1 fun r w'=>r=.tuple #[.string (str ts),.int .i64 tr]/\Fr none1 w1 w'
theorem uN.ag {w w':World}{x:Value}{ts:List UInt8}{tr:Int}(h:uN w x ts tr)(f:Fr none1 w w'):uN w' x ts tr:=fun w1 f1=>h w1 (f.trans f1)
theorem FV (t:Tm)(hn:aJ t<=1000000){w:World}(ht:TabW w):uN w t.v (bh t).1 (bh t).2:=fun w1 f=>AZ t hn w1 (ht.af f)
theorem FW {w:World}{g:Nat}{f:kC}{T:TypeId}(hb:w.heap[g]? = some (.cells (dv f).toArray T (0,0))){K:dz->Prop}(k:K (fy f)):az EK ((⟨g,0,none⟩:Addr).add 7) w K:=by
 refine az.off (x:=fy f) hb (fun j hj=>?_) k
 match j,hj with
 | 0,_=>rfl
 | 1,_=>rfl
 | 2,_=>rfl
 | 3,_=>rfl
 | 4,_=>rfl
 | 5,_=>rfl
 | 6,_=>rfl
 | 7,_=>rfl
 | j+8,h=>exact absurd h (by show ¬ j+8<8;omega)
theorem Vd (f : kC)(hT : o0 (fy f).2.2.2.2.2.2.2.1)(ts : List UInt8)(tr : Int)(w : World)(ht : uN w (fy f).2.2.2.2.2.2.2.1 ts tr):
    Ret Tryz.prog 109 #[qo f] w fun r w' => r = .int .i64 (lp f tr) /\ Fr none1 w w' := by
  refine c109 f w _ ?_;unfold C109;refine aq.of fun g1 w1 di ar f1 jL => ?_;have ar : w1.heap[g1]? = some (.cells (dv f).toArray 42 (0, 0)) := ar;refine bQ.of (fun s w' => s.1 = !(oz f) /\ w1 = w') ?_ ?_
  · have rest : (f.1 == 0 || f.1 == 1) = true -> ae (.int .i64) ((⟨g1, 0, none⟩ : Addr).add 1) w1 (fun(x8 : Int) => ab Tryz.prog 155 #[.int .i64 x8] w1 (.v (.one .bool)) (fun(x9 : Bool) aK => aa (!x9)
        ((true = !(oz f)) /\ w1 = aK)
        (ae (.int .i64) ((⟨g1, 0, none⟩ : Addr).add 2) aK (fun(aZ : Int) => ab Tryz.prog 155 #[.int .i64 aZ] aK (.v (.one .bool)) (fun(bw : Bool) aW => aa (!bw)
        ((true = !(oz f)) /\ w1 = aW)
        (ae (.int .i64) ((⟨g1, 0, none⟩ : Addr).add 4) aW (fun(bn : Int) => ab Tryz.prog 155 #[.int .i64 bn] aW (.v (.one .bool)) (fun(bm : Bool) br => ((!bm) = !(oz f)) /\ w1 = br))))))) ) := fun h0 => by
      unfold oz;rw[h0, Bool.true_and];refine ae.ai ar (x := f.2.1) rfl (FU _ _ (aa.not (aa.by (fun q => ?_) (fun q => by rw[q]; exact⟨rfl, rfl⟩))));rw[q, Bool.true_and];refine ae.ai ar (x := f.2.2.1) rfl (FU _ _ (aa.not (aa.by (fun q => ?_) (fun q => by rw[q]; exact⟨rfl, rfl⟩))));rw[q, Bool.true_and];exact ae.ai ar (x := f.2.2.2.2.1) rfl (FU _ _ ⟨rfl, rfl⟩)
    refine ae.ai ar (x := f.1) rfl ?_;refine aa.ne (fun h => ?_) (fun h => rest (by rw[h]; rfl));refine ae.ai ar (x := f.1) rfl ?_;refine aa.ne (fun h' => ?_) (fun h' => rest (by rw[h']; rfl));refine⟨?_, rfl⟩;unfold oz;rw[beq_false_of_ne h, beq_false_of_ne h']; rfl
  rintro _ ⟨s, _⟩ _ ⟨hs, rfl⟩;dsimp only at hs ⊢;subst hs;unfold lp;refine aa.by (fun q => ?_) (fun q => ?_)
  · rw[if_pos (by simpa using q)]; exact⟨rfl, f1⟩
  rw[if_neg (by simpa using q)];refine bQ.of (fun s w' => s.1 = !(sO f) /\ w1 = w') ?_ ?_
  · unfold sO
    refine ae.ai ar (x := f.2.2.2.1) rfl ?_;refine aa.dec (fun h => ?_) (fun h => ?_)
    · rw[decide_eq_false (p := 1 <= f.2.2.2.1) (by omega)]; exact⟨rfl, rfl⟩
    rw[decide_eq_true (p := 1 <= f.2.2.2.1) (by omega), Bool.true_and];refine ae.ai ar (x := f.2.2.2.1) rfl ?_;refine aa.dec (fun h => ?_) (fun h => ?_)
    · rw[decide_eq_false (p := f.2.2.2.1 <= 4) (by omega)]; exact⟨rfl, rfl⟩
    rw[decide_eq_true (p := f.2.2.2.1 <= 4) (by omega), Bool.true_and, Bool.not_not];refine ae.ai ar (x := f.2.2.2.2.2.2.1) rfl ?_;refine aa.by (fun q => ?_) (fun q => by rw[q]; exact⟨rfl, rfl⟩);rw[q, Bool.true_and];refine ae.ai ar (x := f.2.2.2.1) rfl ?_;refine aa.by (fun q => by rw[q]; exact⟨rfl, rfl⟩) (fun q => ?_);rw[q, Bool.false_or];exact ae.ai ar (x := f.2.2.2.1) rfl ⟨rfl, rfl⟩
  rintro _ ⟨s, _⟩ _ ⟨hs, rfl⟩;dsimp only at hs ⊢;subst hs;refine aa.by (fun q => ?_) (fun q => ?_)
  · rw[if_pos (by simpa using q)]; exact⟨rfl, f1⟩
  rw[if_neg (by simpa using q)];refine ae.ai ar (x := f.2.2.2.1) rfl ?_;refine aa.eq (fun h => ?_) (fun h => ?_)
  · rw[if_pos h]
    refine FW ar ?_;refine ab.of (DX (fy f) hT tr w1 fun _ w2 f2 => (ht w2 (f1.trans f2)).mono fun r w' ⟨h, f⟩ => ⟨⟨_, h⟩, f⟩) ?_;rintro _ w2 ⟨rfl, f2⟩;exact⟨_, rfl, rfl, f1.trans f2⟩
  · rw[if_neg h]
    refine FW ar ?_;refine ab.of (Vb (fy f) hT w1) ?_;rintro _ w2 ⟨rfl, f2⟩;refine⟨_, rfl, aa.not (aa.by (fun q => ?_) (fun q => ?_))⟩
    · rw[if_neg (by rw[q]; decide)]; exact⟨rfl, f1.trans f2⟩
    · rw[if_pos q]; exact⟨rfl, f1.trans f2⟩
theorem Ve (b:Bool)(w:World){K:Int->World->Prop}(h:∀ n:Int,Value.int .u8 n=bc (if b=true then 1 else 0)->K n w):ab Tryz.prog 111 #[.bool b] w (.v (.one (.int .u8))) (fun(x:Int) w'=>K x w'):=by
 refine ab.of (R:=fun r w'=>r=.int .u8 (if b=true then 1 else 0)/\w=w') ?_ ?_
 ·refine c111 b w _ ?_
  unfold C111;cases b
  ·exact aa.f rfl ⟨rfl,rfl⟩
  ·exact aa.t rfl ⟨rfl,rfl⟩
 ·rintro _ _ ⟨rfl,rfl⟩
  exact⟨_,rfl,h _ (by cases b<;>rfl)⟩
structure Own (w0 w:World)(v:Sl)(bs:List UInt8):Prop where
 is:bR w v bs
 lo:∀ k,au v k->w0.heap.size<=k
theorem Own.af {w0 w w':World}{v:Sl}{bs:List UInt8}(h:Own w0 w v bs)(f:Fr none1 w w'):Own w0 w' v bs:=⟨h.is.af f,h.lo⟩
theorem Own.app {w0 w:World}{x:Sl}{xs:List UInt8}(hx:Own w0 w x xs)(h0:w0.heap.size<=w.heap.size){y:Sl}{ys:List UInt8}(hy:aY w y ys)(hl:xs.length+ys.length<=140737488355000){K:(Option Addr×Nat×Nat)->World->Prop}
  (k:∀ (u:Sl) w',Own w0 w' u (xs++ys)->Fr (au x) w w'->K u w') :
  aw Tryz.prog (Builtin.append_ #[22,22] 22 #[.slice x.1 x.2.1 x.2.2,.slice y.1 y.2.1 y.2.2]) w (.v (.one .ah)) (fun(u:Option Addr×Nat×Nat) w'=>K u w'):=by
 obtain⟨u,w',hr,hu,f,uf⟩:=qK hx.is hy hl;refine⟨u,w',hr,k u w' ⟨hu,fun j hj=>?_⟩ f⟩
 rcases uf j hj with t | t
 ·exact hx.lo j t
 ·omega
theorem yZ {w:World}(c:UInt8){K:(Option Addr×Nat×Nat)->World->Prop}(k:∀ (u:Sl) w',bR w' u [c]->Fr none1 w w'->(∀ j,au u j->w.heap.size<=j)->K u w'):
  aw Tryz.prog (Instr.buildSlice 22 1 #[(0,bc c)]) w (.v (.one .ah)) (fun(u:Option Addr×Nat×Nat) w'=>K u w'):=by
 obtain⟨x,w',hr,hx,_,f,xf⟩:=qJ (P:=Tryz.prog) (w:=w) mm [bc c] (by simp[bc,Value.cells]) (by simp);exact⟨x,w',hr,k x w' hx f xf⟩
theorem FX (n:Int)(w:World){K:(Option Addr×Nat×Nat)->World->Prop}(k:∀ u w',bR w' u (bW n)->Fr none1 w w'->K u w'):ab Tryz.prog 110 #[.int .i64 n] w (.v (.one .ah)) (fun(x:Option Addr×Nat×Nat) w'=>K x w'):=by
 refine ab.of (Jr n w) ?_;rintro _ w1 ⟨u,rfl,hu,f1,uf⟩;exact⟨u,rfl,k u w1 hu f1⟩
theorem FY (n:Int)(h0:0<=n)(h1:n<18446744073709551616)(w:World){K:(Option Addr×Nat×Nat)->World->Prop}(k:∀ u w',bR w' u (gk n)->Fr none1 w w'->K u w'):ab Tryz.prog 49 #[.int .u64 n] w (.v (.one .ah)) (fun(x:Option Addr×Nat×Nat) w'=>K x w'):=by
 refine ab.of (Me n h0 h1 w) ?_;rintro _ w1 ⟨u,rfl,hu,f1,uf⟩;exact⟨u,rfl,k u w1 hu f1⟩
theorem Mf (n:Int):Value.int .u8 (IntKind.u8.wrap n)=bc (UInt8.ofNat (n % 256).toNat):=by
 unfold bc;have h0:0<=n % 256:=Int.emod_nonneg _ (by decide);have h1:n % 256<256:=Int.emod_lt_of_pos _ (by decide);rw[nY (by omega)]
 congr 1
 simp[IntKind.wrap,IntKind.signed,IntKind.bits];omega
theorem Mg (f:kC)(hT:o0 (fy f).2.2.2.2.2.2.2.1)(hz:o7 (fy f))(hh:0<=f.2.2.2.2.2.1/\f.2.2.2.2.2.1<18446744073709551616)(ts:List UInt8)(jC:ts.length<=1000000)(tr:Int)(w:World)(ht:uN w (fy f).2.2.2.2.2.2.2.1 ts tr):
  Ret Tryz.prog 52 #[qo f] w fun r w'=>∃ v:Sl,r=.tuple #[.slice v.1 v.2.1 v.2.2,.int .i64 (jH f ts tr).2]/\Own w w' v (jH f ts tr).1/\Fr none1 w w':=by
 refine c52 f w _ ?_;unfold C52;refine aq.of fun g1 w1 di ar f1 jL=>?_;have ar:w1.heap[g1]? = some (.cells (dv f).toArray 42 (0,0)):=ar;refine az.aG (cks:=FK) (x:=f) ar ?_;refine ab.of (Vd f hT ts tr w1 (ht.ag f1)) ?_;rintro _ w2 ⟨rfl,f2⟩;refine⟨_,rfl,?_⟩;have Vf:∀ k,¬ au ((none,0,0):Sl) k:=fun k ⟨a,ha,_⟩=>by cases ha
 unfold jH;refine aa.ne (fun aA=>?_) (fun he=>?_)
 ·rw[if_pos aA]
  exact⟨(none,0,0),rfl,⟨DA w2,fun k U=>(Vf k U).elim⟩,f1.trans f2⟩
 rw[if_neg (fun t=>t he)];have b2:=f2.af ar;have F:=f1.trans f2;refine ae.ai b2 (x:=f.1) rfl ?_;rw[Mf];refine yZ _ fun x w3 hx f3 xf=>?_;have h0:=F.size;have F:=F.trans f3;have hx:Own w1 w3 x [UInt8.ofNat (f.1 % 256).toNat]:=⟨hx,fun k U=>by have:=xf k U;have:=f2.size;omega⟩;have b3:=f3.af b2;have hg:w.heap.size<=g1:=by omega
 have own:∀ {wa:World} {v:Sl} {bs:List UInt8},Own w1 wa v bs->∀ k,au v k->k≠g1/\w.heap.size<=k:=fun h k U=>by have:=h.lo k U;omega
 have q1:∀ {wa:World},Fr none1 w wa->w1.heap.size<=wa.heap.size->∀ {v:Sl} {bs:List UInt8},Own w1 wa v bs->∀ {wb:World},Fr (au v) wa wb->Fr none1 w wb:=fun F _ _ _ h _ f=>F.comp f fun k U t=>by have:=(own h k t).2;omega
 have jB:w1.heap.size<=w3.heap.size:=by have:=f2.size;have:=f3.size;omega
 refine aH.of fun w4 _ f4=>bb.of (fun k=>k=g1) (wE rfl (ae.ai (f4.af b3) (x:=f.2.1) rfl (wE rfl (ae.ai (f4.af b3) (x:=f.2.2.1) rfl ?_))));refine FX _ w4 fun n1 w5 BG f5=>ak.of f5 ?_;have f35:=f4.trans f5;have hx:=hx.af f35;have b5:=f35.af b3;have F:=F.trans f35;have nr:w1.heap.size<=w5.heap.size:=by have:=f35.size;omega
 refine hx.app nr BG.rd (by rw[gU];simp only[List.length_singleton];omega) fun y w6 hy f6=>ak.on f6 (fun k U t=>(own hx k t).1 U) ?_;have b6:=f6.ag b5 (fun t=>(own hx _ t).1 rfl);have F:=q1 F nr hx f6;have Vg:w1.heap.size<=w6.heap.size:=by have:=f6.size;omega
 clear hx b5 f35 f4 f5 BG b3 f6;refine FX _ w6 fun n2 w7 kf f7=>ak.of f7 ?_;have hy:=hy.af f7;have b7:=f7.af b6;have F:=F.trans f7;have mT:w1.heap.size<=w7.heap.size:=by have:=f7.size;omega
 refine hy.app mT kf.rd (by rw[gU,List.length_append,gU,List.length_singleton];decide) fun z w8 uO f8=>ak.on f8 (fun k U t=>(own hy k t).1 U) ?_;have b8:=f8.ag b7 (fun t=>(own hy _ t).1 rfl);have F:=q1 F mT hy f8;have nZ:w1.heap.size<=w8.heap.size:=by have:=f8.size;omega
 clear hy b7 f7 kf b6 f8;refine aH.of fun w9 _ f9=>bb.of (fun k=>k=g1) (wE rfl (ae.ai (f9.af b8) (x:=f.2.2.2.1) rfl (wE rfl (ae.ai (f9.af b8) (x:=f.2.2.2.2.1) rfl (ak.same ?_)))));rw[Mf];refine yZ _ fun x2 aK sN f10 Vh=>ak.of f10 ?_;have y7:=f9.trans f10;have uO:=uO.af y7;have Mh:=y7.af b8;have F:=F.trans y7;have Mi:w1.heap.size<=aK.heap.size:=by have:=y7.size;omega
 refine uO.app Mi sN.rd (by simp only[List.length_append,gU,List.length_singleton];decide) fun u aR hu f11=>ak.on f11 (fun k U t=>(own uO k t).1 U) ?_;have Mj:=f11.ag Mh (fun t=>(own uO _ t).1 rfl);have F:=q1 F Mi uO f11;have abg:w1.heap.size<=aR.heap.size:=by have:=f11.size;omega
 clear uO Mh y7 sN Vh b8 f11 f9 f10;refine FX _ aR fun n3 aO Mk f12=>ak.of f12 ?_;have hu:=hu.af f12;have Ml:=f12.af Mj;have F:=F.trans f12;have Mm:w1.heap.size<=aO.heap.size:=by have:=f12.size;omega
 refine hu.app Mm Mk.rd (by simp only[List.length_append,gU,List.length_singleton];decide) fun v aW hv f13=>ak.on f13 (fun k U t=>(own hu k t).1 U) ?_;have BI:=f13.ag Ml (fun t=>(own hu _ t).1 rfl);have F:=q1 F Mm hu f13;have abh:w1.heap.size<=aW.heap.size:=by have:=f13.size;omega
 clear hu Ml f12 Mk Mj f13;refine aH.of fun bu _ f14=>bb.of (fun k=>k=g1) (wE rfl (ae.ai (f14.af BI) (x:=f.2.2.2.2.2.1) rfl (wE rfl (ae.ai (f14.af BI) (x:=f.2.2.2.2.2.2.1) rfl ?_))));refine FY _ hh.1 hh.2 bu fun n4 bL Mn f15=>ak.of f15 ?_;have y8:=f14.trans f15;have hv:=hv.af y8;have y9:=y8.af BI;have F:=F.trans y8;have Mo:w1.heap.size<=bL.heap.size:=by have:=y8.size;omega
 refine hv.app Mo Mn.rd (by simp only[List.length_append,gU,pq,List.length_singleton];decide) fun p br hp f16=>ak.on f16 (fun k U t=>(own hv k t).1 U) ?_;have Mp:=f16.ag y9 (fun t=>(own hv _ t).1 rfl);have F:=q1 F Mo hv f16;have abi:w1.heap.size<=br.heap.size:=by have:=f16.size;omega
 clear hv y9 y8 Mn BI f16 f14 f15;refine Ve _ br fun n hn=>ak.same ?_;rw[hn];refine yZ _ fun x3 cD Mq f17 Vi=>ak.of f17 ?_;have hp:=hp.af f17;have FZ:=f17.af Mp;have F:=F.trans f17;have Mr:w1.heap.size<=cD.heap.size:=by have:=f17.size;omega
 refine hp.app Mr Mq.rd (by simp only[List.length_append,gU,pq,List.length_singleton];decide) fun r bx hr f18=>ak.on f18 (fun k U t=>(own hp k t).1 U) ?_;have Ms:=f18.ag FZ (fun t=>(own hp _ t).1 rfl);have F:=q1 F Mr hp f18;have abj:w1.heap.size<=bx.heap.size:=by have:=f18.size;omega
 clear hp FZ f17 Mq Vi Mp f18;have Vj:([UInt8.ofNat (f.1 % 256).toNat]++bW f.2.1++bW f.2.2.1++[UInt8.ofNat (f.2.2.2.1 % 256).toNat]++bW f.2.2.2.2.1++gk f.2.2.2.2.2.1++[if f.2.2.2.2.2.2.1=true then 1 else 0])=qp f:=by
  unfold qp;simp only[List.append_assoc,List.cons_append,List.nil_append]
 rw[Vj] at hr;have A4:=yY f;have up:∀ {wa:World} {v:Sl} {bs:List UInt8},Own w1 wa v bs->Own w wa v bs:=fun h=>⟨h.is,fun k U=>(own h k U).2⟩;refine ae.ai Ms (x:=f.2.2.2.1) rfl ?_;refine aa.ne (fun aA=>?_) (fun ux=>?_)
 ·rw[if_pos aA]
  exact⟨r,rfl,up hr,F⟩
 rw[if_neg (fun t=>t ux)];have wG:(iy (fy f) ts tr).2=0:=by
  unfold lp at he;split at he
  ·cases he
  split at he
  ·cases he
  first | rw[if_pos ux] at he | skip
  unfold iy;rw[if_neg (fun t=>t he)]
 refine FW Ms ?_;refine ab.of (D4 (fy f) hT hz ts jC tr bx fun _ wa fa=>ht wa (F.trans fa)) ?_;rintro _ bO ⟨q,rfl,hq,f19,qf⟩;refine⟨(q,(iy (fy f) ts tr).2,()),rfl,?_⟩;dsimp only;refine aa.f (by rw[wG];rfl) ?_;have nH:=yH (fy f) hz ts jC tr;refine(hr.af f19).app (by have:=f19.size;omega) hq.rd (by omega) fun o bz ho f20=>?_;exact⟨o,rfl,up ho,q1 (F.trans f19) (by have:=f19.size;omega) (hr.af f19) f20⟩
theorem Vk (kb:List UInt8)(U:kb.length=16)(f:kC)(hT:o0 (fy f).2.2.2.2.2.2.2.1)(hz:o7 (fy f))(hh:0<=f.2.2.2.2.2.1/\f.2.2.2.2.2.1<18446744073709551616)(ts:List UInt8)(jC:ts.length<=1000000)(tr:Int)(w:World)(ht:uN w (fy f).2.2.2.2.2.2.2.1 ts tr):
  Ret Tryz.prog 24 #[.agg (cK kb).toArray,qo f] w fun r w'=>∃ v:Sl,r=.tuple #[.slice v.1 v.2.1 v.2.2,.int .i64 (uM kb f ts tr).2]/\Own w w' v (uM kb f ts tr).1/\Fr none1 w w':=by
 refine c24 (cK kb) f w _ ?_;unfold C24;refine aq.of fun g0 w0 FF rh f0 _=>aq.of fun g1 w1 di ar f1 jL=>?_;have ar:w1.heap[g1]? = some (.cells (dv f).toArray 42 (0,0)):=ar;have uP:=f0.trans f1;refine az.aG (cks:=FK) (x:=f) ar ?_;refine ab.of (Mg f hT hz hh ts jC tr w1 (ht.ag uP)) ?_;rintro _ w2 ⟨v,rfl,hv,f2⟩;refine⟨(v,(jH f ts tr).2,()),rfl,?_⟩;have F:=uP.trans f2;have kK:(jH f ts tr).1.length<=10000035:=by
  have:=yH (fy f) hz ts jC tr;have:=yY f;unfold jH;split
  ·simp
  split
  ·dsimp only;omega
  ·dsimp only;rw[List.length_append];omega
 unfold uM;dsimp only;have Vl:=uP.size;refine aa.ne (fun aA=>?_) (fun he=>?_)
 ·rw[if_pos aA]
  exact⟨(none,0,0),rfl,⟨DA w2,fun k ⟨a,ha,_⟩=>by cases ha⟩,F⟩
 rw[if_neg (fun t=>t he)];generalize(jH f ts tr).1=bs at *;refine eF.of (f2.af (f1.af rh)) (by simp[cK,U]) ?_;refine ab.of (FN U hv.is.rd hv.is.cap (by omega)) ?_;rintro _ w3 ⟨rfl,f3⟩;refine⟨_,rfl,?_⟩;have hr:=E3 kb bs;refine FY _ hr.1 hr.2 w3 fun u w4 hu f4=>?_;have f24:=f3.trans f4;have Vm:=f24.size;have s2:=f2.size;refine(hv.af f24).app (by omega) hu.rd (by rw[pq];omega) fun o w5 ho f5=>?_;exact⟨o,rfl,⟨ho.is,fun k U=>by have:=ho.lo k U;omega⟩,(F.trans f24).comp f5 fun k U t=>by have:=hv.lo k t;omega⟩
abbrev cU:=Int×Int×Int×Int×Int×Int×Bool×aQ
def cU.f (m:cU):kC:=(m.1,m.2.1,m.2.2.1,m.2.2.2.1,m.2.2.2.2.1,m.2.2.2.2.2.1,m.2.2.2.2.2.2.1,m.2.2.2.2.2.2.2.e)
def cU.m (m:cU):aQ:=m.2.2.2.2.2.2.2
def iT:cU:=(0,0,0,0,0,0,false,bp)
def lq (m:cU):List UInt8×Int:=jH m.f (bh m.m.t).1 (bh m.m.t).2
def jX (kb:List UInt8)(m:cU):List UInt8×Int:=uM kb m.f (bh m.m.t).1 (bh m.m.t).2
def eQ (bs:List UInt8)(a b:Nat):List UInt8:=(bs.drop a).take (b - a)
def iH (bs:List UInt8):cU:=
 (((bs.getD 0 0).toNat:Int),(gC (eQ bs 1 9)).1,(gC (eQ bs 9 17)).1,((bs.getD 17 0).toNat:Int),(gC (eQ bs 18 26)).1,(gj (eQ bs 26 34):Int),(bs.getD 34 0).toNat==1,
  if(bs.getD 17 0).toNat=1 then(fw false (bs.drop 35)).1 else bp)
def jk (bs:List UInt8):List UInt8:=bs.take (bs.length - 8)
def wH (bs:List UInt8):List UInt8:=bs.drop (bs.length - 8)
def pA (kb bs:List UInt8):cU×Int:=
 if bs.length<8 then(iT,2) else if wH bs≠gk (mO kb (jk bs)) then(iT,12) else if(jk bs).length<35 then(iT,2)
 else if(lq (iH (jk bs))).2≠0\/(lq (iH (jk bs))).1≠jk bs then(iT,2) else(iH (jk bs),0)
theorem Ga {n:Int}(h:iG n=true):0<=n/\n<=2147483647:=by
 unfold iG at h;simp only[Bool.and_eq_true,decide_eq_true_eq] at h;exact h
theorem Gb {f:kC}{tr:Int}(h:lp f tr=0):(f.1=0\/f.1=1)/\(0<=f.2.1/\f.2.1<=2147483647)/\(0<=f.2.2.1/\f.2.2.1<=2147483647)/\(0<=f.2.2.2.2.1/\f.2.2.2.2.1<=2147483647)/\(1<=f.2.2.2.1/\f.2.2.2.1<=4) /\
  (f.2.2.2.1=1->mB (fy f) tr=0)/\(f.2.2.2.1≠1->rp (fy f)=true):=by
 unfold lp at h
 by_cases h1:oz f=false
 ·rw[if_pos h1] at h;cases h
 rw[if_neg h1] at h
 by_cases h2:sO f=false
 ·rw[if_pos h2] at h;cases h
 rw[if_neg h2] at h;have h1:oz f=true:=by simpa using h1
 have h2:sO f=true:=by simpa using h2
 unfold oz at h1;simp only[Bool.and_eq_true,Bool.or_eq_true,beq_iff_eq] at h1;obtain⟨a,b,c,d⟩:=h1;unfold sO at h2;rw[Bool.and_eq_true,Bool.and_eq_true,decide_eq_true_eq,decide_eq_true_eq] at h2;refine⟨a,Ga b,Ga c,Ga d,⟨h2.1,h2.2.1⟩,fun k=>?_,fun k=>?_⟩
 ·rw[if_pos k] at h;exact h
 ·rw[if_neg k] at h
  by_cases hn:rp (fy f)=false
  ·rw[if_pos hn] at h;cases h
  ·simpa using hn
theorem Vn {m:aQ}(h:rp m.e=true):m=bp:=by
 unfold rp at h;simp only[Bool.and_eq_true,beq_iff_eq] at h;obtain⟨ht,h1,h2,h3,h4,h5,h6,h7⟩:=h;obtain⟨a1,a2,a3,a4,a5,a6,a7,a8⟩:=m;simp only[aQ.e] at ht h1 h2 h3 h4 h5 h6 h7;rw[sF,decide_eq_true_eq] at h2 h3 h4 h5;obtain rfl:=wj ht;subst h1 h2 h3 h4 h5 h6 h7;rfl
theorem Mt {m:cU}{bs:List UInt8}(h:lq m=(bs,0)):lp m.f (bh m.m.t).2=0/\bs=qp m.f++(if m.2.2.2.1=1 then(da m.m).1 else[])/\(m.2.2.2.1=1->(da m.m).2=0):=by
 unfold lq jH at h
 by_cases h0:lp m.f (bh m.m.t).2≠0
 ·rw[if_pos h0] at h;injection h with _ h;exact(h0 h).elim
 rw[if_neg h0] at h;have h0:lp m.f (bh m.m.t).2=0:=Classical.not_not.1 h0;refine⟨h0,?_,fun k=>?_⟩
 ·by_cases k:m.2.2.2.1=1
  ·rw[if_pos k]
   rw[if_neg (fun t=>t k)] at h;injection h with h _
   exact h.symm
  ·rw[if_neg k]
   rw[if_pos (show m.f.2.2.2.1≠1 from k)] at h;injection h with h _
   rw[<- h,List.append_nil]
 ·have:=(Gb h0).2.2.2.2.2.1 k
  show(iy m.m.e _ _).2=0;unfold iy;rw[if_neg (fun t=>t this)]
theorem BJ (a b c:List UInt8){i j:Nat}(hi:a.length=i)(hj:a.length+b.length=j):eQ (a++(b++c)) i j=b:=by
 subst hi;subst hj;unfold eQ;rw[List.drop_left,show a.length+b.length - a.length=b.length by omega,List.take_left]
theorem Mu (a:List UInt8)(x:UInt8)(c:List UInt8){i:Nat}(hi:a.length=i):(a++(x::c)).getD i 0=x:=by
 subst hi;rw[List.getD_eq_getElem?_getD,List.getElem?_append_right (Nat.le_refl _),Nat.sub_self];rfl
theorem Mv {n:Int}(h0:0<=n)(h1:n<=255):((UInt8.ofNat (n % 256).toNat).toNat:Int)=n:=by rw[nY (by omega)];omega
theorem Vo {m:cU}{bs:List UInt8}(hh:0<=m.2.2.2.2.2.1/\m.2.2.2.2.2.1<18446744073709551616)(h:lq m=(bs,0)):iH bs=m:=by
 obtain⟨hc,hb,hp⟩:=Mt h;obtain⟨c1,c2,c3,c4,c5,c6,c7⟩:=Gb hc;obtain⟨fr,ep,nu,ki,sl,he,fl,ev⟩:=m;simp only[cU.f,cU.m,fy] at hc hb hp c1 c2 c3 c4 c5 c6 c7 hh;obtain⟨T,hT⟩:∃ T,T=(if ki=1 then(da ev).1 else[]):=⟨_,rfl⟩;rw[<- hT] at hb;have F:=UInt8.ofNat (fr % 256).toNat;have e0:bs=[]++(UInt8.ofNat (fr % 256).toNat::(bW ep++(bW nu++(UInt8.ofNat (ki % 256).toNat::(bW sl++(gk he++([if fl=true then 1 else 0]++T))))))):=by
  rw[hb];unfold qp;simp only[List.cons_append,List.append_assoc,List.nil_append]
 have e1:bs=[UInt8.ofNat (fr % 256).toNat]++(bW ep++(bW nu++(UInt8.ofNat (ki % 256).toNat::(bW sl++(gk he++([if fl=true then 1 else 0]++T)))))):=by rw[e0];rfl
 have e9:bs=([UInt8.ofNat (fr % 256).toNat]++bW ep)++(bW nu++(UInt8.ofNat (ki % 256).toNat::(bW sl++(gk he++([if fl=true then 1 else 0]++T))))):=by rw[e1,List.append_assoc]
 have e17:bs=([UInt8.ofNat (fr % 256).toNat]++bW ep++bW nu)++(UInt8.ofNat (ki % 256).toNat::(bW sl++(gk he++([if fl=true then 1 else 0]++T)))):=by rw[e9,List.append_assoc ([UInt8.ofNat (fr % 256).toNat]++bW ep)]
 have e18:bs=([UInt8.ofNat (fr % 256).toNat]++bW ep++bW nu++[UInt8.ofNat (ki % 256).toNat])++(bW sl++(gk he++([if fl=true then 1 else 0]++T))):=by rw[e17,List.append_assoc ([UInt8.ofNat (fr % 256).toNat]++bW ep++bW nu)];rfl
 have e26:bs=([UInt8.ofNat (fr % 256).toNat]++bW ep++bW nu++[UInt8.ofNat (ki % 256).toNat]++bW sl)++(gk he++([if fl=true then 1 else 0]++T)):=by rw[e18,List.append_assoc ([UInt8.ofNat (fr % 256).toNat]++bW ep++bW nu++[UInt8.ofNat (ki % 256).toNat])]
 have e34:bs=([UInt8.ofNat (fr % 256).toNat]++bW ep++bW nu++[UInt8.ofNat (ki % 256).toNat]++bW sl++gk he)++((if fl=true then 1 else 0)::T):=by rw[e26,List.append_assoc ([UInt8.ofNat (fr % 256).toNat]++bW ep++bW nu++[UInt8.ofNat (ki % 256).toNat]++bW sl)];rfl
 have e35:bs.drop 35=T:=by
  rw[e34,show([UInt8.ofNat (fr % 256).toNat]++bW ep++bW nu++[UInt8.ofNat (ki % 256).toNat]++bW sl++gk he++((if fl=true then 1 else 0)::T))=([UInt8.ofNat (fr % 256).toNat]++bW ep++bW nu++[UInt8.ofNat (ki % 256).toNat]++bW sl++gk he++[if fl=true then 1 else 0])++T by rw[List.append_assoc _ [_] T];rfl];exact List.drop_left' (by simp only[List.length_append,gU,pq,List.length_singleton])
 have g0:bs.getD 0 0=UInt8.ofNat (fr % 256).toNat:=by rw[e0];rfl
 have g17:bs.getD 17 0=UInt8.ofNat (ki % 256).toNat:=by rw[e17];exact Mu _ _ _ (by simp only[List.length_append,gU,List.length_singleton])
 have ue:bs.getD 34 0=(if fl=true then 1 else 0):=by rw[e34];exact Mu _ _ _ (by simp only[List.length_append,gU,pq,List.length_singleton])
 have p1:eQ bs 1 9=bW ep:=by rw[e1];exact BJ _ _ _ rfl (by rw[gU];rfl)
 have p9:eQ bs 9 17=bW nu:=by rw[e9];exact BJ _ _ _ (by simp only[List.length_append,gU,List.length_singleton]) (by simp only[List.length_append,gU,List.length_singleton])
 have Vp:eQ bs 18 26=bW sl:=by rw[e18];exact BJ _ _ _ (by simp only[List.length_append,gU,List.length_singleton]) (by simp only[List.length_append,gU,List.length_singleton])
 have Vq:eQ bs 26 34=gk he:=by rw[e26];exact BJ _ _ _ (by simp only[List.length_append,gU,List.length_singleton]) (by simp only[List.length_append,gU,pq,List.length_singleton])
 have kb:((UInt8.ofNat (ki % 256).toNat).toNat:Int)=ki:=Mv (by omega) (by omega);have wG:(if(UInt8.ofNat (ki % 256).toNat).toNat=1 then(fw false T).1 else bp)=ev:=by
  by_cases k:ki=1
  ·rw[if_pos (by omega),hT,if_pos k]
   have hp:=hp k;rw[Lm false (m:=ev) (Prod.ext rfl hp)]
  ·rw[if_neg (by omega)]
   exact(Vn (c7 k)).symm
 have je:(((if fl=true then 1 else 0:UInt8)).toNat==1)=fl:=by cases fl<;>rfl
 unfold iH;rw[g0,g17,ue,p1,p9,Vp,Vq,e35,wG,je,kb,Mv (by rcases c1 with h | h<;>omega) (by rcases c1 with h | h<;>omega),AD ep (by omega) (by omega),AD nu (by omega) (by omega),AD sl (by omega) (by omega),TG he hh.1 hh.2]
theorem Vr {m:cU}{bs:List UInt8}(h:lq m=(bs,0)):35<=bs.length:=by
 rw[(Mt h).2.1,List.length_append,yY];omega
theorem Vs {kb:List UInt8}{m:cU}{bs:List UInt8}(hh:0<=m.2.2.2.2.2.1/\m.2.2.2.2.2.1<18446744073709551616)(h:lq m=(bs,0)):pA kb (bs++gk (mO kb bs))=(m,0):=by
 have hl:(bs++gk (mO kb bs)).length=bs.length+8:=by rw[List.length_append,pq]
 have ht:jk (bs++gk (mO kb bs))=bs:=by unfold jk;rw[hl,Nat.add_sub_cancel,List.take_left]
 have hs:wH (bs++gk (mO kb bs))=gk (mO kb bs):=by unfold wH;rw[hl,Nat.add_sub_cancel,List.drop_left]
 have h35:=Vr h;unfold pA;rw[if_neg (by omega),ht,hs,if_neg (fun t=>t rfl),if_neg (by omega),Vo hh h,h,if_neg (by simp)]
def C252 (p0:Value)(w:World)(K:Value->World->Prop):Prop:=
 aj p0 222 (.agg [.int .i64]) (fun(x1:Int×Unit)=>K (.int .i64 1) w)
 (aj p0 300 (.agg [.str]) (fun(x2:ByteArray×Unit)=>K (.int .i64 2) w)
 (aj p0 302 (.agg [.raw,.raw]) (fun(x3:Value×Value×Unit)=>K (.int .i64 3) w)
 (aj p0 304 (.agg [.raw]) (fun(x4:Value×Unit)=>K (.int .i64 4) w)
 (aj p0 305 (.agg [.raw,.raw]) (fun(x5:Value×Value×Unit)=>K (.int .i64 5) w)
 (aj p0 306 (.agg [.raw,.raw]) (fun(x6:Value×Value×Unit)=>K (.int .i64 6) w)
 (K (.int .i64 0) w))))))
def pl252:aB:=.auto
theorem c252 (p0:Value)(w:World)(K:Value->World->Prop)(h:C252 p0 w K):Ret Tryz.prog 252 #[p0] w K:=aC (by kernel_rfl) Tryz.func252 (p:=pl252) (Eq.mpr (by kernel_rfl) h)
def C227 (p0:Value)(p1:Value)(w:World)(K:Value->World->Prop):Prop:=
 ab Tryz.prog 252 #[p0] w (.v (.one (.int .i64))) (fun(x1:Int) w2=>aa (x1==0)
 (K (.bool false) w2)
 (ab Tryz.prog 252 #[p0] w2 (.v (.one (.int .i64))) (fun(x3:Int) w4=>ab Tryz.prog 252 #[p1] w4 (.v (.one (.int .i64))) (fun(x5:Int) w6=>aa (x3 != x5)
 (K (.bool false) w6)
 (aj p0 222 (.agg [.int .i64]) (fun(x7:Int×Unit)=>aq (.cells #[.int .i64 0] 222) w6 (fun g8 w9=>av (ad g8) [.int .i64 x7.1] w9 (fun aK=>aH aK (fun aR=>az [.int .i64] (ad g8) aR (fun(bw:Int×Unit)=>aj p1 222 (.agg [.int .i64]) (fun(bC:Int×Unit)=>aw Tryz.prog (do eqGuard .eql 222 (.tmp 25) (.tmp 27) (.agg #[.int .i64 bw.1]) (.agg #[.int .i64 bC.1]);binOp .eql 222 (.agg #[.int .i64 bw.1]) (.agg #[.int .i64 bC.1])) aR (.v (.one .bool)) (fun(bn:Bool) bL=>K (.bool bn) bL)) False)))))
 (aq (.cells #[.int .i64 0] 222) w6 (fun g16 cD=>av (ad g16) [.int .i64 0] cD (fun bx=>aj p0 300 (.agg [.str]) (fun(bt:ByteArray×Unit)=>aq (.cells #[.string (⟨#[]⟩:ByteArray)] 300) bx (fun g20 bq=>av (ad g20) [.string bt.1] bq (fun bA=>aH bA (fun dW=>az [.str] (ad g20) dW (fun(cN:ByteArray×Unit)=>aj p1 300 (.agg [.str]) (fun(bG:ByteArray×Unit)=>aw Tryz.prog (do eqGuard .eql 300 (.tmp 35) (.tmp 37) (.agg #[.string cN.1]) (.agg #[.string bG.1]);binOp .eql 300 (.agg #[.string cN.1]) (.agg #[.string bG.1])) dW (.v (.one .bool)) (fun(dk:Bool) eM=>K (.bool dk) eM)) False)))))
 (aq (.cells #[.string (⟨#[]⟩:ByteArray)] 300) bx (fun Gc eg=>av (ad Gc) [.string (⟨#[]⟩:ByteArray)] eg (fun cn=>ab Tryz.prog 254 #[p0] cn (.v (.one .ah)) (fun(bX:ao) cZ=>ab Tryz.prog 254 #[p1] cZ (.v (.one .ah)) (fun(dH:ao) fT=>ab Tryz.prog 253 #[.slice bX.1 bX.2.1 bX.2.2,.slice dH.1 dH.2.1 dH.2.2,.func (.func 227) #[] #[]] fT (.v (.one .bool)) (fun(de:Bool) cW=>K (.bool de) cW))))))))))))))
def pl227:aB:=(.seq .auto (.seq .auto (.seq (.seq .auto (.seq .auto (.cond (.seq (.tail 3) .auto) .auto))) (.seq (.seq .auto (.seq .auto (.cond (.seq (.tail 3) .auto) .auto))) .auto))))
theorem c227 (p0:Value)(p1:Value)(w:World)(K:Value->World->Prop)(h:C227 p0 p1 w K):Ret Tryz.prog 227 #[p0,p1] w K:=aC (by kernel_rfl) Tryz.func227 (p:=pl227) (Eq.mpr (by kernel_rfl) h)
def C191 (p0:Value)(p1:Value)(w:World)(K:Value->World->Prop):Prop:=
 ab Tryz.prog 224 #[p0] w (.v (.one (.int .i64))) (fun(x1:Int) w2=>aa (x1==0)
 (K (.bool false) w2)
 (ab Tryz.prog 224 #[p0] w2 (.v (.one (.int .i64))) (fun(x3:Int) w4=>ab Tryz.prog 224 #[p1] w4 (.v (.one (.int .i64))) (fun(x5:Int) w6=>aa (x3 != x5)
 (K (.bool false) w6)
 (ab Tryz.prog 225 #[p0] w6 (.aP [.one .str,.one (.int .i64)]) (fun(x7:ByteArray×Int×Unit) w8=>ab Tryz.prog 225 #[p1] w8 (.aP [.one .str,.one (.int .i64)]) (fun(x9:ByteArray×Int×Unit) aK=>aa (!(x7.1.toList==x9.1.toList))
 (K (.bool false) aK)
 (aa (x7.2.1 != x9.2.1)
 (K (.bool false) aK)
 (ab Tryz.prog 226 #[p0] aK (.aP [.one .raw,.one .bool]) (fun(aZ:Value×Bool×Unit) aO=>aa aZ.2.1
 (ab Tryz.prog 226 #[p1] aO (.aP [.one .raw,.one .bool]) (fun(bC:Value×Bool×Unit) bu=>ab Tryz.prog 227 #[aZ.1,bC.1] bu (.v (.one .bool)) (fun(bm:Bool) br=>aa (!bm)
 (K (.bool false) br)
 (ab Tryz.prog 229 #[p0] br (.v (.one .ah)) (fun(aX:ao) bx=>ab Tryz.prog 229 #[p1] bx (.v (.one .ah)) (fun(bt:ao) bz=>ab Tryz.prog 228 #[.slice aX.1 aX.2.1 aX.2.2,.slice bt.1 bt.2.1 bt.2.2,.func (.func 191) #[] #[]] bz (.v (.one .bool)) (fun(b9:Bool) bA=>K (.bool b9) bA)))))))
 (ab Tryz.prog 229 #[p0] aO (.v (.one .ah)) (fun(cc:ao) bU=>ab Tryz.prog 229 #[p1] bU (.v (.one .ah)) (fun(bG:ao) bZ=>ab Tryz.prog 228 #[.slice cc.1 cc.2.1 cc.2.2,.slice bG.1 bG.2.1 bG.2.2,.func (.func 191) #[] #[]] bZ (.v (.one .bool)) (fun(cE:Bool) bV=>K (.bool cE) bV))))))))))))))
def pl191:aB:=.auto
theorem c191 (p0:Value)(p1:Value)(w:World)(K:Value->World->Prop)(h:C191 p0 p1 w K):Ret Tryz.prog 191 #[p0,p1] w K:=aC (by kernel_rfl) Tryz.func191 (p:=pl191) (Eq.mpr (by kernel_rfl) h)
def C253 (p0:Option Addr)(aI aN:Nat)(p1:Option Addr)(ct cO:Nat)(p2:Value)(w:World)(K:Value->World->Prop):Prop:=
 aa ((aI:Int) != (ct:Int))
 (K (.bool false) w)
 (bj (Int×Unit) (fun _ s1 w2 gr=>aa (decide (s1.1<(aI:Int)))
 (bK p0 aI s1.1 1 (fun a4=>ae .raw a4 w2 (fun(x5:Value)=>bK p1 ct s1.1 1 (fun a6=>ae .raw a6 w2 (fun(x7:Value)=>j9 Tryz.prog p2 [x5,x7] (.v (.one .bool)) w2 (fun(x8:Bool) w9=>aa (!x8)
 (K (.bool false) w9)
 (gr (IntKind.i64.wrap (s1.1+1),()) w9)))))))
 (K (.bool true) w2))
 (0,()) w)
def pl253:aB:=(.seq .auto (.seq .auto (.seq (.seq .auto (.block (.loop [(17,.one (.int .i64))] .auto))) .auto)))
theorem c253 (p0:Option Addr)(aI aN:Nat)(p1:Option Addr)(ct cO:Nat)(p2:Value)(w:World)(K:Value->World->Prop)(h:C253 p0 aI aN p1 ct cO p2 w K):Ret Tryz.prog 253 #[.slice p0 aI aN,.slice p1 ct cO,p2] w K:=aC (by kernel_rfl) Tryz.func253 (p:=pl253) (Eq.mpr (by kernel_rfl) h)
def C228 (p0:Option Addr)(aI aN:Nat)(p1:Option Addr)(ct cO:Nat)(p2:Value)(w:World)(K:Value->World->Prop):Prop:=
 aa ((aI:Int) != (ct:Int))
 (K (.bool false) w)
 (bj (Int×Unit) (fun _ s1 w2 gr=>aa (decide (s1.1<(aI:Int)))
 (bK p0 aI s1.1 1 (fun a4=>ae .raw a4 w2 (fun(x5:Value)=>bK p1 ct s1.1 1 (fun a6=>ae .raw a6 w2 (fun(x7:Value)=>j9 Tryz.prog p2 [x5,x7] (.v (.one .bool)) w2 (fun(x8:Bool) w9=>aa (!x8)
 (K (.bool false) w9)
 (gr (IntKind.i64.wrap (s1.1+1),()) w9)))))))
 (K (.bool true) w2))
 (0,()) w)
def pl228:aB:=(.seq .auto (.seq .auto (.seq (.seq .auto (.block (.loop [(17,.one (.int .i64))] .auto))) .auto)))
theorem c228 (p0:Option Addr)(aI aN:Nat)(p1:Option Addr)(ct cO:Nat)(p2:Value)(w:World)(K:Value->World->Prop)(h:C228 p0 aI aN p1 ct cO p2 w K):Ret Tryz.prog 228 #[.slice p0 aI aN,.slice p1 ct cO,p2] w K:=aC (by kernel_rfl) Tryz.func228 (p:=pl228) (Eq.mpr (by kernel_rfl) h)
def oA:Ob->Int
 | .none=>0
 | .const _=>1
 | .fix _=>2
 | .add _ _=>3
 | .neg _=>4
 | .mul _ _=>5
 | .max _ _=>6
def iU:Ob->Ob->Bool
 | .const n,.const m=>n==m
 | .fix s,.fix t=>s==t
 | .add a b,.add c d=>iU a c&&iU b d
 | .neg a,.neg c=>iU a c
 | .mul a b,.mul c d=>iU a c&&iU b d
 | .max a b,.max c d=>iU a c&&iU b d
 | _,_=>false
def ik:Tm->Tm->Bool
 | .zero,.zero=>true
 | .one s,.one t=>s==t
 | .gh a,.gh c=>ik a c
 | .and a b,.and c d=>ik a c&&ik b d
 | .or s a b,.or t c d=>s==t&&(ik a c&&ik b d)
 | .scale o a,.scale p c=>iU o p&&ik a c
 | .when n a,.when m c=>n==m&&ik a c
 | .cond o a b,.cond p c d=>iU o p&&(ik a c&&ik b d)
 | _,_=>false
theorem Vt (o:Ob)(h:cL o=true):iU o o=true:=by
 induction o<;>simp_all [iU,cL]
theorem Vu (t:Tm)(h:cx t=true):ik t t=true:=by
 induction t<;>simp_all [ik,cx,Vt]
theorem Vv (i j:Int)(o1 o2:Operand)(w:World):
  (do eqGuard .eql 222 o1 o2 (.agg #[.int .i64 i]) (.agg #[.int .i64 j]);binOp .eql 222 (.agg #[.int .i64 i]) (.agg #[.int .i64 j]):Sem Value).run Tryz.prog w=.ok (.bool (i==j)) w:=by
 have hf:∃ fs,Tryz.prog.underlying 222=some (.struct fs)/\Tryz.prog.fieldsOf 222=fs:=by
  unfold Program.fieldsOf;rw[Tryz.underlying222];exact⟨_,rfl,rfl⟩
 have hu:Tryz.prog.underlying 222=some (.struct (Tryz.prog.fieldsOf 222)):=by
  obtain⟨fs,h1,h2⟩:=hf;rw[h1,h2]
 rw[Sem.run_bind,run_eqGuard_agg w _ _ _ _ _ _ (show Tryz.prog.eqGuardType Tryz.prog.depth 222=false by kernel_rfl),Result.andThen_ok,run_eql_struct,run_equalIn_agg w _ _ _ _ hu (by kernel_rfl)];have hF : (Tryz.prog.fieldsOf 222).toList = [{ name := "N", type := 3, offset := 0, embedded := false, tag := "", pkgPath := "", byteOffset := 0 }] := by
  unfold Program.fieldsOf;rw[Tryz.underlying222]
 have p0:∀ (v:Value),(part 3 #[v] 0).run Tryz.prog w=.ok v w:=fun v=>by simp[part,isAgg,under Tryz.underlying3]
 rw[hF];have q1:(Op.equalIn 9999 3 (.int .i64 i) (.int .i64 j)).run Tryz.prog w=.ok (i==j) w:=run_equalIn_int w 9998 _ _ _ _ _ Tryz.underlying3;simp only[Op.eqFields, ne_eq, if_pos (show ¬ ("N" = "_") by decide), Sem.run_bind, p0, Result.andThen_ok, q1]
 by_cases kJ:i=j
 ·subst kJ;simp
 ·simp[kJ]
theorem fix_eq (x y:ByteArray)(o1 o2:Operand)(w:World):
  (do eqGuard .eql 300 o1 o2 (.agg #[.string x]) (.agg #[.string y]);binOp .eql 300 (.agg #[.string x]) (.agg #[.string y]):Sem Value).run Tryz.prog w=.ok (.bool (x.toList==y.toList)) w:=by
 have hf:∃ fs,Tryz.prog.underlying 300=some (.struct fs)/\Tryz.prog.fieldsOf 300=fs:=by
  unfold Program.fieldsOf;rw[Tryz.underlying300];exact⟨_,rfl,rfl⟩
 have hu:Tryz.prog.underlying 300=some (.struct (Tryz.prog.fieldsOf 300)):=by
  obtain⟨fs,h1,h2⟩:=hf;rw[h1,h2]
 rw[Sem.run_bind,run_eqGuard_agg w _ _ _ _ _ _ (show Tryz.prog.eqGuardType Tryz.prog.depth 300=false by kernel_rfl),Result.andThen_ok,run_eql_struct,run_equalIn_agg w _ _ _ _ hu (by kernel_rfl)];have hF : (Tryz.prog.fieldsOf 300).toList = [{ name := "Name", type := 9, offset := 0, embedded := false, tag := "", pkgPath := "", byteOffset := 0 }] := by
  unfold Program.fieldsOf;rw[Tryz.underlying300]
 have p0:∀ (v:Value),(part 9 #[v] 0).run Tryz.prog w=.ok v w:=fun v=>by simp[part,isAgg,under Tryz.underlying9]
 rw[hF];have q1:(Op.equalIn 9999 9 (.string x) (.string y)).run Tryz.prog w=.ok (x.toList==y.toList) w:=run_equalIn_string w 9998 _ _ _ Tryz.underlying9;simp only[Op.eqFields, ne_eq, if_pos (show ¬ ("Name" = "_") by decide), Sem.run_bind, p0, Result.andThen_ok, q1]
 cases x.toList==y.toList<;>simp
theorem Gd (o:Ob)(w:World):Ret Tryz.prog 252 #[o.v] w fun r w'=>r=.int .i64 (oA o)/\w=w':=by
 refine c252 o.v w _ ?_;cases o with
 | none=>exact aj.nil rfl (aj.nil rfl (aj.nil rfl (aj.nil rfl (aj.nil rfl (aj.nil rfl ⟨rfl,rfl⟩)))))
 | const n=>exact aj.hit (n,()) rfl ⟨rfl,rfl⟩
 | fix s=>exact aj.aL rfl (by decide) (aj.hit (str s,()) rfl ⟨rfl,rfl⟩)
 | add l r=>exact aj.aL rfl (by decide) (aj.aL rfl (by decide) (aj.hit (l.v,r.v,()) rfl ⟨rfl,rfl⟩))
 | neg x=>exact aj.aL rfl (by decide) (aj.aL rfl (by decide) (aj.aL rfl (by decide) (aj.hit (x.v,()) rfl ⟨rfl,rfl⟩)))
 | mul l r=>exact aj.aL rfl (by decide) (aj.aL rfl (by decide) (aj.aL rfl (by decide) (aj.aL rfl (by decide) (aj.hit (l.v,r.v,()) rfl ⟨rfl,rfl⟩))))
 | max l r=>exact aj.aL rfl (by decide) (aj.aL rfl (by decide) (aj.aL rfl (by decide) (aj.aL rfl (by decide) (aj.aL rfl (by decide) (aj.hit (l.v,r.v,()) rfl ⟨rfl,rfl⟩)))))
def kD {α β:Type}(f:α->β->Bool):List α->List β->Bool
 | [],[]=>true
 | a::l,b::m=>f a b&&kD f l m
 | _,_=>false
theorem Ge {α β:Type}(f:α->β->Bool):∀ (l:List α) (m:List β),l.length≠m.length->kD f l m=false
 | [],[],h=>absurd rfl h
 | [],_::_,_=>rfl
 | _::_,[],_=>rfl
 | a::l,b::m,h=>by unfold kD;rw[Ge f l m (by simpa using h),Bool.and_false]
theorem Gf {α β:Type}(f:α->β->Bool):∀ (l:List α) (m:List β) (i:Nat) (a:α) (b:β),l[i]? = some a->m[i]? = some b->kD f (l.take (i+1)) (m.take (i+1))=(kD f (l.take i) (m.take i)&&f a b)
 | [],_,i,a,b,h,_=>by simp at h
 | x::l,[],i,a,b,_,h=>by simp at h
 | x::l,y::m,0,a,b,h,k=>by simp at h k;subst h k;simp[kD]
 | x::l,y::m,i+1,a,b,h,k=>by
  have:=Gf f l m i a b (by simpa using h) (by simpa using k);simp only[List.take_succ_cons,kD];rw[this,Bool.and_assoc]
theorem Gg {α β:Type}(f:α->β->Bool):∀ (l:List α) (m:List β) (i:Nat) (a:α) (b:β),l[i]? = some a->m[i]? = some b->f a b=false->kD f l m=false
 | [],_,i,a,b,h,_,_=>by simp at h
 | x::l,[],i,a,b,_,h,_=>by simp at h
 | x::l,y::m,0,a,b,h,k,e=>by simp at h k;subst h k;simp[kD,e]
 | x::l,y::m,i+1,a,b,h,k,e=>by
  have:=Gg f l m i a b (by simpa using h) (by simpa using k) e;simp[kD,this]
theorem Vw {w:World}{u v:Sl}{l m:List Ob}(hu:kZ w u l)(hv:kZ w v m)(hl:l.length<=2){cb:Value}(f:Ob->Ob->Bool)
  (AS:∀ a∈l,∀ b∈m,∀ w K,(∀ w',Fr none1 w w'->K (f a b) w')->j9 Tryz.prog cb [a.v,b.v] (.v (.one .bool)) w K) :
  Ret Tryz.prog 253 #[.slice u.1 u.2.1 u.2.2,.slice v.1 v.2.1 v.2.2,cb] w fun r w'=>r=.bool (kD f l m)/\Fr none1 w w':=by
 refine c253 _ _ _ _ _ _ cb w _ ?_;have cS:=hu.len;have cC:=hv.len;refine aa.ne (fun h=>?_) (fun h=>?_)
 ·rw[Ge f l m (by omega)];exact⟨rfl,Fr.refl _ _⟩
 refine bj.of (fun s w'=>∃ i:Nat,s.1=i/\i<=l.length/\kD f (l.take i) (m.take i)=true/\Fr none1 w w') (fun s _=>(2 - s.1).toNat) ⟨0,rfl,Nat.zero_le _,rfl,Fr.refl _ _⟩ ?_;rintro _ ⟨i',_⟩ w2 ⟨i,hi,iz,hall,f2⟩;dsimp only at hi ⊢;subst hi;refine aa.dec (fun aU=>?_) (fun dh=>?_)
 ·have eJ:i<l.length:=by omega
  have Gh:i<m.length:=by omega
  obtain⟨a,ha⟩:∃ a,l[i]? = some a:=⟨_,List.getElem?_eq_getElem eJ⟩;obtain⟨b,hb⟩:∃ b,m[i]? = some b:=⟨_,List.getElem?_eq_getElem Gh⟩;refine(hu.af f2).ld ha ?_;refine(hv.af f2).ld hb ?_;refine AS a (List.mem_of_getElem? ha) b (List.mem_of_getElem? hb) _ _ fun w3 f3=>?_;refine aa.not (aa.by (fun e=>?_) (fun e=>?_))
  ·exact⟨⟨i+1,by rw[wI (by omega) (by omega)];omega,by omega,by rw[Gf f l m i a b ha hb,hall,e];rfl,f2.trans f3⟩,by rw[wI (by omega) (by omega)];omega⟩
  ·rw[Gg f l m i a b ha hb e];exact⟨rfl,f2.trans f3⟩
 ·have:i=l.length:=by omega
  subst this;rw[List.take_length,List.take_of_length_le (by omega)] at hall;rw[hall];exact⟨rfl,f2⟩
theorem Vx {w:World}{u v:Sl}{l m:List Tm}(hu:mD w u l)(hv:mD w v m)(hl:l.length<=2){cb:Value}(f:Tm->Tm->Bool)
  (AS:∀ a∈l,∀ b∈m,∀ w K,(∀ w',Fr none1 w w'->K (f a b) w')->j9 Tryz.prog cb [a.v,b.v] (.v (.one .bool)) w K) :
  Ret Tryz.prog 228 #[.slice u.1 u.2.1 u.2.2,.slice v.1 v.2.1 v.2.2,cb] w fun r w'=>r=.bool (kD f l m)/\Fr none1 w w':=by
 refine c228 _ _ _ _ _ _ cb w _ ?_;have cS:=hu.len;have cC:=hv.len;refine aa.ne (fun h=>?_) (fun h=>?_)
 ·rw[Ge f l m (by omega)];exact⟨rfl,Fr.refl _ _⟩
 refine bj.of (fun s w'=>∃ i:Nat,s.1=i/\i<=l.length/\kD f (l.take i) (m.take i)=true/\Fr none1 w w') (fun s _=>(2 - s.1).toNat) ⟨0,rfl,Nat.zero_le _,rfl,Fr.refl _ _⟩ ?_;rintro _ ⟨i',_⟩ w2 ⟨i,hi,iz,hall,f2⟩;dsimp only at hi ⊢;subst hi;refine aa.dec (fun aU=>?_) (fun dh=>?_)
 ·have eJ:i<l.length:=by omega
  have Gh:i<m.length:=by omega
  obtain⟨a,ha⟩:∃ a,l[i]? = some a:=⟨_,List.getElem?_eq_getElem eJ⟩;obtain⟨b,hb⟩:∃ b,m[i]? = some b:=⟨_,List.getElem?_eq_getElem Gh⟩;refine(hu.af f2).ld ha ?_;refine(hv.af f2).ld hb ?_;refine AS a (List.mem_of_getElem? ha) b (List.mem_of_getElem? hb) _ _ fun w3 f3=>?_;refine aa.not (aa.by (fun e=>?_) (fun e=>?_))
  ·exact⟨⟨i+1,by rw[wI (by omega) (by omega)];omega,by omega,by rw[Gf f l m i a b ha hb,hall,e];rfl,f2.trans f3⟩,by rw[wI (by omega) (by omega)];omega⟩
  ·rw[Gg f l m i a b ha hb e];exact⟨rfl,f2.trans f3⟩
 ·have:i=l.length:=by omega
  subst this;rw[List.take_length,List.take_of_length_le (by omega)] at hall;rw[hall];exact⟨rfl,f2⟩
theorem Vy (o:Ob):oA o=0↔o=.none:=by cases o<;>simp[oA]
theorem Vz {a b:Ob}(h:oA a≠oA b):iU a b=false:=by cases a<;>cases b<;>simp_all [iU,oA]
theorem VA {a b:Ob}(h0:oA a≠0)(h:oA a=oA b)(hl:(oe a).1=false):iU a b=kD iU (cJ a) (cJ b):=by
 cases a<;>cases b<;>simp_all [iU,oA,oe,cJ,kD]
theorem Mw (a b:Ob)(w:World):Ret Tryz.prog 227 #[a.v,b.v] w fun r w'=>r=.bool (iU a b)/\Fr none1 w w':=by
 have ih:∀ k∈cJ a,∀ b w,Ret Tryz.prog 227 #[k.v,b.v] w fun r w'=>r=.bool (iU k b)/\Fr none1 w w':=fun k U b w=>Mw k b w;refine c227 a.v b.v w _ ?_;refine ab.of (Gd a w) ?_;rintro _ _ ⟨rfl,rfl⟩;refine⟨_,rfl,aa.eq (fun h=>?_) (fun h=>?_)⟩
 ·have:=(Vy a).1 h
  subst this;exact⟨by cases b<;>rfl,Fr.refl _ _⟩
 refine ab.of (Gd a w) ?_;rintro _ _ ⟨rfl,rfl⟩;refine⟨_,rfl,?_⟩;refine ab.of (Gd b w) ?_;rintro _ _ ⟨rfl,rfl⟩;refine⟨_,rfl,aa.ne (fun U=>?_) (fun U=>?_)⟩
 ·rw[Vz U];exact⟨rfl,Fr.refl _ _⟩
 have deep:(oe a).1=false->∀ w2,Fr none1 w w2 ->
   ab Tryz.prog 254 #[a.v] w2 (.v (.one .ah)) (fun(bX:Option Addr×Nat×Nat) cZ=>ab Tryz.prog 254 #[b.v] cZ (.v (.one .ah)) (fun(dH:Option Addr×Nat×Nat) fT=>
   ab Tryz.prog 253 #[.slice bX.1 bX.2.1 bX.2.2,.slice dH.1 dH.2.1 dH.2.2,.func (.func 227) #[] #[]] fT (.v (.one .bool)) (fun(de:Bool) cW=>(Value.bool de)=.bool (iU a b)/\Fr none1 w cW))):=fun hl w2 f2=>by
  refine ab.of (vM a w2) ?_;rintro _ w3 ⟨u,rfl,hu,f3⟩;refine⟨u,rfl,?_⟩;refine ab.of (vM b w3) ?_;rintro _ w4 ⟨v,rfl,hv,f4⟩;refine⟨v,rfl,?_⟩;refine ab.of (Vw (hu.af f4) hv (AO a) iU fun x hx y hy w K hK=>?_) ?_
  ·refine lC (by kernel_rfl) Tryz.func227 (by kernel_rfl) ((ih x hx y w).mono ?_)
   rintro _ w' ⟨rfl,f⟩;exact⟨_,rfl,hK w' f⟩
  ·rintro _ w5 ⟨rfl,f5⟩
   exact⟨_,rfl,by rw[VA h U hl],((f2.trans f3).trans f4).trans f5⟩
 cases a with
 | none=>exact absurd rfl h
 | const n=>
  cases b<;>simp only[oA] at U<;>try (exact absurd U (by decide))
  rename_i m;refine aj.hit (n,()) rfl (cB (zs:=[.int .i64 0]) (vs:=[.int .i64 n]) rfl rfl fun g w1 hg hb f1=>?_);refine aH.of fun w2 _ f2=>?_;refine az.aG (cks:=[.int .i64]) (x:=(n,())) (f2.af hb) ?_;refine aj.hit (m,()) rfl ?_;exact⟨_,w2,Vv n m _ _ w2,rfl,f1.trans f2⟩
 | fix s=>
  cases b<;>simp only[oA] at U<;>try (exact absurd U (by decide))
  rename_i t;refine aj.aL rfl (by decide) (lO (zs:=[.int .i64 0]) (vs:=[.int .i64 0]) rfl rfl fun w0 f0=>?_);refine aj.hit (str s,()) rfl (cB (zs:=[.string (⟨#[]⟩:ByteArray)]) (vs:=[.string (str s)]) rfl rfl fun g w1 hg hb f1=>?_);refine aH.of fun w2 _ f2=>?_;refine az.aG (cks:=[.str]) (x:=(str s,())) (f2.af hb) ?_;refine aj.hit (str t,()) rfl ?_;refine⟨_,w2,fix_eq _ _ _ _ w2,?_,(f0.trans f1).trans f2⟩;show Value.bool _=.bool (s==t);dsimp only;rw[iv]
  by_cases e:s=t<;>simp[e]
 | add l r=>exact aj.aL rfl (by decide) (lO (zs:=[.int .i64 0]) (vs:=[.int .i64 0]) rfl rfl fun w1 f1=>aj.aL rfl (by decide) (lO (zs:=[.string (⟨#[]⟩:ByteArray)]) (vs:=[.string (⟨#[]⟩:ByteArray)]) rfl rfl fun w2 f2=>deep rfl w2 (f1.trans f2)))
 | neg x=>exact aj.aL rfl (by decide) (lO (zs:=[.int .i64 0]) (vs:=[.int .i64 0]) rfl rfl fun w1 f1=>aj.aL rfl (by decide) (lO (zs:=[.string (⟨#[]⟩:ByteArray)]) (vs:=[.string (⟨#[]⟩:ByteArray)]) rfl rfl fun w2 f2=>deep rfl w2 (f1.trans f2)))
 | mul l r=>exact aj.aL rfl (by decide) (lO (zs:=[.int .i64 0]) (vs:=[.int .i64 0]) rfl rfl fun w1 f1=>aj.aL rfl (by decide) (lO (zs:=[.string (⟨#[]⟩:ByteArray)]) (vs:=[.string (⟨#[]⟩:ByteArray)]) rfl rfl fun w2 f2=>deep rfl w2 (f1.trans f2)))
 | max l r=>exact aj.aL rfl (by decide) (lO (zs:=[.int .i64 0]) (vs:=[.int .i64 0]) rfl rfl fun w1 f1=>aj.aL rfl (by decide) (lO (zs:=[.string (⟨#[]⟩:ByteArray)]) (vs:=[.string (⟨#[]⟩:ByteArray)]) rfl rfl fun w2 f2=>deep rfl w2 (f1.trans f2)))
termination_by SizeOf.sizeOf a
decreasing_by exact AM U
theorem VB {a b:Tm}(h:iB a≠iB b):ik a b=false:=by cases a<;>cases b<;>simp_all [ik,iB]
theorem VC {a b:Tm}(h0:iB a≠0)(h:iB a=iB b):ik a b=(decide (gO a=gO b)&&((!(eZ a).2||iU (eZ a).1 (eZ b).1)&&kD ik (cR a) (cR b))):=by
 cases a<;>cases b<;>simp_all [ik,iB,gO,eZ,cR,kD]<;>(try (rw[Bool.eq_iff_iff];simp))
theorem Mx (a b:Tm)(w:World):Ret Tryz.prog 191 #[a.v,b.v] w fun r w'=>r=.bool (ik a b)/\Fr none1 w w':=by
 have ih:∀ k∈cR a,∀ b w,Ret Tryz.prog 191 #[k.v,b.v] w fun r w'=>r=.bool (ik k b)/\Fr none1 w w':=fun k U b w=>Mx k b w;refine c191 a.v b.v w _ ?_;refine ab.of (qT a w) ?_;rintro _ _ ⟨rfl,rfl⟩;refine⟨_,rfl,aa.eq (fun h=>?_) (fun h=>?_)⟩
 ·have:=(Ef a).1 h
  subst this;exact⟨by cases b<;>rfl,Fr.refl _ _⟩
 refine ab.of (qT a w) ?_;rintro _ _ ⟨rfl,rfl⟩;refine⟨_,rfl,?_⟩;refine ab.of (qT b w) ?_;rintro _ _ ⟨rfl,rfl⟩;refine⟨_,rfl,aa.ne (fun U=>?_) (fun U=>?_)⟩
 ·rw[VB U];exact⟨rfl,Fr.refl _ _⟩
 have hP:=VC h U;refine ab.of (Eh a w) ?_;rintro _ w1 ⟨rfl,f1⟩;refine⟨(str (gO a).1,(gO a).2,()),rfl,?_⟩;refine ab.of (Eh b w1) ?_;rintro _ w2 ⟨rfl,f2⟩;refine⟨(str (gO b).1,(gO b).2,()),rfl,?_⟩;dsimp only;have f12:=f1.trans f2;rw[iv];refine aa.not (aa.dec (fun h1=>?_) (fun h1=>?_))
 case refine_2=>
  rw[hP,decide_eq_false (fun t=>h1 (by rw[t]))];exact⟨rfl,f12⟩
 refine aa.ne (fun h2=>?_) (fun h2=>?_)
 ·rw[hP,decide_eq_false (fun t=>h2 (by rw[t]))];exact⟨rfl,f12⟩
 rw[decide_eq_true (Prod.ext h1 h2),Bool.true_and] at hP;have deep:∀ w2,Fr none1 w w2->(!(eZ a).2||iU (eZ a).1 (eZ b).1)=true ->
   ab Tryz.prog 229 #[a.v] w2 (.v (.one .ah)) (fun(bX:Option Addr×Nat×Nat) cZ=>ab Tryz.prog 229 #[b.v] cZ (.v (.one .ah)) (fun(dH:Option Addr×Nat×Nat) fT=>
   ab Tryz.prog 228 #[.slice bX.1 bX.2.1 bX.2.2,.slice dH.1 dH.2.1 dH.2.2,.func (.func 191) #[] #[]] fT (.v (.one .bool)) (fun(de:Bool) cW=>(Value.bool de)=.bool (ik a b)/\Fr none1 w cW))):=fun w2 f2 hn=>by
  refine ab.of (yc a w2) ?_;rintro _ w3 ⟨u,rfl,hu,f3,_⟩;refine⟨u,rfl,?_⟩;refine ab.of (yc b w3) ?_;rintro _ w4 ⟨v,rfl,hv,f4,_⟩;refine⟨v,rfl,?_⟩;refine ab.of (Vx (hu.af f4) hv (AP a) ik fun x hx y hy w K hK=>?_) ?_
  ·refine lC (by kernel_rfl) Tryz.func191 (by kernel_rfl) ((ih x hx y w).mono ?_)
   rintro _ w' ⟨rfl,f⟩;exact⟨_,rfl,hK w' f⟩
  ·rintro _ w5 ⟨rfl,f5⟩
   exact⟨_,rfl,by rw[hP,hn,Bool.true_and],((f2.trans f3).trans f4).trans f5⟩
 refine ab.of (AV a w2) ?_;rintro _ w3 ⟨rfl,f3⟩;refine⟨(_,_,()),rfl,aa.by (fun e=>?_) (fun e=>?_)⟩
 ·have e:(eZ a).2=true:=e
  refine ab.of (AV b w3) ?_;rintro _ w4 ⟨rfl,f4⟩;refine⟨(_,_,()),rfl,?_⟩;refine ab.of (Mw (eZ a).1 (eZ b).1 w4) ?_;rintro _ w5 ⟨rfl,f5⟩;refine⟨_,rfl,aa.not (aa.by (fun e2=>?_) (fun e2=>?_))⟩
  ·exact deep w5 (((f12.trans f3).trans f4).trans f5) (by rw[e2];simp)
  ·rw[hP,e,e2];exact⟨rfl,((f12.trans f3).trans f4).trans f5⟩
 ·have e:(eZ a).2=false:=e
  exact deep w3 (f12.trans f3) (by rw[e];rfl)
termination_by SizeOf.sizeOf a
decreasing_by exact AN U
def C149 (p0:bH)(p1:bH)(w:World)(K:Value->World->Prop):Prop:=
 aq (.cells ((bS p0).toArray) 36) w (fun g1 w2=>aq (.cells ((bS p1).toArray) 36) w2 (fun g3 w4=>bQ (Bool×Unit) (fun J5=>ae .raw ((ad g1).add 7) w4 (fun(x8:Value)=>aw Tryz.prog (do eqGuard .eql 34 (.tmp 7) (.const .nilIface) x8 .nilIface;binOp .eql 34 x8 .nilIface) w4 (.v (.one .bool)) (fun(x9:Bool) aK=>aa x9
 (ae .raw ((ad g3).add 7) aK (fun(aZ:Value)=>aw Tryz.prog (do eqGuard .eql 34 (.tmp 11) (.const .nilIface) aZ .nilIface;binOp .eql 34 aZ .nilIface) aK (.v (.one .bool)) (fun(bw:Bool) aW=>aa bw
 (J5 (true,()) aW)
 (ae .raw ((ad g1).add 7) aW (fun(bn:Value)=>ae .raw ((ad g3).add 7) aW (fun(bm:Value)=>ab Tryz.prog 191 #[bn,bm] aW (.v (.one .bool)) (fun(aT:Bool) cD=>J5 (aT,()) cD)))))))
 (ae .raw ((ad g1).add 7) aK (fun(bE:Value)=>ae .raw ((ad g3).add 7) aK (fun(bt:Value)=>ab Tryz.prog 191 #[bE,bt] aK (.v (.one .bool)) (fun(cm:Bool) bq=>J5 (cm,()) bq)))))))
 (fun _ s6 w7=>aa s6.1
 (ae (.int .i64) ((ad g1).add 0) w7 (fun(cr:Int)=>ae (.int .i64) ((ad g3).add 0) w7 (fun(cc:Int)=>aa (cr==cc)
 (ae .str ((ad g1).add 1) w7 (fun(cN:ByteArray)=>ae .str ((ad g3).add 1) w7 (fun(bG:ByteArray)=>aa (cN.toList==bG.toList)
 (ae .str ((ad g1).add 2) w7 (fun(dk:ByteArray)=>ae .str ((ad g3).add 2) w7 (fun(cE:ByteArray)=>aa (dk.toList==cE.toList)
 (ae .str ((ad g1).add 3) w7 (fun(eX:ByteArray)=>ae .str ((ad g3).add 3) w7 (fun(cH:ByteArray)=>aa (eX.toList==cH.toList)
 (ae .str ((ad g1).add 4) w7 (fun(dX:ByteArray)=>ae .str ((ad g3).add 4) w7 (fun(bX:ByteArray)=>aa (dX.toList==bX.toList)
 (ae (.int .i64) ((ad g1).add 5) w7 (fun(dS:Int)=>ae (.int .i64) ((ad g3).add 5) w7 (fun(dH:Int)=>aa (dS==dH)
 (ae (.int .i64) ((ad g1).add 6) w7 (fun(ez:Int)=>ae (.int .i64) ((ad g3).add 6) w7 (fun(de:Int)=>K (.bool (ez==de)) w7)))
 (K (.bool false) w7))))
 (K (.bool false) w7))))
 (K (.bool false) w7))))
 (K (.bool false) w7))))
 (K (.bool false) w7))))
 (K (.bool false) w7))))
 (K (.bool false) w7))))
def pl149:aB:=(.seq .auto (.join [(5,.one .bool)] .auto .auto))
theorem c149 (p0:bH)(p1:bH)(w:World)(K:Value->World->Prop)(h:C149 p0 p1 w K):Ret Tryz.prog 149 #[.agg (bS p0).toArray,.agg (bS p1).toArray] w K:=aC (by kernel_rfl) Tryz.func149 (p:=pl149) (Eq.mpr (by kernel_rfl) h)
def sP (a b:aQ):Bool:=((gv a.t.v&&gv b.t.v)||ik a.t b.t)&&(a.1==b.1&&(a.2.1==b.2.1&&(a.2.2.1==b.2.2.1&&(a.2.2.2.1==b.2.2.2.1&&(a.2.2.2.2.1==b.2.2.2.2.1&&(a.2.2.2.2.2.1==b.2.2.2.2.2.1&&a.2.2.2.2.2.2.1==b.2.2.2.2.2.2.1))))))
theorem My (t:Tm):o0 t.v:=by cases t<;>first | (exact .inl rfl) | (exact .inr ⟨_,_,rfl⟩)
theorem VD (a b : aQ)(w : World): Ret Tryz.prog 149 #[gV a.e, gV b.e] w fun r w' => r = .bool (sP a b) /\ Fr none1 w w' := by
  refine c149 a.e b.e w _ ?_;unfold C149;refine aq.of fun g1 w1 di ar f1 jL => aq.of fun g3 w2 wA ba f2 fQ => ?_;have ar : w2.heap[g1]? = some (.cells #[.int .i64 a.1, .string (str a.2.1), .string (str a.2.2.1), .string (str a.2.2.2.1), .string (str a.2.2.2.2.1), .int .i64 a.2.2.2.2.2.1, .int .i64 a.2.2.2.2.2.2.1, a.t.v] 36 (0, 0)) := f2.af ar;have ba : w2.heap[g3]? = some (.cells #[.int .i64 b.1, .string (str b.2.1), .string (str b.2.2.1), .string (str b.2.2.2.1), .string (str b.2.2.2.2.1), .int .i64 b.2.2.2.2.2.1, .int .i64 b.2.2.2.2.2.2.1, b.t.v] 36 (0, 0)) := ba;have f12 := f1.trans f2;refine bQ.of (fun s w' => s.1 = ((gv a.t.v && gv b.t.v) || ik a.t b.t) /\ Fr none1 w2 w') ?_ ?_
  · have cmp : (gv a.t.v && gv b.t.v) = false -> ae .raw ((⟨g1, 0, none⟩ : Addr).add 7) w2 (fun(bE : Value) => ae .raw ((⟨g3, 0, none⟩ : Addr).add 7) w2 (fun(bt : Value) => ab Tryz.prog 191 #[bE, bt] w2 (.v (.one .bool)) (fun(cm : Bool) bq =>
        cm = ((gv a.t.v && gv b.t.v) || ik a.t b.t) /\ Fr none1 w2 bq))) := fun q => by
      refine ae.ai ar (x := a.t.v) rfl (ae.ai ba (x := b.t.v) rfl ?_);refine ab.of (Mx a.t b.t w2) ?_;rintro _ w3 ⟨rfl, f3⟩;exact⟨_, rfl, by rw[q]; rfl, f3⟩
    refine ae.ai ar (x := a.t.v) rfl ?_;refine⟨gv a.t.v, w2, nil_eq FO _ (My _) w2, ?_⟩;refine aa.by (fun q => ?_) (fun q => cmp (by rw[q]; rfl));refine ae.ai ba (x := b.t.v) rfl ?_;refine⟨gv b.t.v, w2, nil_eq FO _ (My _) w2, ?_⟩;refine aa.by (fun q' => ?_) (fun q' => cmp (by rw[q, q']; rfl));exact⟨by rw[q, q']; rfl, Fr.refl _ _⟩
  rintro _ ⟨s, _⟩ w3 ⟨hs, f3⟩;dsimp only at hs ⊢;have ar := f3.af ar;have ba := f3.af ba;have f13 := f12.trans f3;unfold sP;rw[<- hs];refine aa.by (fun q => ?_) (fun q => by rw[q]; exact⟨rfl, f13⟩);rw[q, Bool.true_and];refine ae.ai ar (x := a.1) rfl (ae.ai ba (x := b.1) rfl ?_);refine aa.by (fun q => ?_) (fun q => by rw[q]; exact⟨rfl, f13⟩);rw[q, Bool.true_and];refine ae.ai ar (x := str a.2.1) rfl (ae.ai ba (x := str b.2.1) rfl ?_);rw[iv, <- Bool.beq_eq_decide_eq];refine aa.by (fun q => ?_) (fun q => by rw[q]; exact⟨rfl, f13⟩);rw[q, Bool.true_and];refine ae.ai ar (x := str a.2.2.1) rfl (ae.ai ba (x := str b.2.2.1) rfl ?_);rw[iv, <- Bool.beq_eq_decide_eq];refine aa.by (fun q => ?_) (fun q => by rw[q]; exact⟨rfl, f13⟩);rw[q, Bool.true_and];refine ae.ai ar (x := str a.2.2.2.1) rfl (ae.ai ba (x := str b.2.2.2.1) rfl ?_);rw[iv, <- Bool.beq_eq_decide_eq];refine aa.by (fun q => ?_) (fun q => by rw[q]; exact⟨rfl, f13⟩);rw[q, Bool.true_and];refine ae.ai ar (x := str a.2.2.2.2.1) rfl (ae.ai ba (x := str b.2.2.2.2.1) rfl ?_);rw[iv, <- Bool.beq_eq_decide_eq];refine aa.by (fun q => ?_) (fun q => by rw[q]; exact⟨rfl, f13⟩);rw[q, Bool.true_and];refine ae.ai ar (x := a.2.2.2.2.2.1) rfl (ae.ai ba (x := b.2.2.2.2.2.1) rfl ?_);refine aa.by (fun q => ?_) (fun q => by rw[q]; exact⟨rfl, f13⟩);rw[q, Bool.true_and];refine ae.ai ar (x := a.2.2.2.2.2.2.1) rfl (ae.ai ba (x := b.2.2.2.2.2.2.1) rfl ?_);exact⟨rfl, f13⟩
theorem VE {t:Tm}(h:jf t=0):cx t=true:=by
 unfold jf at h
 repeat' split at h
 all_goals first | (exact absurd h (by decide)) | skip
 rename_i h1 h2 h3 _;simpa using h1
theorem VF {m:aQ}{bs:List UInt8}(h:da m=(bs,0)):sP m m=true:=by
 obtain⟨hc,_⟩:=Ll h;obtain⟨U,ho,_,_,_,_,ht⟩:=Be hc;have key:((gv m.t.v&&gv m.t.v)||ik m.t m.t)=true:=by
  by_cases h2:m.e.1=2
  ·have hw:jf m.t=0:=by
    have:=ht h2;unfold bh at this;split at this
    ·rename_i c;exact(c this).elim
    ·rename_i c;exact Classical.not_not.1 c
   rw[Vu m.t (VE hw),Bool.or_true]
  ·have hn:cI m.e.1 84=false:=by
    unfold cI fS;rw[if_neg h2]
    repeat' split
    all_goals decide
   unfold mA at ho;rw[hn] at ho;simp only[Bool.or_false,Bool.and_eq_true] at ho;have hh:gv m.t.v=true:=ho.2.2;rw[hh];rfl
 unfold sP;rw[key];simp
abbrev fE:=aQ×Bool
def fZ (x:fE):List UInt8×Int:=sJ x.1.e (bh x.1.t).1 (bh x.1.t).2 x.2
def iV (kb:List UInt8)(h:Int)(x:fE):Int×Int:=if(fZ x).2≠0 then(0,(fZ x).2) else(mO kb (gk h++(fZ x).1),0)
def BK (f:cU):Int:=lp f.f (bh f.m.t).2
structure PeerM where
 kb:List UInt8
 side:Int
 es:List fE
 hs:List Int
 cy:cu
 off:aQ×Bool
 bB:aQ×Bool
 wanted:Bool
 dJ:Bool
 refused:Int
structure cG where
 dj:Bool
 cM:Bool
 bg:fE
 bI:aQ
 drop:Bool
 wanted:Bool
 dJ:Bool
 calm:Bool
 cz:List cU
def eD:cG:=⟨false,false,(bp,false),bp,false,false,false,false,[]⟩
def wJ:aQ:=(1,[],[],[],[],0,0,.none)
def lT (kb:List UInt8)(side:Int):PeerM:=⟨kb,if side=0 then 0 else 1,[],[0],wo,(bp,false),(bp,false),false,false,0⟩
namespace PeerM
variable (p:PeerM)
def len:Int:=p.es.length
def head:Int:=p.hs.getD p.es.length 0
def owner (n:Int):Int:=if n % 2=0 then 0 else 1
def full:Bool:=decide (64<=p.es.length)
def fr (kind slot head:Int)(flag:Bool)(m:aQ):cU:=(0,0,0,kind,slot,head,flag,m)
def gm (kind:Int)(flag:Bool)(m:aQ):cU:=fr kind p.len p.head flag m
def offer (m:aQ):PeerM×Int:=
 if p.dJ=true then(p,13) else if p.off.2=true\/(p.bB.2=true/\p.bB.1.kind≠1) then(p,9) else if p.full=true then(p,5) else
 if mN p.cy m p.side≠0 then(p,mN p.cy m p.side) else({ p with off:=(m,true) },0)
def jY (m:aQ):cG:=if mN p.cy m p.side≠0 then{ eD with drop:=true } else{ eD with cM:=true,bI:=m,cz:=[p.gm 1 false m] }
def tick:cG:=
 if p.dJ=true then{ eD with cz:=[p.gm 4 true bp] } else if p.full=true then eD else
 if p.bB.2=true then{ eD with cz:=[p.gm 1 false p.bB.1] } else
 if owner p.len=p.side/\p.off.2=true then p.jY p.off.1 else if owner p.len=p.side/\p.wanted=true then p.jY wJ else
 if owner p.len≠p.side/\p.off.2=true then{ eD with cz:=[p.gm 3 false bp] } else eD
def entry (x:fE):PeerM×Int:=
 if 64<=p.es.length then(p,5) else if(iV p.kb p.head x).2≠0 then(p,(iV p.kb p.head x).2) else
 if x.2=false/\(gZ p.cy x.1 (owner p.len)).2≠0 then(p,(gZ p.cy x.1 (owner p.len)).2) else
 ({ p with es:=p.es++[x],hs:=p.hs++[(iV p.kb p.head x).1],cy:=if x.2=true then p.cy else(gZ p.cy x.1 (owner p.len)).1,bB:=(bp,false),wanted:=false },0)
def jZ (a:cG):PeerM:=if a.cM=true then{ p with bB:=(a.bI,true) } else p
def oB (a:cG):Bool:=a.drop||(a.cM&&(p.off.2&&sP p.off.1 a.bI))
def ended (a:cG):PeerM:=
 { p.jZ a with off:=if p.oB a=true then(bp,false) else p.off,wanted:=p.wanted||a.wanted,dJ:=(p.dJ||a.dJ)&&!a.calm }
def bD (a:cG):PeerM×Int:=if a.dj=true then(if(p.entry a.bg).2≠0 then(p,(p.entry a.bg).2) else((p.entry a.bg).1.ended a,0)) else(p.ended a,0)
end PeerM
def C8 (p0:Int)(w:World)(K:Value->World->Prop):Prop:=
 aq (.cells #[.slice none 0 0,.int .i64 (if 65536<(if 0 > p0 then 0 else p0) then 65536 else(if 0 > p0 then 0 else p0)),.int .i64 0,.bool false,.int .i64 0,.bool false] 96) w (fun g1 w2=>K (.pointer (some (ad g1))) w2)
def pl8:aB:=.auto
theorem c8 (p0:Int)(w:World)(K:Value->World->Prop)(h:C8 p0 w K):Ret Tryz.prog 8 #[.int .i64 p0] w K:=aC (by kernel_rfl) Tryz.func8 (p:=pl8) (Eq.mpr (by kernel_rfl) h)
def C17 (p0:Addr)(w:World)(K:Value->World->Prop):Prop:=
 ae .ah (p0.add 0) w (fun(x1:ao)=>ab Tryz.prog 54 #[.slice x1.1 x1.2.1 x1.2.2] w (.v (.one .ah)) (fun(x2:ao) w3=>K (.slice x2.1 x2.2.1 x2.2.2) w3))
def pl17:aB:=.auto
theorem c17 (p0:Addr)(w:World)(K:Value->World->Prop)(h:C17 p0 w K):Ret Tryz.prog 17 #[.pointer (some p0)] w K:=aC (by kernel_rfl) Tryz.func17 (p:=pl17) (Eq.mpr (by kernel_rfl) h)
def C86 (p0:Addr)(w:World)(K:Value->World->Prop):Prop:=
 ae .bool (p0.add 5) w (fun(x1:Bool)=>K (.bool x1) w)
def pl86:aB:=.auto
theorem c86 (p0:Addr)(w:World)(K:Value->World->Prop)(h:C86 p0 w K):Ret Tryz.prog 86 #[.pointer (some p0)] w K:=aC (by kernel_rfl) Tryz.func86 (p:=pl86) (Eq.mpr (by kernel_rfl) h)
def C146 (p0:Addr)(w:World)(K:Value->World->Prop):Prop:=
 ae .bool (p0.add 3) w (fun(x1:Bool)=>aa x1
 (ae (.int .i64) (p0.add 4) w (fun(x2:Int)=>aa (x2==0)
 (ay (p0.add 5) (.bool true) w (fun w3=>K (.bool false) w3))
 (ae (.int .i64) (p0.add 4) w (fun(x4:Int)=>ay (p0.add 4) (.int .i64 (IntKind.i64.wrap (x4 - 1))) w (fun w5=>K (.bool true) w5)))))
 (ae (.int .i64) (p0.add 4) w (fun(x6:Int)=>ay (p0.add 4) (.int .i64 (IntKind.i64.wrap (x6 - 1))) w (fun w7=>K (.bool true) w7))))
def pl146:aB:=.auto
theorem c146 (p0:Addr)(w:World)(K:Value->World->Prop)(h:C146 p0 w K):Ret Tryz.prog 146 #[.pointer (some p0)] w K:=aC (by kernel_rfl) Tryz.func146 (p:=pl146) (Eq.mpr (by kernel_rfl) h)
def C94 (p0:Addr)(p1:Option Addr)(ct cO:Nat)(w:World)(K:Value->World->Prop):Prop:=
 ae .bool (p0.add 5) w (fun(x1:Bool)=>aa x1
 (K (.int .i64 11) w)
 (aH w (fun w2=>ae (.int .i64) (p0.add 1) w2 (fun(x3:Int)=>ae .ah (p0.add 0) w2 (fun(x4:ao)=>aa (decide ((ct:Int) > (IntKind.i64.wrap (x3 - (x4.2.1:Int)))))
 (K (.int .i64 10) w2)
 (ab Tryz.prog 146 #[.pointer (some p0)] w2 (.v (.one .bool)) (fun(x5:Bool) w6=>aa (!x5)
 (K (.int .i64 11) w6)
 (ae .ah (p0.add 0) w6 (fun(x7:ao)=>ab Tryz.prog 54 #[.slice x7.1 x7.2.1 x7.2.2] w6 (.v (.one .ah)) (fun(x8:ao) w9=>aw Tryz.prog (Builtin.append_ #[22,22] 22 #[.slice x8.1 x8.2.1 x8.2.2,.slice p1 ct cO]) w9 (.v (.one .ah)) (fun(aS:ao) aR=>ay (p0.add 0) (.slice aS.1 aS.2.1 aS.2.2) aR (fun aO=>K (.int .i64 0) aO))))))))))))
def pl94:aB:=(.seq .auto (.seq (.block (.seq .auto (.cond .auto (.seq .still .auto)))) .auto))
theorem c94 (p0:Addr)(p1:Option Addr)(ct cO:Nat)(w:World)(K:Value->World->Prop)(h:C94 p0 p1 ct cO w K):Ret Tryz.prog 94 #[.pointer (some p0),.slice p1 ct cO] w K:=aC (by kernel_rfl) Tryz.func94 (p:=pl94) (Eq.mpr (by kernel_rfl) h)
def C96 (p0:Addr)(w:World)(K:Value->World->Prop):Prop:=
 ae .bool (p0.add 5) w (fun(x1:Bool)=>aa x1
 (K (.int .i64 11) w)
 (ab Tryz.prog 146 #[.pointer (some p0)] w (.v (.one .bool)) (fun(x2:Bool) w3=>aa (!x2)
 (K (.int .i64 11) w3)
 (ae .ah (p0.add 0) w3 (fun(x4:ao)=>ay (p0.add 2) (.int .i64 (x4.2.1:Int)) w3 (fun w5=>K (.int .i64 0) w5))))))
def pl96:aB:=.auto
theorem c96 (p0:Addr)(w:World)(K:Value->World->Prop)(h:C96 p0 w K):Ret Tryz.prog 96 #[.pointer (some p0)] w K:=aC (by kernel_rfl) Tryz.func96 (p:=pl96) (Eq.mpr (by kernel_rfl) h)
def C88 (p0:Addr)(p1:Int)(w:World)(K:Value->World->Prop):Prop:=
 ae .bool (p0.add 5) w (fun(x1:Bool)=>aa x1
 (K (.int .i64 11) w)
 (aa (decide (p1<0))
 (K (.int .i64 1) w)
 (ae .ah (p0.add 0) w (fun(x2:ao)=>aa (decide (p1 > (x2.2.1:Int)))
 (K (.int .i64 1) w)
 (ab Tryz.prog 146 #[.pointer (some p0)] w (.v (.one .bool)) (fun(x3:Bool) w4=>aa (!x3)
 (K (.int .i64 11) w4)
 (ae .ah (p0.add 0) w4 (fun(x5:ao)=>eu x5.1 x5.2.2 0 p1 x5.2.2 1 (fun a6 l7 c8=>ab Tryz.prog 54 #[.slice a6 l7 c8] w4 (.v (.one .ah)) (fun(x9:ao) aK=>ay (p0.add 0) (.slice x9.1 x9.2.1 x9.2.2) aK (fun aR=>ay (p0.add 2) (.int .i64 p1) aR (fun aO=>K (.int .i64 0) aO))))))))))))
def pl88:aB:=.auto
theorem c88 (p0:Addr)(p1:Int)(w:World)(K:Value->World->Prop)(h:C88 p0 p1 w K):Ret Tryz.prog 88 #[.pointer (some p0),.int .i64 p1] w K:=aC (by kernel_rfl) Tryz.func88 (p:=pl88) (Eq.mpr (by kernel_rfl) h)
def C15 (p0:Addr)(p1:Int)(p2:Int)(w:World)(K:Value->World->Prop):Prop:=
 aH w (fun w1=>ae (.int .i64) (p0.add 2) w1 (fun(x2:Int)=>ae .ah (p0.add 0) w1 (fun(x3:ao)=>ae (.int .i64) (p0.add 2) w1 (fun(x4:Int)=>ae .ah (p0.add 0) w1 (fun(x5:ao)=>eu x5.1 x5.2.2 0 (IntKind.i64.wrap (x2+(if IntKind.i64.wrap ((x3.2.1:Int) - x4)<(if p1 > 0 then p1 else 0) then IntKind.i64.wrap ((x3.2.1:Int) - x4) else(if p1 > 0 then p1 else 0)))) x5.2.2 1 (fun a6 l7 c8=>ab Tryz.prog 54 #[.slice a6 l7 c8] w1 (.v (.one .ah)) (fun(x9:ao) aK=>ae (.int .i64) (p0.add 2) aK (fun(aZ:Int)=>aa (decide ((IntKind.i64.wrap (x2+(if IntKind.i64.wrap ((x3.2.1:Int) - x4)<(if p1 > 0 then p1 else 0) then IntKind.i64.wrap ((x3.2.1:Int) - x4) else(if p1 > 0 then p1 else 0)))) > aZ))
 (bK x9.1 x9.2.1 (IntKind.i64.wrap ((IntKind.i64.wrap (x2+(if IntKind.i64.wrap ((x3.2.1:Int) - x4)<(if p1 > 0 then p1 else 0) then IntKind.i64.wrap ((x3.2.1:Int) - x4) else(if p1 > 0 then p1 else 0)))) - 1)) 1 (fun a12=>ae (.int .u8) a12 aK (fun(bC:Int)=>bK x9.1 x9.2.1 (IntKind.i64.wrap ((IntKind.i64.wrap (x2+(if IntKind.i64.wrap ((x3.2.1:Int) - x4)<(if p1 > 0 then p1 else 0) then IntKind.i64.wrap ((x3.2.1:Int) - x4) else(if p1 > 0 then p1 else 0)))) - 1)) 1 (fun xN=>ay xN (.int .u8 (IntKind.u8.wrap ((BitVec.ofInt 8 bC ^^^ BitVec.ofInt 8 p2).toNat:Int))) aK (fun bL=>ay (p0.add 0) (.slice x9.1 x9.2.1 x9.2.2) bL (fun br=>ay (p0.add 2) (.int .i64 (IntKind.i64.wrap (x2+(if IntKind.i64.wrap ((x3.2.1:Int) - x4)<(if p1 > 0 then p1 else 0) then IntKind.i64.wrap ((x3.2.1:Int) - x4) else(if p1 > 0 then p1 else 0))))) br (fun cD=>ay (p0.add 5) (.bool false) cD (fun bx=>ay (p0.add 3) (.bool false) bx (fun bO=>ay (p0.add 4) (.int .i64 0) bO (fun bz=>K (.tuple #[]) bz))))))))))
 (ay (p0.add 0) (.slice x9.1 x9.2.1 x9.2.2) aK (fun bq=>ay (p0.add 2) (.int .i64 (IntKind.i64.wrap (x2+(if IntKind.i64.wrap ((x3.2.1:Int) - x4)<(if p1 > 0 then p1 else 0) then IntKind.i64.wrap ((x3.2.1:Int) - x4) else(if p1 > 0 then p1 else 0))))) bq (fun bA=>ay (p0.add 5) (.bool false) bA (fun dW=>ay (p0.add 3) (.bool false) dW (fun bU=>ay (p0.add 4) (.int .i64 0) bU (fun dn=>K (.tuple #[]) dn))))))))))))))
def pl15:aB:=(.seq .still .auto)
theorem c15 (p0:Addr)(p1:Int)(p2:Int)(w:World)(K:Value->World->Prop)(h:C15 p0 p1 p2 w K):Ret Tryz.prog 15 #[.pointer (some p0),.int .i64 p1,.int .u8 p2] w K:=aC (by kernel_rfl) Tryz.func15 (p:=pl15) (Eq.mpr (by kernel_rfl) h)
def C54 (p0:Option Addr)(aI aN:Nat)(w:World)(K:Value->World->Prop):Prop:=
 aa (Option.isNone p0)
 (K (.slice none 0 0) w)
 (aw Tryz.prog (Instr.buildSlice 22 0 #[]) w (.v (.one .ah)) (fun(x1:ao) w2=>aw Tryz.prog (Builtin.append_ #[22,22] 22 #[.slice x1.1 x1.2.1 x1.2.2,.slice p0 aI aN]) w2 (.v (.one .ah)) (fun(x3:ao) w4=>K (.slice x3.1 x3.2.1 x3.2.2) w4)))
def pl54:aB:=.auto
theorem c54 (p0:Option Addr)(aI aN:Nat)(w:World)(K:Value->World->Prop)(h:C54 p0 aI aN w K):Ret Tryz.prog 54 #[.slice p0 aI aN] w K:=aC (by kernel_rfl) Tryz.func54 (p:=pl54) (Eq.mpr (by kernel_rfl) h)
theorem za {w:World}{v:Sl}{bs:List UInt8}(h:aY w v bs)(hl:bs.length<=100000000):
  Ret Tryz.prog 54 #[.slice v.1 v.2.1 v.2.2] w fun r w'=>∃ u:Sl,r=.slice u.1 u.2.1 u.2.2/\bR w' u bs/\Fr none1 w w'/\∀ k,au u k->w.heap.size<=k:=by
 refine c54 v.1 v.2.1 v.2.2 w _ ?_;refine aa.by (fun hn=>?_) (fun hn=>?_)
 ·obtain⟨_,_,he⟩:=h.2.1 (by simpa using hn)
  exact⟨(none,0,0),rfl,.inl ⟨rfl,he⟩,Fr.refl _ _,fun k ⟨a,ha,_⟩=>(by cases ha)⟩
 ·obtain⟨x,w1,hr,hx,kj,f1,hf⟩:=qJ (P:=Tryz.prog) (w:=w) mm [] (by simp) (by simp)
  refine⟨x,w1,hr,?_⟩;have cC:=h.len;obtain⟨u,w2,fK,hu,f2,oU⟩:=qK (xs:=[]) hx (h.af f1) (by simp;omega);refine⟨u,w2,fK,u,rfl,hu,f1.comp f2 (fun k U t=>?_),fun k U=>?_⟩
  ·have:=hf k t;omega
  ·rcases oU k U with t | t
   ·exact hf k t
   ·exact Nat.le_trans f1.size t
structure bM where
 b:List UInt8
 cp:Int
 synced:Int
 lit:Bool
 lU:Int
 dead:Bool
structure bM.Ok (s:bM):Prop where
 len:s.b.length<=65536
 q0:0<=s.cp
 q1:s.cp<=65536
 s0:0<=s.synced
 s1:s.synced<=s.b.length
structure gn (w:World)(b g:Nat)(s:bM):Prop where
 out:∃ sl:Sl,w.heap[b]? = some (.cells #[.slice sl.1 sl.2.1 sl.2.2,.int .i64 s.cp,.int .i64 s.synced,.bool s.lit,.int .i64 s.lU,.bool s.dead] 96 (0,0))/\bR w sl s.b/\∀ k,au sl k->k=g/\k≠b
 pB:g<w.heap.size
 ok:s.Ok
theorem gn.ag {w w':World}{b g:Nat}{s:bM}(h:gn w b g s){S:Nat->Prop}(f:Fr S w w')(h1:¬ S b)(h2:¬ S g):gn w' b g s:=by
 obtain⟨⟨sl,hb,hs,hg⟩,gl,ok⟩:=h;exact⟨⟨sl,f.ag hb h1,hs.ag f (fun k U=>by rw[(hg k U).1];exact h2),hg⟩,Nat.lt_of_lt_of_le gl f.size,ok⟩
theorem gn.af {w w':World}{b g:Nat}{s:bM}(h:gn w b g s)(f:Fr none1 w w'):gn w' b g s:=h.ag f (fun t=>t) (fun t=>t)
theorem gn.lt {w:World}{b g:Nat}{s:bM}(h:gn w b g s):b<w.heap.size:=by
 obtain⟨⟨sl,hb,_⟩,_⟩:=h;exact cj hb
def j0 (w:World)(b g:Nat)(s':bM)(w':World):Prop:=Fr (only b) w w'/\∃ g',(g'=b\/g'=g\/w.heap.size<=g')/\gn w' b g' s'
theorem j0.pre {w0 w w':World}{b g:Nat}{s':bM}(f:Fr none1 w0 w)(h:j0 w b g s' w'):j0 w0 b g s' w':=by
 obtain⟨a,g',h1,h2⟩:=h;refine⟨f.eG a,g',?_,h2⟩
 rcases h1 with h | h | h
 ·exact .inl h
 ·exact .inr (.inl h)
 ·exact .inr (.inr (Nat.le_trans f.size h))
theorem j0.same {w w':World}{b g:Nat}{s:bM}(h:gn w b g s)(f:Fr none1 w w'):j0 w b g s w':=⟨f.mono fun _ _ t=>t.elim,g,.inr (.inl rfl),h.af f⟩
theorem Gi {w':World}{b n:Nat}{y:Sl}{bs:List UInt8}(aU:b<w'.heap.size)(tM:bR w' y bs)(hy:∀ k,au y k->n<=k/\k≠b):∃ g',(g'=b\/n<=g')/\g'<w'.heap.size/\∀ k,au y k->k=g'/\k≠b:=by
 cases BM:y.1 with
 | none=>exact⟨b,.inl rfl,aU,fun k ⟨a,ha,_⟩=>(by rw[BM] at ha;cases ha)⟩
 | some a=>
  have U:au y a.block:=⟨a,BM,rfl⟩;refine⟨a.block,.inr (hy _ U).1,aD.lt tM U,fun k U=>⟨?_,(hy k U).2⟩⟩;obtain⟨a',ha,rfl⟩:=U;rw[BM] at ha;injection ha with ha;rw[ha]
def pC (q:Int):bM:={ b:=[],cp:=if 65536<(if 0 > q then 0 else q) then 65536 else(if 0 > q then 0 else q),synced:=0,lit:=false,lU:=0,dead:=false }
theorem Mz (q:Int):(pC q).Ok:=by
 unfold pC;refine⟨by simp,?_,?_,by simp,by simp⟩<;>dsimp only<;>repeat' split
 all_goals omega
theorem MA (q:Int)(w:World):Ret Tryz.prog 8 #[.int .i64 q] w fun r w'=>∃ b,r=.pointer (some ⟨b,0,none⟩)/\w.heap.size<=b/\Fr none1 w w'/\gn w' b b (pC q):=by
 refine c8 q w _ (aq.of fun b w1 hg hb f hs=>⟨b,rfl,by omega,f,⟨⟨(none,0,0),hb,.inl ⟨rfl,rfl⟩,fun k ⟨a,ha,_⟩=>(by cases ha)⟩,by omega,Mz q⟩⟩)
theorem MB {w:World}{b g:Nat}{s:bM}(h:gn w b g s):Ret Tryz.prog 86 #[.pointer (some ⟨b,0,none⟩)] w fun r w'=>r=.bool s.dead/\w=w':=by
 obtain⟨⟨sl,hb,_⟩,_⟩:=h;exact c86 _ w _ (ae.ai hb rfl ⟨rfl,rfl⟩)
theorem VG {w:World}{b g:Nat}{s:bM}(h:gn w b g s):Ret Tryz.prog 17 #[.pointer (some ⟨b,0,none⟩)] w fun r w'=>
  ∃ u:Sl,r=.slice u.1 u.2.1 u.2.2/\bR w' u s.b/\Fr none1 w w'/\∀ k,au u k->w.heap.size<=k:=by
 obtain⟨⟨sl,hb,hs,_⟩,_,ok⟩:=h;refine c17 _ w _ ?_;refine ae.ai hb (x:=sl) rfl ?_;refine ab.of (za hs.rd (by have:=ok.len;omega)) ?_;rintro _ w' ⟨u,rfl,hu,f,hf⟩;exact⟨u,rfl,u,rfl,hu,f,hf⟩
def cY (s:bM):bM×Bool:=if s.lit&&s.lU==0 then({ s with dead:=true },false) else({ s with lU:=IntKind.i64.wrap (s.lU - 1) },true)
theorem VH {s:bM}(h:s.Ok):(cY s).1.Ok:=by
 unfold cY;split<;>exact⟨h.len,h.q0,h.q1,h.s0,h.s1⟩
theorem oC (s:bM):(cY s).1.b=s.b/\(cY s).1.cp=s.cp/\(cY s).1.synced=s.synced:=by
 unfold cY;split<;>exact⟨rfl,rfl,rfl⟩
theorem Gj {w:World}{b g:Nat}{s:bM}(h:gn w b g s):Ret Tryz.prog 146 #[.pointer (some ⟨b,0,none⟩)] w fun r w'=>r=.bool (cY s).2/\Fr (only b) w w'/\gn w' b g (cY s).1:=by
 obtain⟨⟨sl,hb,hs,hg⟩,gl,ok⟩:=h;have BN:=VH ok;refine c146 _ w _ ?_;unfold cY at *;refine ae.ai hb rfl ?_;have ag:∀ w',Fr (only b) w w'->bR w' sl s.b:=fun w' f=>hs.ag f (fun k U t=>(hg k U).2 t);have run:(s.lit&&s.lU==0)=false->ae (.int .i64) ((⟨b,0,none⟩:Addr).add 4) w (fun(x4:Int)=>ay ((⟨b,0,none⟩:Addr).add 4) (.int .i64 (IntKind.i64.wrap (x4 - 1))) w (fun w5=>
   (.bool true:Value)=.bool (if s.lit&&s.lU==0 then({ s with dead:=true },false) else({ s with lU:=IntKind.i64.wrap (s.lU - 1) },true)).2/\Fr (only b) w w5/\gn w5 b g (if s.lit&&s.lU==0 then({ s with dead:=true },false) else({ s with lU:=IntKind.i64.wrap (s.lU - 1) },true)).1)):=fun hc=>by
  rw[hc] at BN ⊢;refine ae.ai hb rfl ?_;refine ay.ai hb (by simp) rfl fun w1 ar f1 _=>?_;exact⟨rfl,f1,⟨sl,ar,ag w1 f1,hg⟩,Nat.lt_of_lt_of_le gl f1.size,BN⟩
 refine aa.by (fun hl=>?_) (fun hl=>run (by rw[hl];rfl));refine ae.ai hb rfl ?_;refine aa.eq (fun hf=>?_) (fun hf=>run (by rw[hl];simpa using hf));have hc:(s.lit&&s.lU==0)=true:=by rw[hl,hf];rfl
 rw[hc] at BN ⊢;refine ay.ai hb (by simp) rfl fun w1 ar f1 _=>?_;exact⟨rfl,f1,⟨sl,ar,ag w1 f1,hg⟩,Nat.lt_of_lt_of_le gl f1.size,BN⟩
def fo (s:bM)(x:List UInt8):bM×Int:=
 if s.dead then(s,11) else if(x.length:Int) > s.cp - s.b.length then(s,10) else
 if(cY s).2 then({ (cY s).1 with b:=s.b++x },0) else((cY s).1,11)
theorem VI {w:World}{b g:Nat}{s:bM}{v:Sl}{x:List UInt8}(h:gn w b g s)(hv:aY w v x)(rh:¬ au v b):Ret Tryz.prog 94 #[.pointer (some ⟨b,0,none⟩),.slice v.1 v.2.1 v.2.2] w fun r w'=>
  r=.int .i64 (fo s x).2/\j0 w b g (fo s x).1 w':=by
 have h0:=h;obtain⟨⟨sl,hb,hs,hg⟩,gl,ok⟩:=h;obtain⟨k1,k2,k3,k4,k5⟩:=ok;have jE:=hs.len;have cC:=hv.len;refine c94 _ v.1 v.2.1 v.2.2 w _ ?_;unfold fo;refine ae.ai hb rfl ?_;refine aa.by (fun hd=>?_) (fun hd=>?_)
 ·rw[if_pos hd];exact⟨rfl,j0.same h0 (Fr.refl _ _)⟩
 rw[if_neg (by simp[hd])];refine aH.of fun w1 rZ f1=>?_;have ar:=f1.af hb;refine ae.ai ar rfl ?_;refine ae.ai ar (x:=sl) rfl ?_;rw[jE,wI (x:=s.cp - (s.b.length:Int)) (by omega) (by omega)];have fx:Fr (only b) w w1:=f1.mono fun _ _ t=>t.elim;refine aa.dec (fun hq=>?_) (fun hq=>?_)
 ·rw[if_pos (by rw[<- cC];exact hq)];exact⟨rfl,j0.same h0 f1⟩
 rw[if_neg (by rw[<- cC];exact hq)];refine ab.of (Gj (h0.af f1)) ?_;rintro _ w2 ⟨rfl,f2,h2⟩;refine⟨_,rfl,?_⟩;refine aa.by (fun cV=>?_) (fun cV=>?_)
 ·have pD:(cY s).2=false:=by simpa using cV
  rw[pD];exact⟨rfl,fx.trans f2,g,.inr (.inl rfl),h2⟩
 ·have pD:(cY s).2=true:=by simpa using cV
  rw[pD,if_pos rfl];obtain⟨⟨sQ,aM,fQ,mI⟩,BO,zd⟩:=h2;obtain⟨e1,e2,e3⟩:=oC s;refine ae.ai aM (x:=sQ) rfl ?_;refine ab.of (za fQ.rd (by rw[e1];omega)) ?_;rintro _ w3 ⟨u,rfl,hu,f3,lV⟩;refine⟨u,rfl,?_⟩;have cS:=hu.len;rw[e1] at cS hu;have pZ:aY w3 v x:=((hv.af f1).ag f2 (fun k U t=>rh (by have:k=b:=t;rw[<- this];exact U))).af f3;obtain⟨y,w4,hr,hy,f4,VJ⟩:=qK hu pZ (by omega);refine⟨y,w4,hr,?_⟩;have VK:w.heap.size<=w2.heap.size:=(fx.trans f2).size;have kK:=cj hb;have dm:=f4.ag (f3.af aM) (fun t=>by have:=lV b t;omega);refine ay.ai dm (by simp) rfl fun w5 dr f5 _=>?_;have BP:∀ k,au y k->w2.heap.size<=k:=fun k U=>by
   rcases VJ k U with t | t
   ·exact lV k t
   ·exact Nat.le_trans f3.size t
  have fr:Fr (only b) w w5:=(((fx.trans f2).dp f3).comp f4 (fun k U t=>by have:=lV k t;omega)).trans f5;have MC:bR w5 y (s.b++x):=hy.ag f5 (fun k U t=>by have:=BP k U;have:k=b:=t;omega);obtain⟨gy,zh,lr,zi⟩:=Gi (b:=b) (n:=w.heap.size) (cj dr) MC (fun k U=>by have:=BP k U;omega);refine⟨rfl,fr,gy,zh.imp id .inr,⟨y,dr,MC,zi⟩,lr,?_⟩;refine⟨?_,?_,?_,?_,?_⟩<;>dsimp only
  ·simp only[List.length_append];omega
  ·rw[e2];exact k2
  ·rw[e2];exact k3
  ·rw[e3];exact k4
  ·rw[e3];simp only[List.length_append];omega
def ia (s:bM):bM×Int:=if s.dead then(s,11) else if(cY s).2 then({ (cY s).1 with synced:=s.b.length },0) else((cY s).1,11)
theorem VL {w:World}{b g:Nat}{s:bM}(h:gn w b g s):Ret Tryz.prog 96 #[.pointer (some ⟨b,0,none⟩)] w fun r w'=>r=.int .i64 (ia s).2/\j0 w b g (ia s).1 w':=by
 have h0:=h;obtain⟨⟨sl,hb,hs,hg⟩,gl,ok⟩:=h;refine c96 _ w _ ?_;unfold ia;refine ae.ai hb rfl ?_;refine aa.by (fun hd=>?_) (fun hd=>?_)
 ·rw[if_pos hd];exact⟨rfl,j0.same h0 (Fr.refl _ _)⟩
 rw[if_neg (by simp[hd])];refine ab.of (Gj h0) ?_;rintro _ w2 ⟨rfl,f2,h2⟩;refine⟨_,rfl,?_⟩;refine aa.by (fun cV=>?_) (fun cV=>?_)
 ·have pD:(cY s).2=false:=by simpa using cV
  rw[pD];exact⟨rfl,f2,g,.inr (.inl rfl),h2⟩
 ·have pD:(cY s).2=true:=by simpa using cV
  rw[pD,if_pos rfl];obtain⟨⟨sQ,aM,fQ,mI⟩,BO,zd⟩:=h2;obtain⟨e1,e2,e3⟩:=oC s;refine ae.ai aM (x:=sQ) rfl ?_;rw[fQ.len,e1];refine ay.ai aM (by simp) rfl fun w5 dr f5 _=>?_;refine⟨rfl,f2.trans f5,g,.inr (.inl rfl),⟨sQ,dr,fQ.ag f5 (fun k U t=>(mI k U).2 t),mI⟩,Nat.lt_of_lt_of_le BO f5.size,?_⟩;obtain⟨k1,k2,k3,k4,k5⟩:=zd;refine⟨k1,k2,k3,?_,?_⟩<;>dsimp only
  ·omega
  ·rw[e1];omega
def kR (s:bM)(n:Int):bM×Int:=if s.dead then(s,11) else if n<0 then(s,1) else if n > s.b.length then(s,1) else
 if(cY s).2 then({ (cY s).1 with b:=s.b.take n.toNat,synced:=n },0) else((cY s).1,11)
theorem VM {w:World}{b g:Nat}{s:bM}(h:gn w b g s)(n:Int):Ret Tryz.prog 88 #[.pointer (some ⟨b,0,none⟩),.int .i64 n] w fun r w'=>r=.int .i64 (kR s n).2/\j0 w b g (kR s n).1 w':=by
 have h0:=h;obtain⟨⟨sl,hb,hs,hg⟩,gl,ok⟩:=h;refine c88 _ n w _ ?_;unfold kR;refine ae.ai hb rfl ?_;refine aa.by (fun hd=>?_) (fun hd=>?_)
 ·rw[if_pos hd];exact⟨rfl,j0.same h0 (Fr.refl _ _)⟩
 rw[if_neg (by simp[hd])];refine aa.dec (fun hq=>?_) (fun hq=>?_)
 ·rw[if_pos hq];exact⟨rfl,j0.same h0 (Fr.refl _ _)⟩
 rw[if_neg hq];refine ae.ai hb (x:=sl) rfl ?_;rw[hs.len];refine aa.dec (fun nU=>?_) (fun nU=>?_)
 ·rw[if_pos nU];exact⟨rfl,j0.same h0 (Fr.refl _ _)⟩
 rw[if_neg nU];refine ab.of (Gj h0) ?_;rintro _ w2 ⟨rfl,f2,h2⟩;refine⟨_,rfl,?_⟩;refine aa.by (fun cV=>?_) (fun cV=>?_)
 ·have pD:(cY s).2=false:=by simpa using cV
  rw[pD];exact⟨rfl,f2,g,.inr (.inl rfl),h2⟩
 ·have pD:(cY s).2=true:=by simpa using cV
  rw[pD,if_pos rfl];obtain⟨⟨sQ,aM,fQ,mI⟩,BO,zd⟩:=h2;obtain⟨e1,e2,e3⟩:=oC s;refine ae.ai aM (x:=sQ) rfl ?_;have pW:=fQ.len;rw[e1] at pW;refine aY.sub fQ.rd (by omega) (by omega) fQ.cap fun hu=>?_;rw[e1] at hu;have kk:=zd.len;rw[e1] at kk;refine ab.of (za (v:=(sQ.1,n.toNat,sQ.2.2)) hu (by simp only[List.length_take];omega)) ?_;rintro _ w3 ⟨u,rfl,hu,f3,lV⟩;refine⟨u,rfl,?_⟩;refine ay.ai (f3.af aM) (by simp) rfl fun w5 dr f5 _=>?_;refine ay.ai dr (by simp) rfl fun w6 gI f6 _=>?_;have kK:=cj aM;have MD:bR w6 u (s.b.take n.toNat):=(hu.ag f5 (fun k U t=>by have:=lV k U;have:k=b:=t;omega)).ag f6 (fun k U t=>by have:=lV k U;have:k=b:=t;omega);have VN:Fr (only b) w2 w6:=(f3.eG f5).trans f6;obtain⟨gy,zh,lr,zi⟩:=Gi (b:=b) (n:=w2.heap.size) (cj gI) MD (fun k U=>by have:=lV k U;omega);refine⟨rfl,f2.trans VN,gy,zh.imp id (fun t=>.inr (Nat.le_trans f2.size t)),⟨u,gI,MD,zi⟩,lr,?_⟩;obtain⟨k1,k2,k3,k4,k5⟩:=zd;refine⟨?_,k2,k3,by dsimp only;omega,?_⟩<;>dsimp only<;>simp only[List.length_take]<;>omega
def rq (x:UInt8)(p:Int):UInt8:=UInt8.ofNat (BitVec.ofInt 8 (x.toNat:Int) ^^^ BitVec.ofInt 8 p).toNat
theorem ME (x:UInt8)(p:Int):Value.int .u8 (IntKind.u8.wrap ((BitVec.ofInt 8 (x.toNat:Int) ^^^ BitVec.ofInt 8 p).toNat:Int))=bc (rq x p):=by
 have h:=(BitVec.ofInt 8 (x.toNat:Int) ^^^ BitVec.ofInt 8 p).isLt;rw[wB (by omega) (by omega)];unfold bc rq;rw[UInt8.toNat_ofNat',Nat.mod_eq_of_lt h]
def iI (s:bM)(ag:Int):Int:=s.synced+(if(s.b.length:Int) - s.synced<(if ag > 0 then ag else 0) then(s.b.length:Int) - s.synced else(if ag > 0 then ag else 0))
def sR (s:bM)(k p:Int):List UInt8:=if k > s.synced then(s.b.take k.toNat).set (k - 1).toNat (rq (s.b.getD (k - 1).toNat 0) p) else s.b.take k.toNat
def lW (s:bM)(ag p:Int):bM:={ s with b:=sR s (iI s ag) p,synced:=iI s ag,dead:=false,lit:=false,lU:=0 }
theorem VO {w:World}{b g:Nat}{s:bM}(h:gn w b g s)(n p:Int):Ret Tryz.prog 15 #[.pointer (some ⟨b,0,none⟩),.int .i64 n,.int .u8 p] w fun r w'=>r=.tuple #[]/\j0 w b g (lW s n p) w':=by
 have h0:=h;obtain⟨⟨sl,hb,hs,hg⟩,gl,ok⟩:=h;obtain⟨k1,k2,k3,k4,k5⟩:=ok;have jE:=hs.len;refine c15 _ n p w _ ?_;unfold C15 lW;refine aH.of fun w1 rZ f1=>?_;have ar:=f1.af hb;refine ae.ai ar rfl ?_;refine ae.ai ar (x:=sl) rfl ?_;refine ae.ai ar rfl ?_;refine ae.ai ar (x:=sl) rfl ?_;dsimp only;have lF:s.synced<=iI s n:=by unfold iI;(repeat' split);all_goals omega
 have ux:iI s n<=s.b.length:=by unfold iI;(repeat' split);all_goals omega
 have ek:IntKind.i64.wrap (s.synced+(if IntKind.i64.wrap ((sl.2.1:Int) - s.synced)<(if n > 0 then n else 0) then IntKind.i64.wrap ((sl.2.1:Int) - s.synced) else(if n > 0 then n else 0)))=iI s n:=by
  rw[jE,wI (x:=(s.b.length:Int) - s.synced) (by omega) (by omega)];exact wI (x:=iI s n) (by omega) (by omega)
 rw[ek];generalize iI s n=k at *;refine aY.sub (hs.rd.af f1) (by omega) (by omega) hs.cap fun hu=>?_;refine ab.of (za (v:=(sl.1,k.toNat,sl.2.2)) hu (by simp only[List.length_take];omega)) ?_;rintro _ w3 ⟨u,rfl,hu,f3,lV⟩;refine⟨u,rfl,?_⟩;have ba:=f3.af ar;have kK:=cj ar;have cS:=hu.len;rw[List.length_take] at cS;refine ae.ai ba rfl ?_;have fin:∀ (K:World->Prop) (w5:World) (bs:List UInt8),bs.length=k.toNat->Fr (au u) w3 w5->bR w5 u bs->(∀ w',j0 w b g { s with b:=bs,synced:=k,dead:=false,lit:=false,lU:=0 } w'->K w')->ay ((⟨b,0,none⟩:Addr).add 0) (.slice u.1 u.2.1 u.2.2) w5 (fun bq=>ay ((⟨b,0,none⟩:Addr).add 2) (.int .i64 k) bq (fun bA=>ay ((⟨b,0,none⟩:Addr).add 5) (.bool false) bA (fun dW=>ay ((⟨b,0,none⟩:Addr).add 3) (.bool false) dW (fun bU=>ay ((⟨b,0,none⟩:Addr).add 4) (.int .i64 0) bU K)))):=fun K w5 bs VP f5 mE hK=>by
  have lQ:¬ au u b:=fun t=>by have:=lV b t;omega
  refine ay.ai (f5.ag ba lQ) (by simp) rfl fun w6 gI f6 _=>?_;refine ay.ai gI (by simp) rfl fun w7 hU f7 _=>?_;refine ay.ai hU (by simp) rfl fun w8 jW f8 _=>?_;refine ay.ai jW (by simp) rfl fun w9 nF f9 _=>?_;refine ay.ai nF (by simp) rfl fun aK rr f10 _=>?_;have ft:Fr (only b) w5 aK:=(((f6.trans f7).trans f8).trans f9).trans f10;have hy:bR aK u bs:=mE.ag ft (fun k U t=>lQ (by have:k=b:=t;rw[<- this];exact U));have fr:Fr (only b) w aK:=((f1.trans f3).comp f5 (fun x hx t=>by have:=lV x t;have:=f1.size;omega)).eG ft;obtain⟨gy,zh,lr,zi⟩:=Gi (b:=b) (n:=w.heap.size) (cj rr) hy (fun k U=>⟨Nat.le_trans f1.size (lV k U),fun t=>lQ (t ▸ U)⟩);refine hK _ ⟨fr,gy,zh.imp id .inr,⟨u,rr,hy,zi⟩,lr,?_⟩;refine⟨?_,k2,k3,?_,?_⟩<;>dsimp only<;>omega
 unfold sR;refine aa.dec (fun hq=>?_) (fun hq=>?_)
 ·rw[if_pos hq,wI (x:=k - 1) (by omega) (by omega)]
  have hx:(s.b.take k.toNat)[(k - 1).toNat]? = some (s.b.getD (k - 1).toNat 0):=by
   rw[List.getElem?_take_of_lt (by omega),List.getD_eq_getElem?_getD,List.getElem?_eq_getElem (by omega)];rfl
  refine aD.ld hu (by omega) (by omega) (x:=((s.b.getD (k - 1).toNat 0).toNat:Int)) (by rw[List.getElem?_map,hx];rfl) ?_;rw[ME];refine aD.st hu (by omega) (by omega) rfl fun w5 mE f5 _=>?_;refine fin _ w5 ((s.b.take k.toNat).set (k - 1).toNat (rq (s.b.getD (k - 1).toNat 0) p)) (by simp;omega) f5 (by unfold bR;rw[List.map_set];exact mE) fun w' wK=>⟨rfl,wK⟩
 ·rw[if_neg hq]
  exact fin _ w3 (s.b.take k.toNat) (by simp;omega) (Fr.refl _ _) hu fun w' wK=>⟨rfl,wK⟩
def C41  (w:World) (K:Value->World->Prop):Prop:=
 aq (.cells #[.int .i64 (-1),.int .i64 (-1),.int .u64 0] 187) w (fun g1 w2=>K (.pointer (some (ad g1))) w2)
def pl41:aB:=.auto
theorem c41  (w:World) (K:Value->World->Prop) (h:C41  w K):Ret Tryz.prog 41 #[] w K:=aC (by kernel_rfl) Tryz.func41 (p:=pl41) (Eq.mpr (by kernel_rfl) h)
def rv (w:World)(b:Nat)(e h:Int)(S:Int->Bool):Prop:=
 ∃ x:Nat,w.heap[b]? = some (.cells #[.int .i64 e,.int .i64 h,.int .u64 (x:Int)] 187 (0,0))/\x<2 ^ 64 /\
  -1<=e/\-1<=h/\(0<=e->0<=h)/\e<=9223372036854775807/\h<=9223372036854775807/\(∀ i:Nat,i<64->x.testBit i=S (h - i))/\∀ m,h<m->S m=false
theorem rv.ag {w w':World}{b:Nat}{e h:Int}{S:Int->Bool}(hw:rv w b e h S){T:Nat->Prop}(f:Fr T w w')(hn:¬ T b):rv w' b e h S:=by
 obtain⟨x,hb,r⟩:=hw;exact⟨x,f.ag hb hn,r⟩
theorem rv.lt {w:World}{b:Nat}{e h:Int}{S:Int->Bool}(hw:rv w b e h S):b<w.heap.size:=by
 obtain⟨x,hb,r⟩:=hw;exact cj hb
theorem rv.ne {w:World}{b:Nat}{e h:Int}{S:Int->Bool}(hw:rv w b e h S){c:Nat}{o:Obj}(hc:w.heap[c]? = some o)(ho:∀ cs fr,o≠.cells cs 187 fr):b≠c:=by
 obtain⟨x,hb,r⟩:=hw;intro e;subst e;rw[hb] at hc;exact ho _ _ (Option.some.inj hc).symm
theorem VQ (w:World):Ret Tryz.prog 41 #[] w fun r w'=>∃ b,w.heap.size<=b/\r=.pointer (some ⟨b,0,none⟩)/\Fr none1 w w'/\rv w' b (-1) (-1) (fun _=>false):=by
 refine c41 w _ (aq.of fun g w1 hg hb hf hs=>⟨g,by omega,rfl,hf,0,hb,by decide,by omega,by omega,by omega,by omega,by omega,fun i _=>by simp,fun _ _=>rfl⟩)
theorem VR {s:bM}{x:List UInt8}(hl:s.lit=false)(hd:s.dead=false)(h:(x.length:Int)<=s.cp - s.b.length):(fo s x).2=0/\(fo s x).1.b=s.b++x/\(fo s x).1.cp=s.cp/\(fo s x).1.synced=s.synced/\(fo s x).1.lit=false/\(fo s x).1.dead=false:=by
 unfold fo cY;rw[hl,hd];simp only[Bool.false_and,Bool.false_eq_true,if_false,if_true];rw[if_neg (by omega)];exact⟨rfl,rfl,rfl,rfl,rfl,rfl⟩
theorem VS {s:bM}(hl:s.lit=false)(hd:s.dead=false):(ia s).2=0/\(ia s).1.b=s.b/\(ia s).1.cp=s.cp/\(ia s).1.synced=s.b.length/\(ia s).1.lit=false/\(ia s).1.dead=false:=by
 unfold ia cY;rw[hl,hd];refine⟨rfl,rfl,rfl,rfl,rfl,rfl⟩
theorem sS (D:Nat->Bool)(i:Nat):rS D i i=true:=by unfold rS;simp
theorem eR (D:Nat->Bool){i j:Nat}(h:j≠i):rS D i j=D j:=by
 unfold rS;have:Nat.beq j i=false:=by rw[<- Bool.not_eq_true];intro t;exact h (Nat.eq_of_beq_eq_true t)
 rw[this]
theorem Gk {z:Int}(h0:0<=z)(h1:z<=255):Value.int .u8 z=bc (toByte z):=by
 unfold bc toByte;rw[UInt8.toNat_ofNat',Nat.mod_eq_of_lt (by omega)]
 congr 1;omega
def MF (w:World)(v:Sl):Prop:=v.2.2<=9223372036854775807/\∃ cs:List UInt8,bR w (v.1,v.2.2,v.2.2) cs
theorem VT {w:World}{x y:Sl}{ys:List UInt8}(yW:x.2.1=0)(sN:x.2.2=0)(hx:bR w x [])(hy:aY w y ys)(hl:ys.length<=100000000):
  ∃ (v:Sl) (w':World),(Builtin.append_ #[22,22] 22 #[.slice x.1 x.2.1 x.2.2,.slice y.1 y.2.1 y.2.2]).run Tryz.prog w=.ok (.slice v.1 v.2.1 v.2.2) w'/\bR w' v ys/\Fr none1 w w' /\
   (∀ k,au v k->au x k\/w.heap.size<=k)/\MF w' v:=by
 obtain⟨hu,⟨i,hi,hs,hz,pV⟩,hc,nW⟩:=mm;have gM:=hy.len;unfold Builtin.append_;have lI:∀ w,(sizeOf 5).run Tryz.prog w=.ok 1 w:=fun w=>by rw[jK hi,hs]
 have hlen:∀ w,(Builtin.lenOf (.slice y.1 y.2.1 y.2.2)).run Tryz.prog w=.ok y.2.1 w:=fun w=>rfl;simp only[Sem.run_bind,under hu,Result.andThen_ok,lI,List.getElem?_toArray,List.getElem?_cons_zero,List.getElem?_cons_succ,Sem.run_pure,Bool.false_eq_true,if_false,hlen]
 by_cases si:x.2.1+y.2.1<=x.2.2
 ·rw[if_pos si]
  have tL:y.2.1=0:=by omega
  have tM:ys=[]:=by rw[tL] at gM;exact List.eq_nil_of_length_eq_zero gM.symm
  subst tM;simp only[Bool.not_false,if_true,Sem.run_bind,db.first hy,Result.andThen_ok]
  have sg:MF w x:=⟨by omega,[],by
   rcases hx with⟨rfl,_⟩ | ⟨g,off,cs,h1,h2,h3,h4,h5,h6⟩
   ·exact .inl ⟨rfl,rfl⟩
   ·exact .inr ⟨g,off,cs,h1,h2,Nat.le_refl _,h4,by simp[sN],h6⟩⟩
  rcases MG:x.1 with _ | a
  ·refine⟨x,w,?_,hx,Fr.refl _ _,fun k U=>.inl U,sg⟩
   have:(x.2.1+y.2.1)=0:=by omega
   simp[MG,yW,tL,sN]
  ·refine⟨x,w,?_,hx,Fr.refl _ _,fun k U=>.inl U,sg⟩
   simp only[List.map_nil,Sem.run_bind];rw[show(storeCells (a.add (x.2.1 * 1)) (([]:List Value).toArray).toList 0).run Tryz.prog w=.ok () w from rfl];simp only[Result.andThen_ok,Sem.run_pure,MG,tL,Nat.add_zero]
 ·rw[if_neg si]
  have np:∀ w,(typeInfo 5).run Tryz.prog w=.ok i w:=fun w=>by simp[typeInfo,hi]
  have vw:Builtin.nextslicecap (x.2.1+y.2.1) x.2.2 * i.bytes<=2 ^ 48:=by
   rw[pV];have:=Ji (n:=x.2.1+y.2.1) (c:=x.2.2) (by omega);omega
  have kf:¬ (((x.2.1+y.2.1:Nat):Int) > IntKind.i64.max/\(False\/i.bytes=0)):=by
   rintro⟨_,h | h⟩
   ·exact h
   ·omega
  simp only[Sem.run_bind,np,Result.andThen_ok,Sem.run_ite];rw[if_neg kf,if_neg (show ¬ (Builtin.nextslicecap (x.2.1+y.2.1) x.2.2 * i.bytes > 2 ^ 48) by omega)];simp only[run_choose,Question.forced,Bool.false_eq_true,if_false,Result.andThen_ok,run_askRoom];generalize tN:(Question.appendCap (x.2.1+y.2.1) x.2.2 5).cut _=nc;have dh:x.2.1+y.2.1<=nc:=by rw[<- tN];simp[Question.cut]
  have hle:nc<=9223372036854775807:=by
   rw[<- tN];simp only[Question.cut];have:=Nat.mod_lt (w.tape w.drawn (Question.appendCap (x.2.1+y.2.1) x.2.2 5)) (show 2 ^ 63 - (x.2.1+y.2.1) > 0 by omega);omega
  have f1:=vr w;rw[aD.first (hx.af f1)]
  simp only[Result.andThen_ok,Bool.not_false,if_true];rw[db.first (hy.af f1)]
  simp only[Result.andThen_ok,pO hi hz,newRow,Sem.run_bind,run_newObj,Sem.run_pure];have tO:Builtin.zeroCells (Value.int .u8 0).cells (nc - (x.2.1+y.2.1))=((List.replicate (nc - (x.2.1+y.2.1)) (0:UInt8)).map bc).toArray:=by
   unfold Builtin.zeroCells;apply Array.ext
   ·simp[Value.cells]
   ·intro j h1 h2
    simp[Value.cells,Nat.mod_one,bc]
  have uG:∀ (h:Array Obj) (o:Obj),(h.push o)[h.size]? = some o:=fun h o=>Array.getElem?_push_size ..;have hcs:(([]:List UInt8).map bc).toArray++(ys.map bc).toArray++Builtin.zeroCells (Value.int .u8 0).cells (nc - (x.2.1+y.2.1))=((ys++List.replicate (nc - (x.2.1+y.2.1)) (0:UInt8)).map bc).toArray:=by rw[tO];simp
  refine⟨(some ⟨w.heap.size,0,none⟩,x.2.1+y.2.1,nc),_,rfl,.inr ⟨w.heap.size,0,_,rfl,uG _ _,dh,?_,by simp;omega,fun j hj=>?_⟩,
   ((f1.trans (lH _ _)).mono fun _ _ t=>t.elim),fun k ⟨a,ha,U⟩=>.inr (by injection ha with ha;subst ha;subst U;exact Nat.le_refl _),
   hle,ys++List.replicate (nc - (x.2.1+y.2.1)) 0,.inr ⟨w.heap.size,0,_,rfl,uG _ _,Nat.le_refl _,?_,by simp;omega,fun j hj=>?_⟩⟩
  ·rw[hcs];simp;omega
  ·rw[hcs,Nat.zero_add]
   simp only[List.length_map] at hj;simp[List.getElem?_append,hj]
  ·rw[hcs];simp;omega
  ·rw[hcs,Nat.zero_add];simp
theorem VU (w:World):∃ w',(Instr.buildSlice 22 0 #[]).run Tryz.prog w=.ok (.slice (some ⟨w.heap.size,0,none⟩) 0 0) w'/\w'.heap[w.heap.size]? = some (.cells #[] 5 (0,0))/\Fr none1 w w':=by
 obtain⟨hu,⟨i,hi,hs,hz,pV⟩,hc,nW⟩:=mm;have lI:∀ w,(sizeOf 5).run Tryz.prog w=.ok 1 w:=fun w=>by rw[jK hi,hs]
 unfold Instr.buildSlice;simp only[Sem.run_bind,under hu,Result.andThen_ok,lI];rw[if_neg (by omega)];simp only[Nat.zero_mul,if_true,Sem.run_bind,Sem.run_pure,Result.andThen_ok];simp only[Instr.fill,newRow,Sem.run_bind,run_newObj,Result.andThen_ok,Sem.run_pure];exact⟨_,rfl,by simp,lH _ _⟩
def C145 (p0:Option Addr)(aI aN:Nat)(w:World)(K:Value->World->Prop):Prop:=
 bj (Int×Int×Unit) (fun _ s1 w2 gr=>aa (decide (s1.2.1<(aI:Int)))
 (bK p0 aI s1.2.1 1 (fun a4=>ae (.int .u8) a4 w2 (fun(x5:Int)=>gr (IntKind.u8.wrap ((BitVec.ofInt 8 s1.1 ^^^ BitVec.ofInt 8 x5).toNat:Int),IntKind.i64.wrap (s1.2.1+1),()) w2)))
 (K (.int .u8 s1.1) w2))
 (150,0,()) w
def pl145:aB:=(.seq .auto (.seq .auto (.seq (.seq .auto (.block (.loop [(3,.one (.int .u8)),(8,.one (.int .i64))] .auto))) .auto)))
theorem c145 (p0:Option Addr)(aI aN:Nat)(w:World)(K:Value->World->Prop)(h:C145 p0 aI aN w K):Ret Tryz.prog 145 #[.slice p0 aI aN] w K:=aC (by kernel_rfl) Tryz.func145 (p:=pl145) (Eq.mpr (by kernel_rfl) h)
def C95 (p0:Option Addr)(aI aN:Nat)(w:World)(K:Value->World->Prop):Prop:=
 lA 8 (aw Tryz.prog (Instr.buildSlice 22 2 #[(0,.int .u8 (IntKind.u8.wrap (Int.fdiv (aI:Int) (2 ^ (min (Int.toNat 8) 64))))),(1,.int .u8 (IntKind.u8.wrap (aI:Int)))]) w (.v (.one .ah)) (fun(x1:ao) w2=>aw Tryz.prog (Builtin.append_ #[22,22] 22 #[.slice x1.1 x1.2.1 x1.2.2,.slice p0 aI aN]) w2 (.v (.one .ah)) (fun(x3:ao) w4=>ab Tryz.prog 145 #[.slice x3.1 x3.2.1 x3.2.2] w4 (.v (.one (.int .u8))) (fun(x5:Int) w6=>aw Tryz.prog (Instr.buildSlice 22 1 #[(0,.int .u8 x5)]) w6 (.v (.one .ah)) (fun(x7:ao) w8=>aw Tryz.prog (Builtin.append_ #[22,22] 22 #[.slice x3.1 x3.2.1 x3.2.2,.slice x7.1 x7.2.1 x7.2.2]) w8 (.v (.one .ah)) (fun(x9:ao) aK=>K (.slice x9.1 x9.2.1 x9.2.2) aK))))))
def pl95:aB:=.auto
theorem c95 (p0:Option Addr)(aI aN:Nat)(w:World)(K:Value->World->Prop)(h:C95 p0 aI aN w K):Ret Tryz.prog 95 #[.slice p0 aI aN] w K:=aC (by kernel_rfl) Tryz.func95 (p:=pl95) (Eq.mpr (by kernel_rfl) h)
def C87 (p0:Option Addr)(aI aN:Nat)(w:World)(K:Value->World->Prop):Prop:=
 aa (decide ((aI:Int)<2))
 (K (.tuple #[.slice none 0 0,.slice p0 aI aN,.bool false]) w)
 (nP w (fun C1=>bK p0 aI 0 1 (fun a2=>fJ C1 2 [] (.v (.one (.int .u8))) (fun w4 k5=>ae (.int .u8) a2 w4 (fun(x6:Int)=>k5 (.int .u8 x6) w4))
 (fun(x3:Int)=>fJ C1 3 [2] (.v (.one (.int .i64))) (fun w8 k9=>k9 (.int .i64 (IntKind.i64.wrap x3)) w8)
 (fun(x7:Int)=>lA 8 (bK p0 aI 1 1 (fun uh=>fJ C1 7 [] (.v (.one (.int .u8))) (fun aO VV=>ae (.int .u8) uh aO (fun(bn:Int)=>VV (.int .u8 bn) aO))
 (fun(aZ:Int)=>fJ C1 8 [7] (.v (.one (.int .i64))) (fun br VW=>VW (.int .i64 (IntKind.i64.wrap aZ)) br)
 (fun(bm:Int)=>(∀ bx,C1 (mem [2,3,7,8]) bx->nP bx (fun C19=>aa (decide ((IntKind.i64.wrap ((BitVec.ofInt 64 (IntKind.i64.wrap (x7 * 2 ^ (min (Int.toNat 8) 64))) ||| BitVec.ofInt 64 bm).toNat:Int)) > 4000))
 (rT C19 15 (rT C19 20 ((∀ bz,C19 (mem [15,20]) bz->K (.tuple #[.slice none 0 0,.slice p0 aI aN,.bool false]) bz))))
 (aa (decide ((aI:Int)<(IntKind.i64.wrap ((IntKind.i64.wrap (2+(IntKind.i64.wrap ((BitVec.ofInt 64 (IntKind.i64.wrap (x7 * 2 ^ (min (Int.toNat 8) 64))) ||| BitVec.ofInt 64 bm).toNat:Int))))+1))))
 (rT C19 15 (rT C19 20 ((∀ bq,C19 (mem [15,20]) bq->K (.tuple #[.slice none 0 0,.slice p0 aI aN,.bool false]) bq))))
 (bK p0 aI (IntKind.i64.wrap (2+(IntKind.i64.wrap ((BitVec.ofInt 64 (IntKind.i64.wrap (x7 * 2 ^ (min (Int.toNat 8) 64))) ||| BitVec.ofInt 64 bm).toNat:Int)))) 1 (fun Fv=>fJ C19 15 [] (.v (.one (.int .u8))) (fun bU VX=>ae (.int .u8) Fv bU (fun(dk:Int)=>VX (.int .u8 dk) bU))
 (fun(cc:Int)=>eu p0 aN 0 (IntKind.i64.wrap (2+(IntKind.i64.wrap ((BitVec.ofInt 64 (IntKind.i64.wrap (x7 * 2 ^ (min (Int.toNat 8) 64))) ||| BitVec.ofInt 64 bm).toNat:Int)))) aN 1 (fun yN yO c29=>fJ C19 20 [] (.v (.one (.int .u8))) (fun eK VY=>ab Tryz.prog 145 #[.slice yN yO c29] eK (.v (.one (.int .u8))) (fun(dH:Int) fT=>VY (.int .u8 dH) fT))
 (fun(dX:Int)=>(∀ fz,C19 (mem [15,20]) fz->aa (cc != dX)
 (K (.tuple #[.slice none 0 0,.slice p0 aI aN,.bool false]) fz)
 (nP fz (fun C36=>eu p0 aN 2 (IntKind.i64.wrap (2+(IntKind.i64.wrap ((BitVec.ofInt 64 (IntKind.i64.wrap (x7 * 2 ^ (min (Int.toNat 8) 64))) ||| BitVec.ofInt 64 bm).toNat:Int)))) aN 1 (fun a37 VZ c39=>fJ C36 4 [] (.v (.one .ah)) (fun kL V4=>ab Tryz.prog 54 #[.slice a37 VZ c39] kL (.v (.one .ah)) (fun(jx:ao) fU=>V4 (.slice jx.1 jx.2.1 jx.2.2) fU))
 (fun(iw:ao)=>eu p0 aN (IntKind.i64.wrap ((IntKind.i64.wrap (2+(IntKind.i64.wrap ((BitVec.ofInt 64 (IntKind.i64.wrap (x7 * 2 ^ (min (Int.toNat 8) 64))) ||| BitVec.ofInt 64 bm).toNat:Int))))+1)) aI aN 1 (fun V5 V6 c47=>(∀ gu,C36 (mem [4]) gu->K (.tuple #[.slice iw.1 iw.2.1 iw.2.2,.slice V5 V6 c47,.bool true]) gu))))))))))))))))))))))))
def pl87:aB:=(.seq .auto (.seq .auto (.seq (.any [(2,.v (.one (.int .u8))),(3,.v (.one (.int .i64))),(7,.v (.one (.int .u8))),(8,.v (.one (.int .i64)))]) (.seq (.seq (.any [(15,.v (.one (.int .u8))),(20,.v (.one (.int .u8)))]) .auto) (.seq (.any [(4,.v (.one .ah))]) .auto)))))
theorem c87 (p0:Option Addr)(aI aN:Nat)(w:World)(K:Value->World->Prop)(h:C87 p0 aI aN w K):Ret Tryz.prog 87 #[.slice p0 aI aN] w K:=aC (by kernel_rfl) Tryz.func87 (p:=pl87) (Eq.mpr (by kernel_rfl) h)
def C39 (p0:Addr)(w:World)(K:Value->World->Prop):Prop:=
 ab Tryz.prog 86 #[.pointer (some p0)] w (.v (.one .bool)) (fun(x1:Bool) w2=>aa x1
 (K (.tuple #[.pointer none,.int .i64 11]) w2)
 (aq (.cells #[.pointer (some p0),.slice none 0 0,.bool false] 181) w2 (fun g3 w4=>ab Tryz.prog 17 #[.pointer (some p0)] w4 (.v (.one .ah)) (fun(x5:ao) w6=>bj (ao×Unit) (fun _ s7 w8 Ee=>ab Tryz.prog 87 #[.slice s7.1.1 s7.1.2.1 s7.1.2.2] w8 (.aP [.one .ah,.one .ah,.one .bool]) (fun(aS:ao×ao×Bool×Unit) aR=>aa (!aS.2.2.1)
 (aa (decide ((s7.1.2.1:Int) > 0))
 (ab Tryz.prog 88 #[.pointer (some p0),.int .i64 (IntKind.i64.wrap ((x5.2.1:Int) - (s7.1.2.1:Int)))] aR (.v (.one (.int .i64))) (fun(bw:Int) aW=>aa (bw != 0)
 (K (.tuple #[.pointer none,.int .i64 bw]) aW)
 (K (.tuple #[.pointer (some (ad g3)),.int .i64 0]) aW)))
 (K (.tuple #[.pointer (some (ad g3)),.int .i64 0]) aR))
 (ae .ah ((ad g3).add 1) aR (fun(bn:ao)=>aw Tryz.prog (Instr.buildSlice 37 1 #[(0,.slice aS.1.1 aS.1.2.1 aS.1.2.2)]) aR (.v (.one .ah)) (fun(bm:ao) br=>aw Tryz.prog (Builtin.append_ #[37,37] 37 #[.slice bn.1 bn.2.1 bn.2.2,.slice bm.1 bm.2.1 bm.2.2]) br (.v (.one .ah)) (fun(aX:ao) bx=>ay ((ad g3).add 1) (.slice aX.1 aX.2.1 aX.2.2) bx (fun bO=>Ee ((aS.2.1.1,aS.2.1.2.1,aS.2.1.2.2),()) bO)))))))
 ((x5.1,x5.2.1,x5.2.2),()) w6))))
def pl39:aB:=(.seq .auto (.seq .auto (.seq .auto (.seq .auto (.seq .auto (.seq (.block (.loop [(6,.one .ah)] .auto)) .auto))))))
theorem c39 (p0:Addr)(w:World)(K:Value->World->Prop)(h:C39 p0 w K):Ret Tryz.prog 39 #[.pointer (some p0)] w K:=aC (by kernel_rfl) Tryz.func39 (p:=pl39) (Eq.mpr (by kernel_rfl) h)
def C67 (p0:Addr)(w:World)(K:Value->World->Prop):Prop:=
 ae .bool (p0.add 2) w (fun(x1:Bool)=>K (.bool x1) w)
def pl67:aB:=.auto
theorem c67 (p0:Addr)(w:World)(K:Value->World->Prop)(h:C67 p0 w K):Ret Tryz.prog 67 #[.pointer (some p0)] w K:=aC (by kernel_rfl) Tryz.func67 (p:=pl67) (Eq.mpr (by kernel_rfl) h)
def C44 (p0:Addr)(p1:Option Addr)(ct cO:Nat)(w:World)(K:Value->World->Prop):Prop:=
 bQ (Unit) (fun J1=>ae .bool (p0.add 2) w (fun(x4:Bool)=>aa x4
 (ay (p0.add 2) (.bool true) w (fun w5=>J1 (()) w5))
 (ae .ptr (p0.add 0) w (fun(x6:Option Addr)=>ab Tryz.prog 86 #[.pointer x6] w (.v (.one .bool)) (fun(x7:Bool) w8=>ay (p0.add 2) (.bool x7) w8 (fun w9=>J1 (()) w9))))))
 (fun _ s2 w3=>ae .bool (p0.add 2) w3 (fun(aS:Bool)=>aa aS
 (K (.int .i64 11) w3)
 (aa (decide ((ct:Int) > 4000))
 (K (.int .i64 5) w3)
 (nP w3 (fun C11=>fJ C11 3 [] (.v (.one .ptr)) (fun aW V7=>ae .ptr (p0.add 0) aW (fun(bm:Option Addr)=>V7 (.pointer bm) aW))
 (fun(bw:Option Addr)=>fJ C11 5 [] (.v (.one .ah)) (fun cD V8=>ab Tryz.prog 95 #[.slice p1 ct cO] cD (.v (.one .ah)) (fun(bt:ao) bz=>V8 (.slice bt.1 bt.2.1 bt.2.2) bz))
 (fun(aT:ao)=>fJ C11 6 [3,5] (.v (.one (.int .i64))) (fun bA V9=>ab Tryz.prog 94 #[.pointer bw,.slice aT.1 aT.2.1 aT.2.2] bA (.v (.one (.int .i64))) (fun(cN:Int) dn=>V9 (.int .i64 cN) dn))
 (fun(b9:Int)=>(∀ bZ,C11 (mem [3,5,6]) bZ->aa (b9==0)
 (ae .ptr (p0.add 0) bZ (fun(cE:Option Addr)=>ab Tryz.prog 96 #[.pointer cE] bZ (.v (.one (.int .i64))) (fun(eX:Int) eg=>aa (eX != 0)
 (ay (p0.add 2) (.bool (eX==11)) eg (fun cn=>K (.int .i64 eX) cn))
 (nP eg (fun C31=>fJ C31 4 [] (.v (.one .ah)) (fun dy Wa=>ae .ah (p0.add 1) dy (fun(de:ao)=>Wa (.slice de.1 de.2.1 de.2.2) dy))
 (fun(dS:ao)=>fJ C31 6 [] (.v (.one .ah)) (fun dq Wb=>ab Tryz.prog 54 #[.slice p1 ct cO] dq (.v (.one .ah)) (fun(eY:ao) ef=>Wb (.slice eY.1 eY.2.1 eY.2.2) ef))
 (fun(dO:ao)=>fJ C31 7 [6] (.v (.one .ah)) (fun eU Wc=>aw Tryz.prog (Instr.buildSlice 37 1 #[(0,.slice dO.1 dO.2.1 dO.2.2)]) eU (.v (.one .ah)) (fun(kn:ao) lM=>Wc (.slice kn.1 kn.2.1 kn.2.2) lM))
 (fun(fN:ao)=>fJ C31 8 [4,6,7] (.v (.one .ah)) (fun kx Wd=>aw Tryz.prog (Builtin.append_ #[37,37] 37 #[.slice dS.1 dS.2.1 dS.2.2,.slice fN.1 fN.2.1 fN.2.2]) kx (.v (.one .ah)) (fun(fR:ao) mR=>Wd (.slice fR.1 fR.2.1 fR.2.2) mR))
 (fun(mv:ao)=>fJ C31 11 [4,6,7,8] (.aP []) (fun kq We=>ay (p0.add 1) (.slice mv.1 mv.2.1 mv.2.2) kq (fun jV=>We undef jV))
 (fun(ko:Unit)=>(∀ iQ,C31 (mem [4,6,7,8,11]) iQ->K (.int .i64 0) iQ)))))))))))
 (aa (b9 != 0)
 (ay (p0.add 2) (.bool (b9==11)) bZ (fun pd=>K (.int .i64 b9) pd))
 (nP bZ (fun C57=>fJ C57 4 [] (.v (.one .ah)) (fun og Wf=>ae .ah (p0.add 1) og (fun(lu:ao)=>Wf (.slice lu.1 lu.2.1 lu.2.2) og))
 (fun(ny:ao)=>fJ C57 6 [] (.v (.one .ah)) (fun su Wg=>ab Tryz.prog 54 #[.slice p1 ct cO] su (.v (.one .ah)) (fun(oh:ao) uQ=>Wg (.slice oh.1 oh.2.1 oh.2.2) uQ))
 (fun(xP:ao)=>fJ C57 7 [6] (.v (.one .ah)) (fun zk Wh=>aw Tryz.prog (Instr.buildSlice 37 1 #[(0,.slice xP.1 xP.2.1 xP.2.2)]) zk (.v (.one .ah)) (fun(qW:ao) qX=>Wh (.slice qW.1 qW.2.1 qW.2.2) qX))
 (fun(qV:ao)=>fJ C57 8 [4,6,7] (.v (.one .ah)) (fun qd Wi=>aw Tryz.prog (Builtin.append_ #[37,37] 37 #[.slice ny.1 ny.2.1 ny.2.2,.slice qV.1 qV.2.1 qV.2.2]) qd (.v (.one .ah)) (fun(uR:ao) vX=>Wi (.slice uR.1 uR.2.1 uR.2.2) vX))
 (fun(qY:ao)=>fJ C57 11 [4,6,7,8] (.aP []) (fun sy Wj=>ay (p0.add 1) (.slice qY.1 qY.2.1 qY.2.2) sy (fun Gl=>Wj undef Gl))
 (fun(BQ:Unit)=>(∀ BR,C57 (mem [4,6,7,8,11]) BR->K (.int .i64 0) BR))))))))))))))))))
def pl44:aB:=(.seq .auto (.join [] .auto (.seq .auto (.seq (.any [(3,.v (.one .ptr)),(5,.v (.one .ah)),(6,.v (.one (.int .i64)))]) (.seq .auto (.seq .auto (.seq (.any [(4,.v (.one .ah)),(6,.v (.one .ah)),(7,.v (.one .ah)),(8,.v (.one .ah)),(11,.aP [])]) .auto)))))))
theorem c44 (p0:Addr)(p1:Option Addr)(ct cO:Nat)(w:World)(K:Value->World->Prop)(h:C44 p0 p1 ct cO w K):Ret Tryz.prog 44 #[.pointer (some p0),.slice p1 ct cO] w K:=aC (by kernel_rfl) Tryz.func44 (p:=pl44) (Eq.mpr (by kernel_rfl) h)
def C42 (p0:Addr)(w:World)(K:Value->World->Prop):Prop:=
 ae .ah (p0.add 1) w (fun(x1:ao)=>bj (ao×Int×Unit) (fun _ s2 w3 Gm=>aa (decide (s2.2.1<(x1.2.1:Int)))
 (bK x1.1 x1.2.1 s2.2.1 1 (fun a5=>ae .ah a5 w3 (fun(x6:ao)=>ab Tryz.prog 54 #[.slice x6.1 x6.2.1 x6.2.2] w3 (.v (.one .ah)) (fun(x7:ao) w8=>aw Tryz.prog (Instr.buildSlice 37 1 #[(0,.slice x7.1 x7.2.1 x7.2.2)]) w8 (.v (.one .ah)) (fun(x9:ao) aK=>aw Tryz.prog (Builtin.append_ #[37,37] 37 #[.slice s2.1.1 s2.1.2.1 s2.1.2.2,.slice x9.1 x9.2.1 x9.2.2]) aK (.v (.one .ah)) (fun(aZ:ao) aO=>Gm ((aZ.1,aZ.2.1,aZ.2.2),IntKind.i64.wrap (s2.2.1+1),()) aO))))))
 (K (.slice s2.1.1 s2.1.2.1 s2.1.2.2) w3))
 ((none,0,0),0,()) w)
def pl42:aB:=(.seq .auto (.seq .auto (.seq (.seq .auto (.block (.loop [(3,.one .ah),(11,.one (.int .i64))] .auto))) .auto)))
theorem c42 (p0:Addr)(w:World)(K:Value->World->Prop)(h:C42 p0 w K):Ret Tryz.prog 42 #[.pointer (some p0)] w K:=aC (by kernel_rfl) Tryz.func42 (p:=pl42) (Eq.mpr (by kernel_rfl) h)
theorem MH:gL Tryz.prog 37 22 1 (.slice none 0 0) 24:=⟨Tryz.underlying37,⟨Tryz.t22,by kernel_rfl,rfl,rfl,rfl⟩,rfl,by decide⟩
def Gn (u:Sl):Value:=.slice u.1 u.2.1 u.2.2
def zl:Sl:=(none,0,0)
structure il (w:World)(S:Nat->Prop)(v:Sl)(rs:List (List UInt8)):Prop where
 out:∃ us:List Sl,aD w 22 1 v (us.map Gn)/\us.length=rs.length/\(∀ i,i<us.length->aY w (us.getD i zl) (rs.getD i []))/\∀ u∈us,(∀ k,au u k->S k/\¬ au v k)/\u.2.1<=u.2.2
 own:∀ k,au v k->S k
 lt:∀ k,S k->k<w.heap.size
theorem il.ag {w w':World}{S:Nat->Prop}{v:Sl}{rs:List (List UInt8)}(h:il w S v rs){T:Nat->Prop}(f:Fr T w w')(hT:∀ k,S k->¬ T k):il w' S v rs:=by
 obtain⟨⟨us,a,b,c,d⟩,o,l⟩:=h;refine⟨⟨us,a.ag f (fun k U=>hT k (o k U)),b,fun i hi=>(c i hi).ag f (fun k U=>?_),d⟩,o,fun k U=>Nat.lt_of_lt_of_le (l k U) f.size⟩;rw[List.getD_eq_getElem?_getD,List.getElem?_eq_getElem hi] at U;exact hT k ((d _ (List.getElem_mem hi)).1 k U).1
theorem il.af {w w':World}{S:Nat->Prop}{v:Sl}{rs:List (List UInt8)}(h:il w S v rs)(f:Fr none1 w w'):il w' S v rs:=h.ag f (fun _ _ t=>t)
theorem il.len {w:World}{S:Nat->Prop}{v:Sl}{rs:List (List UInt8)}(h:il w S v rs):v.2.1=rs.length:=by
 obtain⟨⟨us,a,b,_⟩,_⟩:=h;have:=a.len;simp at this;omega
theorem zm (w:World)(S:Nat->Prop)(hS:∀ k,S k->k<w.heap.size):il w S (none,0,0) []:=
 ⟨⟨[],.inl ⟨rfl,rfl⟩,rfl,fun i hi=>by simp at hi,fun u hu=>by simp at hu⟩,(fun k ⟨a,ha,_⟩=>by cases ha),hS⟩
theorem il.snoc {w:World}{S:Nat->Prop}{v u:Sl}{rs:List (List UInt8)}{b:List UInt8}(h:il w S v rs)(hu:aY w u b)(zo:u.2.1<=u.2.2)(cS:∀ k,au u k->k<w.heap.size/\¬ S k)(hl:rs.length<=1000000):
  ∃ (y:Sl) (w2:World) (z:Sl) (w3:World),(Instr.buildSlice 37 1 #[(0,.slice u.1 u.2.1 u.2.2)]).run Tryz.prog w=.ok (.slice y.1 y.2.1 y.2.2) w2/\Fr none1 w w2 /\
   (Builtin.append_ #[37,37] 37 #[.slice v.1 v.2.1 v.2.2,.slice y.1 y.2.1 y.2.2]).run Tryz.prog w2=.ok (.slice z.1 z.2.1 z.2.2) w3 /\
   Fr (au v) w w3/\∃ S',(∀ k,S' k->S k\/au u k\/w.heap.size<=k)/\il w3 S' z (rs++[b]):=by
 have cC:=h.len;obtain⟨⟨us,a1,a2,a3,a4⟩,o,l⟩:=h;obtain⟨y,w2,hr,hy,gM,f1,hf⟩:=kX (P:=Tryz.prog) (w:=w) MH (Gn u) rfl;obtain⟨z,w3,fK,hz,hzl,f2,oU⟩:=gb MH 37 (a1.af f1) hy.rd (by simp[Gn,bJ]) (by rw[gM,cC];omega);have f3:Fr (au v) w w3:=f1.eG f2;refine⟨y,w2,z,w3,hr,f1,fK,f3,fun k=>S k\/au u k\/au z k,fun k U=>?_,?_⟩
 ·rcases U with t | t | t
  ·exact .inl t
  ·exact .inr (.inl t)
  ·rcases oU k t with t | t
   ·exact .inl (o k t)
   ·exact .inr (.inr (Nat.le_trans f1.size t))
 ·refine⟨⟨us++[u],?_,by simp[a2],fun i hi=>?_,fun x hx=>⟨fun k U=>?_,?_⟩⟩,fun k U=>.inr (.inr U),fun k U=>?_⟩
  ·rw[List.map_append];exact hz
  ·by_cases BS:i<us.length
   ·rw[Fs _ _ _ BS,Fs _ _ _ (by omega)]
    refine(a3 i BS).ag f3 (fun k U=>?_);rw[List.getD_eq_getElem?_getD,List.getElem?_eq_getElem BS] at U;exact((a4 _ (List.getElem_mem BS)).1 k U).2
   ·have:i=us.length:=by simp at hi;omega
    subst this;rw[LU,a2,LU];exact hu.ag f3 (fun k U t=>(cS k U).2 (o k t))
  ·rcases List.mem_append.1 hx with hx | hx
   ·obtain⟨t1,t2⟩:=(a4 x hx).1 k U
    refine⟨.inl t1,fun t=>?_⟩
    rcases oU k t with t | t
    ·exact t2 t
    ·have:=l k t1;have:=f1.size;omega
   ·simp at hx;subst hx
    refine⟨.inr (.inl U),fun t=>?_⟩
    rcases oU k t with t | t
    ·exact(cS k U).2 (o k t)
    ·have:=(cS k U).1;have:=f1.size;omega
  ·rcases List.mem_append.1 hx with hx | hx
   ·exact(a4 x hx).2
   ·simp at hx;subst hx;exact zo
  ·have s3:=f3.size
   rcases U with t | t | t
   ·have:=l k t;omega
   ·have:=(cS k t).1;omega
   ·exact aD.lt hz t
theorem MI {w:World}{v:Sl}{bs:List UInt8}(h:aY w v bs)(hl:bs.length<=100000000):
  ∃ (u:Sl) (w1:World),Ret Tryz.prog 54 #[.slice v.1 v.2.1 v.2.2] w (fun r w'=>r=.slice u.1 u.2.1 u.2.2/\w1=w')/\bR w1 u bs/\Fr none1 w w1/\∀ k,au u k->w.heap.size<=k:=by
 cases hn:v.1 with
 | none=>
  obtain⟨_,_,he⟩:=h.2.1 hn;refine⟨(none,0,0),w,?_,.inl ⟨rfl,he⟩,Fr.refl _ _,fun k ⟨a,ha,_⟩=>(by cases ha)⟩;refine c54 none v.2.1 v.2.2 w _ ?_;exact aa.t rfl ⟨rfl,rfl⟩
 | some a=>
  obtain⟨w1,hr,ar,f1⟩:=VU w;have hx:bR w1 (some ⟨w.heap.size,0,none⟩,0,0) []:=.inr ⟨w.heap.size,0,#[],rfl,ar,Nat.le_refl _,by simp,by simp,fun i hi=>by simp at hi⟩;obtain⟨u,w2,fK,hu,f2,oU,hq⟩:=VT rfl rfl hx (h.af f1) hl;refine⟨u,w2,?_,hu,f1.trans f2,fun k U=>?_⟩
  ·refine c54 (some a) v.2.1 v.2.2 w _ ?_
   refine aa.f rfl ?_;rw[hn] at fK;exact⟨(some ⟨w.heap.size,0,none⟩,0,0),w1,hr,u,w2,fK,rfl,rfl⟩
  ·rcases oU k U with⟨a,ha,U⟩ | t
   ·injection ha with ha;subst ha;subst U;exact Nat.le_refl _
   ·exact Nat.le_trans f1.size t
theorem Wk (x:UInt8)(p:Int):IntKind.u8.wrap ((BitVec.ofInt 8 (x.toNat:Int) ^^^ BitVec.ofInt 8 p).toNat:Int)=((rq x p).toNat:Int):=by
 have:=ME x p;unfold bc at this;injection this
def jI (x:UInt8)(bs:List UInt8):UInt8:=bs.foldl (fun a c=>rq a (c.toNat:Int)) x
theorem MJ {w:World}{v:Sl}{bs:List UInt8}(h:aY w v bs)(hl:bs.length<=100000000):Ret Tryz.prog 145 #[.slice v.1 v.2.1 v.2.2] w fun r w'=>r=.int .u8 ((jI 150 bs).toNat:Int)/\w=w':=by
 refine c145 v.1 v.2.1 v.2.2 w _ ?_;have cC:=h.len;refine bj.of (fun s w'=>w=w'/\0<=s.2.1/\s.2.1<=v.2.1/\s.1=((jI 150 (bs.take s.2.1.toNat)).toNat:Int)) (fun s _=>(v.2.1 - s.2.1).toNat) ⟨rfl,by dsimp only;omega,by dsimp only;omega,rfl⟩ ?_;rintro _ ⟨x,i,_⟩ _ ⟨rfl,i0,i1,hx⟩;dsimp only at i0 i1 hx ⊢;refine aa.dec (fun aU=>?_) (fun dh=>?_)
 ·refine aY.at h i0 aU ?_
  rw[wI (by omega) (by omega),hx,Wk];refine⟨⟨rfl,by omega,by omega,?_⟩,by omega⟩;rw[show(i+1).toNat=i.toNat+1 by omega,List.take_succ_eq_append_getElem (by omega)];unfold jI;rw[List.foldl_append,List.getD_eq_getElem?_getD,List.getElem?_eq_getElem (by omega)];rfl
 ·rw[List.take_of_length_le (by omega)] at hx
  rw[hx];exact⟨rfl,rfl⟩
def pE (bs:List UInt8):List UInt8:=[toByte ((bs.length:Int) / 256),toByte ((bs.length:Int) % 256)]
def bN (bs:List UInt8):List UInt8:=pE bs++bs++[jI 150 (pE bs++bs)]
theorem oD (bs:List UInt8):(bN bs).length=bs.length+3:=by unfold bN pE;simp
theorem Wl {w:World}{v:Sl}{bs:List UInt8}(h:aY w v bs)(hl:bs.length<=4000):
  ∃ (u:Sl) (w1:World),Ret Tryz.prog 95 #[.slice v.1 v.2.1 v.2.2] w (fun r w'=>r=.slice u.1 u.2.1 u.2.2/\w1=w')/\bR w1 u (bN bs)/\Fr none1 w w1/\∀ k,au u k->w.heap.size<=k:=by
 have cC:=h.len;obtain⟨x,w1,r1,hx,kj,f1,xf⟩:=qJ (P:=Tryz.prog) (w:=w) mm ((pE bs).map bc) (by intro v hv;obtain⟨x,_,rfl⟩:=List.mem_map.1 hv;rfl) (by simp[pE]);have DZ:bR w1 x (pE bs):=hx;obtain⟨y,w2,r2,hy,f2,yf⟩:=qK DZ (h.af f1) (by simp[pE];omega);obtain⟨z,w3,r3,hz,hzl,f3,zf⟩:=kX (P:=Tryz.prog) (w:=w2) mm (bc (jI 150 (pE bs++bs))) rfl;have E6:aY w3 z [jI 150 (pE bs++bs)]:=hz.rd;have Wm:=hy.af f3;obtain⟨u,w4,r4,hu,f4,uf⟩:=qK Wm E6 (by simp[pE];omega);have MK:∀ k,au y k->w.heap.size<=k:=fun k U=>by
  rcases yf k U with t | t
  ·exact xf k t
  ·exact Nat.le_trans f1.size t
 have f12:Fr none1 w w2:=f1.comp f2 (fun k U t=>by have:=xf k t;omega);refine⟨u,w4,?_,hu,(f12.trans f3).comp f4 (fun k U t=>by have:=MK k t;omega),fun k U=>?_⟩
 ·refine c95 v.1 v.2.1 v.2.2 w _ ?_
  refine⟨by omega,x,w1,?_,y,w2,r2,?_⟩
  ·refine Eq.trans ?_ r1
   have e1:IntKind.u8.wrap (Int.fdiv (v.2.1:Int) (2 ^ (min (Int.toNat 8) 64)))=(bs.length:Int) / 256:=by
    rw[show(2:Int) ^ (min (Int.toNat 8) 64)=256 from rfl,Int.fdiv_eq_ediv_of_nonneg _ (by omega),cC,wB (by omega) (by omega)]
   have e2:IntKind.u8.wrap (v.2.1:Int)=(bs.length:Int) % 256:=by rw[IntKind.wrap_u8,cC]
   rw[e1,e2,Gk (z:=(bs.length:Int) / 256) (by omega) (by omega),Gk (z:=(bs.length:Int) % 256) (by omega) (by omega)];rfl
  ·refine ab.of (MJ hy.rd (by simp[pE];omega)) ?_
   rintro _ _ ⟨rfl,rfl⟩;exact⟨_,rfl,z,w3,r3,u,w4,r4,rfl,rfl⟩
 ·rcases uf k U with t | t
  ·exact MK k t
  ·exact Nat.le_trans (f12.trans f3).size t
structure ib (w:World)(S:Nat->Prop)(p b g:Nat)(s:bM)(d:Bool)(rs:List (List UInt8)):Prop where
 file:gn w b g s
 out:∃ jl:Sl,w.heap[p]? = some (.cells #[.pointer (some ⟨b,0,none⟩),.slice jl.1 jl.2.1 jl.2.2,.bool d] 181 (0,0))/\il w S jl rs
 ne:p≠b/\p≠g
 off:∀ k,S k->k≠p/\k≠b/\k≠g
theorem ib.ag {w w':World}{S:Nat->Prop}{p b g:Nat}{s:bM}{d:Bool}{rs:List (List UInt8)}(h:ib w S p b g s d rs){T:Nat->Prop}(f:Fr T w w')(h1:¬ T p)(h2:¬ T b)(h3:¬ T g)(h4:∀ k,S k->¬ T k):ib w' S p b g s d rs:=by
 obtain⟨a,⟨jl,b1,b2⟩,c,d⟩:=h;exact⟨a.ag f h2 h3,⟨jl,f.ag b1 h1,b2.ag f h4⟩,c,d⟩
theorem ib.af {w w':World}{S:Nat->Prop}{p b g:Nat}{s:bM}{d:Bool}{rs:List (List UInt8)}(h:ib w S p b g s d rs)(f:Fr none1 w w'):ib w' S p b g s d rs:=h.ag f (fun t=>t) (fun t=>t) (fun t=>t) (fun _ _ t=>t)
theorem ib.zp {w:World}{S:Nat->Prop}{p b g:Nat}{s:bM}{d:Bool}{rs:List (List UInt8)}(h:ib w S p b g s d rs):p<w.heap.size:=by
 obtain⟨_,⟨jl,b1,_⟩,_⟩:=h;exact cj b1
theorem ib.slt {w:World}{S:Nat->Prop}{p b g:Nat}{s:bM}{d:Bool}{rs:List (List UInt8)}(h:ib w S p b g s d rs):∀ k,S k->k<w.heap.size:=by
 obtain⟨_,⟨jl,_,b2⟩,_⟩:=h;exact b2.lt
def sT (S:Nat->Prop)(p b:Nat):Nat->Prop:=fun k=>k=p\/k=b\/S k
def ML (w:World)(S:Nat->Prop)(p b g:Nat)(s':bM)(d':Bool)(Wn:List (List UInt8))(w':World):Prop:=
 Fr (sT S p b) w w'/\∃ S' g',(∀ k,S' k->S k\/w.heap.size<=k)/\(g'=b\/g'=g\/w.heap.size<=g')/\ib w' S' p b g' s' d' Wn
theorem ib.Gp {w w':World}{S:Nat->Prop}{p b g:Nat}{s s':bM}{d:Bool}{rs:List (List UInt8)}(h:ib w S p b g s d rs)(t:j0 w b g s' w'):∃ g',(g'=b\/g'=g\/w.heap.size<=g')/\ib w' S p b g' s' d rs:=by
 obtain⟨f,g',hg,i⟩:=t;have hp:=h.zp;have hs:=h.slt;obtain⟨a,⟨jl,b1,b2⟩,c,o⟩:=h;refine⟨g',hg,i,⟨jl,f.ag b1 (fun t=>c.1 t),b2.ag f (fun k U t=>(o k U).2.1 t)⟩,⟨c.1,?_⟩,fun k U=>⟨(o k U).1,(o k U).2.1,?_⟩⟩
 ·rcases hg with t | t | t
  ·rw[t];exact c.1
  ·rw[t];exact c.2
  ·omega
 ·have:=hs k U
  rcases hg with t | t | t
  ·rw[t];exact(o k U).2.1
  ·rw[t];exact(o k U).2.2
  ·omega
theorem Wo {w:World}{S:Nat->Prop}{p b g:Nat}{s:bM}{d:Bool}{rs:List (List UInt8)}(h:ib w S p b g s d rs):Ret Tryz.prog 67 #[.pointer (some ⟨p,0,none⟩)] w fun r w'=>r=.bool d/\w=w':=by
 obtain⟨_,⟨jl,hp,_⟩,_⟩:=h;exact c67 _ w _ (ae.ai hp rfl ⟨rfl,rfl⟩)
theorem Wp {w:World}{S:Nat->Prop}{p b g:Nat}{s:bM}{d:Bool}{rs:List (List UInt8)}(h:ib w S p b g s d rs)(hl:rs.length<=1000000)(hr:∀ r∈rs,r.length<=100000000):
  Ret Tryz.prog 42 #[.pointer (some ⟨p,0,none⟩)] w fun r w'=>∃ (v:Sl) (S':Nat->Prop),r=.slice v.1 v.2.1 v.2.2/\il w' S' v rs/\Fr none1 w w'/\∀ k,S' k->w.heap.size<=k:=by
 obtain⟨_,⟨jl,hp,hj⟩,_⟩:=h;have BT:=hj.len;refine c42 _ w _ ?_;refine ae.ai hp (x:=jl) rfl ?_;refine bj.of (fun q w'=>0<=q.2.1/\q.2.1<=jl.2.1/\Fr none1 w w'/\∃ S',il w' S' q.1 (rs.take q.2.1.toNat)/\∀ k,S' k->w.heap.size<=k) (fun q _=>(jl.2.1 - q.2.1).toNat)
  ⟨by dsimp only;omega,by dsimp only;omega,Fr.refl _ _,fun _=>False,zm _ _ (fun k t=>t.elim),fun k t=>t.elim⟩ ?_
 rintro _ ⟨v,i,_⟩ w1 ⟨i0,i1,f1,S',hv,hS⟩;dsimp only at i0 i1 hv ⊢;refine aa.dec (fun aU=>?_) (fun dh=>?_)
 ·obtain⟨⟨us,a1,a2,a3,a4⟩,o,l⟩:=hj.af f1
  have hi:i.toNat<us.length:=by omega
  have Wq:=a3 i.toNat hi;refine aD.ld a1 i0 aU (x:=us.getD i.toNat zl) (by rw[List.getElem?_map,List.getD_eq_getElem?_getD,List.getElem?_eq_getElem hi];rfl) ?_;have yQ:(rs.getD i.toNat []).length<=100000000:=by
   rw[List.getD_eq_getElem?_getD,List.getElem?_eq_getElem (by omega)];exact hr _ (List.getElem_mem _)
  refine ab.of (za Wq yQ) ?_;rintro _ w2 ⟨u,rfl,hu,f2,sU⟩;refine⟨u,rfl,?_⟩;have tJ:=hv.af f2;obtain⟨y,w3,z,w4,r1,f3,r2,f4,S2,qq,hz⟩:=tJ.snoc hu.rd hu.cap (fun k U=>⟨aD.lt hu U,fun t=>by have:=hv.lt k t;have:=sU k U;omega⟩) (by simp only[List.length_take];omega);refine⟨y,w3,r1,z,w4,r2,?_⟩;rw[wI (by omega) (by omega)];refine⟨⟨by omega,by omega,(f1.trans f2).comp f4 (fun k U t=>by have:=hS k (hv.own k t);omega),S2,?_,fun k U=>?_⟩,by omega⟩
  ·rw[show(i+1).toNat=i.toNat+1 by omega,List.take_succ_eq_append_getElem (by omega)]
   rw[List.getD_eq_getElem?_getD,List.getElem?_eq_getElem (by omega)] at hz;exact hz
  ·have:=f1.size
   have:=f2.size
   rcases qq k U with t | t | t
   ·exact hS k t
   ·have:=sU k t;omega
   ·omega
 ·rw[List.take_of_length_le (by omega)] at hv
  exact⟨v,S',rfl,hv,f1,hS⟩
def iq (s:bM)(d:Bool)(x:List UInt8):bM×Bool×Int×Bool:=
 if d||s.dead then(s,true,11,false) else if(x.length:Int) > 4000 then(s,false,5,false) else
 if(fo s (bN x)).2≠0 then((fo s (bN x)).1,(fo s (bN x)).2==11,(fo s (bN x)).2,false) else
 if(ia (fo s (bN x)).1).2≠0 then((ia (fo s (bN x)).1).1,(ia (fo s (bN x)).1).2==11,(ia (fo s (bN x)).1).2,false) else
 ((ia (fo s (bN x)).1).1,false,0,true)
def Wr (i j l:Nat)(W0 W1:World)(Q:World->Prop):(Nat->Bool)->World->Prop:=fun D w=>
 (D i=false->w=W0)/\(D i=true->D j=false->w=W1)/\(D j=true->D i=true/\D l=true/\Q w)
def Ws (W0 W1 W2 W3:World)(Q:World->Prop):(Nat->Bool)->World->Prop:=fun D w=>
 (D 6=false->w=W0)/\(D 6=true->D 7=false->w=W1)/\(D 7=true->D 6=true)/\(D 7=true->D 8=false->w=W2)/\(D 8=true->D 7=true/\D 4=true)/\(D 8=true->D 11=false->w=W3)/\(D 11=true->D 8=true/\Q w)
theorem ib.flag {w:World}{S:Nat->Prop}{p b g:Nat}{s:bM}{d:Bool}{rs:List (List UInt8)}(h:ib w S p b g s d rs)(e:Bool){K:World->Prop}(k:∀ w1,Fr (only p) w w1->ib w1 S p b g s e rs->K w1):ay ((⟨p,0,none⟩:Addr).add 2) (.bool e) w K:=by
 obtain⟨a,⟨jl,b1,b2⟩,c,o⟩:=h;refine ay.ai b1 (by simp) rfl fun w1 ar f1 _=>k w1 f1 ?_;exact⟨a.ag f1 (fun t=>c.1 (Eq.symm t)) (fun t=>c.2 (Eq.symm t)),⟨jl,ar,b2.ag f1 (fun k U t=>(o k U).1 t)⟩,c,o⟩
theorem MM {w:World}{S:Nat->Prop}{p b g:Nat}{s:bM}{d:Bool}{rs:List (List UInt8)}{v:Sl}{x:List UInt8}(h:ib w S p b g s d rs)(hv:aY w v x)(Gq:∀ k,au v k->k<w.heap.size/\k≠p/\k≠b/\¬ S k)(hl:rs.length<=1000000):
  Ret Tryz.prog 44 #[.pointer (some ⟨p,0,none⟩),.slice v.1 v.2.1 v.2.2] w fun r w'=>r=.int .i64 (iq s d x).2.2.1/\ML w S p b g (iq s d x).1 (iq s d x).2.1 (if(iq s d x).2.2.2 then rs++[x] else rs) w':=by
 have cC:=hv.len;have wL:∀ w w',Fr (only p) w w'->Fr (sT S p b) w w':=fun w w' f=>f.mono fun k _ t=>.inl t;have bin:∀ w w',Fr (only b) w w'->Fr (sT S p b) w w':=fun w w' f=>f.mono fun k _ t=>.inr (.inl t);refine c44 _ v.1 v.2.1 v.2.2 w _ ?_;unfold C44;refine bQ.of (fun _ w1=>Fr (only p) w w1/\ib w1 S p b g s (d||s.dead) rs) ?_ ?_
 ·have h0:=h
  obtain⟨hf,⟨jl,hp,_⟩,_⟩:=h0;refine ae.ai hp rfl ?_;refine aa.by (fun hd=>?_) (fun hd=>?_)
  ·refine h.flag true fun w1 f1 h1=>⟨f1,?_⟩
   rw[hd];exact h1
  ·refine ae.ai hp (x:=some ⟨b,0,none⟩) rfl ?_
   refine ab.of (MB hf) ?_;rintro _ _ ⟨rfl,rfl⟩;refine⟨_,rfl,?_⟩;refine h.flag s.dead fun w1 f1 h1=>⟨f1,?_⟩;rw[hd,Bool.false_or];exact h1
 rintro _ _ w1 ⟨f1,h1⟩;have nI:=h1;obtain⟨vP,⟨jl,BU,hj1⟩,aA,Gr⟩:=h1;have abk:=nI.zp;have abl:=nI.slt;have sC:aY w1 v x:=hv.ag f1 (fun k U t=>(Gq k U).2.1 t);have abm:=f1.size;refine ae.ai BU rfl ?_;unfold iq;refine aa.by (fun hd=>?_) (fun hd=>?_)
 ·rw[if_pos hd]
  rw[hd] at nI;exact⟨rfl,wL _ _ f1,S,g,fun k U=>.inl U,.inr (.inl rfl),nI⟩
 rw[if_neg (by rw[hd];simp)];rw[hd] at nI;refine aa.dec (fun hq=>?_) (fun hq=>?_)
 ·rw[if_pos (by rw[<- cC];exact hq)]
  exact⟨rfl,wL _ _ f1,S,g,fun k U=>.inl U,.inr (.inl rfl),nI⟩
 rw[if_neg (by rw[<- cC];exact hq)];have kj:x.length<=4000:=by omega
 -- pack, and append
 have r0:=vr w1;generalize Gs:({ w1 with drawn:=w1.drawn+1 }:World)=W0 at r0
 obtain⟨u,W1,dG,hu,q1,sU⟩:=Wl (sC.af r0) kj;have MN:=(nI.af r0).af q1;have MO:=r0.af BU;have Wt:=q1.af MO;have e1:w1.heap.size<=W0.heap.size:=r0.size;have e2:W0.heap.size<=W1.heap.size:=q1.size;refine⟨⟨Wr 5 6 3 W0 W1 (j0 W1 b g (fo s (bN x)).1),⟨fun _=>Gs,(fun t=>by cases t),(fun t=>by cases t)⟩,?_⟩⟩;refine⟨some ⟨b,0,none⟩,fun D w5 hD _ hC=>?_,?_⟩
 ·obtain⟨k1,k2,k3⟩:=hC
  have h6:D 6=false:=by
   cases Wu:D 6 with
   | false=>rfl
   | true=>have:=(k3 Wu).2.1;rw[hD] at this;cases this
  have zq:∃ jl:Sl,w5.heap[p]? = some (.cells #[.pointer (some ⟨b,0,none⟩),.slice jl.1 jl.2.1 jl.2.2,.bool (d||s.dead)] 181 (0,0)):=by
   cases h5:D 5 with
   | false=>rw[k1 h5];exact⟨jl,MO⟩
   | true=>rw[k2 h5 h6];exact⟨jl,Wt⟩
  obtain⟨_,zq⟩:=zq;refine ae.ai zq (x:=some ⟨b,0,none⟩) rfl ⟨rfl,fun t=>?_,fun t t'=>?_,fun t=>?_⟩
  ·rw[eR _ (by decide)] at t;exact k1 t
  ·rw[eR _ (by decide)] at t t';exact k2 t t'
  ·rw[eR _ (by decide)] at t;rw[h6] at t;cases t
 refine⟨u,fun D w5 hD _ hC=>?_,?_⟩
 ·obtain⟨k1,k2,k3⟩:=hC
  obtain rfl:=k1 hD;refine ab.of dG ?_;rintro _ _ ⟨rfl,rfl⟩;refine⟨u,rfl,rfl,fun t=>?_,fun _ _=>rfl,fun t=>?_⟩
  ·rw[sS] at t;cases t
  ·rw[eR _ (by decide)] at t;have:=(k3 t).1;rw[hD] at this;cases this
 refine⟨(fo s (bN x)).2,fun D w5 hD hp hC=>?_,?_⟩
 ·obtain⟨k1,k2,k3⟩:=hC
  have h5:=hp 5 (by simp);have h3:=hp 3 (by simp);obtain rfl:=k2 h5 hD;refine ab.of (VI MN.file hu.rd (fun t=>by have:=sU b t;have:=nI.file.lt;omega)) ?_;rintro _ w6 ⟨rfl,f6⟩;refine⟨_,rfl,rfl,fun t=>?_,fun _ t=>?_,fun _=>⟨?_,?_,f6⟩⟩
  ·rw[eR _ (by decide),h5] at t;cases t
  ·rw[sS] at t;cases t
  ·rw[eR _ (by decide),h5]
  ·rw[eR _ (by decide),h3]
 intro w2 hC;obtain⟨_,_,t2⟩:=hC.2.2 rfl;have MP:Fr (sT S p b) w W1:=((wL _ _ f1).dp r0).dp q1;have f12:=t2.1;have tJ:aY w2 v x:=((sC.af r0).af q1).ag f12 (fun k U t=>(Gq k U).2.2.1 t);obtain⟨g2,mI,h2⟩:=MN.Gp t2;have Gt:Fr (sT S p b) w w2:=MP.trans (bin _ _ f12);have MQ:g2=b\/g2=g\/w.heap.size<=g2:=mI.imp id (Or.imp id (Nat.le_trans MP.size));clear hC t2;generalize(fo s (bN x))=A at *;obtain⟨s1,ea⟩:=A;dsimp only at *;refine aa.eq (fun he=>?_) (fun he=>?_)
 ·subst he
  rw[if_neg (by simp)];have Wv:=h2;obtain⟨oU,⟨jl2,Ww,jm⟩,Gu,abn⟩:=h2;refine ae.ai Ww (x:=some ⟨b,0,none⟩) rfl ?_;refine ab.of (VL oU) ?_;rintro _ w3 ⟨rfl,t3⟩;refine⟨_,rfl,?_⟩;have f23:=t3.1;have pZ:aY w3 v x:=tJ.ag f23 (fun k U t=>(Gq k U).2.2.1 t);obtain⟨g3,wA,h3⟩:=Wv.Gp t3;have Gv:Fr (sT S p b) w w3:=Gt.trans (bin _ _ f23);have MR:g3=b\/g3=g\/w.heap.size<=g3:=by
   rcases wA with t | t | t
   ·exact .inl t
   ·rw[t];exact MQ
   ·exact .inr (.inr (Nat.le_trans Gt.size t))
  clear t3;generalize(ia s1)=B at *;obtain⟨s2,eb⟩:=B;dsimp only at *;refine aa.ne (fun hb=>?_) (fun hb=>?_)
  ·rw[if_pos hb]
   refine h3.flag (eb==11) fun w4 f4 h4=>⟨rfl,Gv.trans (wL _ _ f4),S,g3,fun k U=>.inl U,MR,h4⟩
  ·subst hb
   rw[if_neg (by simp)];have Wx:=h3;obtain⟨lV,⟨wM,Gw,oE⟩,Gy,BV⟩:=h3;have s0:=vr w3;generalize Wy:({ w3 with drawn:=w3.drawn+1 }:World)=V0 at s0
   obtain⟨c,V1,nC,zo,m1,MS⟩:=MI (pZ.af s0) (by omega);have Wz:=(oE.af s0).af m1;have hsz0:w3.heap.size<=V0.heap.size:=s0.size;have WA:=oE.lt;obtain⟨y,V2,z,V3,hy,m2,hz,m3,S',mU,WB⟩:=Wz.snoc zo.rd zo.cap (fun k U=>⟨aD.lt zo U,fun t=>by have:=WA k t;have:=MS k U;omega⟩) hl;have MT:=s0.af Gw;have Gz:=m1.af MT;have WC:=m2.af Gz;have GA:¬ au wM p:=fun t=>(BV p (oE.own p t)).1 rfl;have WD:=m3.ag Gz GA;have WE:Fr (sT S p b) w3 V3:=((s0.trans m1).mono fun _ _ t=>t.elim).trans (m3.mono fun k _ t=>.inr (.inr (oE.own k t)));have WG:gn V3 b g3 s2:=((lV.af s0).af m1).ag m3 (fun t=>(BV b (oE.own b t)).2.1 rfl) (fun t=>(BV g3 (oE.own g3 t)).2.2 rfl);have abo:=Wx.zp;have abp:=lV.lt;have abq:=lV.pB;have xR:=m1.size;have zr:∀ k,S' k->S k\/w3.heap.size<=k:=fun k U=>by
    rcases mU k U with t | t | t
    ·exact .inl t
    ·have:=MS k t;exact .inr (by omega)
    ·exact .inr (by omega)
   have MU:∀ k,S' k->k≠p/\k≠b/\k≠g3:=fun k U=>by
    rcases zr k U with t | t
    ·exact BV k t
    ·omega
   refine⟨⟨Ws V0 V1 V2 V3 (fun w9=>Fr (only p) V3 w9/\w9.heap[p]? = some (.cells #[.pointer (some ⟨b,0,none⟩),.slice z.1 z.2.1 z.2.2,.bool false] 181 (0,0))),⟨fun _=>Wy,(fun t=>by cases t),(fun t=>by cases t),(fun t=>by cases t),(fun t=>by cases t),(fun t=>by cases t),(fun t=>by cases t)⟩,?_⟩⟩;refine⟨wM,fun D w5 hD _ hC=>?_,?_⟩
   ·obtain⟨k1,k2,k3,k4,k5,k6,k7⟩:=hC
    have h8:D 8=false:=by
     cases hd:D 8 with
     | false=>rfl
     | true=>have:=(k5 hd).2;rw[hD] at this;cases this
    have nJ:D 11=false:=by
     cases hd:D 11 with
     | false=>rfl
     | true=>have:=(k7 hd).1;rw[h8] at this;cases this
    have zq:w5.heap[p]? = some (.cells #[.pointer (some ⟨b,0,none⟩),.slice wM.1 wM.2.1 wM.2.2,.bool (d||s.dead)] 181 (0,0)):=by
     rw[hd];cases h6:D 6 with
     | false=>rw[k1 h6];exact MT
     | true=>
      cases h7:D 7 with
      | false=>rw[k2 h6 h7];exact Gz
      | true=>rw[k4 h7 h8];exact WC
    refine ae.ai zq (x:=wM) rfl ⟨rfl,fun t=>?_,fun t t'=>?_,fun t=>?_,fun t t'=>?_,fun t=>?_,fun t=>?_,fun t=>?_⟩
    ·rw[eR _ (by decide)] at t;exact k1 t
    ·rw[eR _ (by decide)] at t t';exact k2 t t'
    ·rw[eR _ (by decide)] at t ⊢;exact k3 t
    ·rw[eR _ (by decide)] at t t';exact k4 t t'
    ·rw[eR _ (by decide)] at t;rw[h8] at t;cases t
    ·rw[eR _ (by decide)] at t;rw[h8] at t;cases t
    ·rw[eR _ (by decide)] at t;rw[nJ] at t;cases t
   refine⟨c,fun D w5 hD _ hC=>?_,?_⟩
   ·obtain⟨k1,k2,k3,k4,k5,k6,k7⟩:=hC
    have h7:D 7=false:=by
     cases hd:D 7 with
     | false=>rfl
     | true=>have:=k3 hd;rw[hD] at this;cases this
    have h8:D 8=false:=by
     cases hd:D 8 with
     | false=>rfl
     | true=>have:=(k5 hd).1;rw[h7] at this;cases this
    have nJ:D 11=false:=by
     cases hd:D 11 with
     | false=>rfl
     | true=>have:=(k7 hd).1;rw[h8] at this;cases this
    obtain rfl:=k1 hD;refine ab.of nC ?_;rintro _ _ ⟨rfl,rfl⟩;refine⟨c,rfl,rfl,fun t=>?_,fun _ _=>rfl,fun _=>sS _ _,fun t=>?_,fun t=>?_,fun t=>?_,fun t=>?_⟩
    ·rw[sS] at t;cases t
    ·rw[eR _ (by decide)] at t;rw[h7] at t;cases t
    ·rw[eR _ (by decide)] at t;rw[h8] at t;cases t
    ·rw[eR _ (by decide)] at t;rw[h8] at t;cases t
    ·rw[eR _ (by decide)] at t;rw[nJ] at t;cases t
   refine⟨y,fun D w5 hD hp hC=>?_,?_⟩
   ·obtain⟨k1,k2,k3,k4,k5,k6,k7⟩:=hC
    have h6:=hp 6 (by simp);have h8:D 8=false:=by
     cases hd:D 8 with
     | false=>rfl
     | true=>have:=(k5 hd).1;rw[hD] at this;cases this
    have nJ:D 11=false:=by
     cases hd:D 11 with
     | false=>rfl
     | true=>have:=(k7 hd).1;rw[h8] at this;cases this
    obtain rfl:=k2 h6 hD;refine⟨y,V2,hy,rfl,fun t=>?_,fun _ t=>?_,fun _=>?_,fun _ _=>rfl,fun t=>?_,fun t=>?_,fun t=>?_⟩
    ·rw[eR _ (by decide),h6] at t;cases t
    ·rw[sS] at t;cases t
    ·rw[eR _ (by decide),h6]
    ·rw[eR _ (by decide)] at t;rw[h8] at t;cases t
    ·rw[eR _ (by decide)] at t;rw[h8] at t;cases t
    ·rw[eR _ (by decide)] at t;rw[nJ] at t;cases t
   refine⟨z,fun D w5 hD hp hC=>?_,?_⟩
   ·obtain⟨k1,k2,k3,k4,k5,k6,k7⟩:=hC
    have h4:=hp 4 (by simp);have h6:=hp 6 (by simp);have h7:=hp 7 (by simp);have nJ:D 11=false:=by
     cases hd:D 11 with
     | false=>rfl
     | true=>have:=(k7 hd).1;rw[hD] at this;cases this
    obtain rfl:=k4 h7 hD;refine⟨z,V3,hz,rfl,fun t=>?_,fun _ t=>?_,fun _=>?_,fun _ t=>?_,fun _=>⟨?_,?_⟩,fun _ _=>rfl,fun t=>?_⟩
    ·rw[eR _ (by decide),h6] at t;cases t
    ·rw[eR _ (by decide),h7] at t;cases t
    ·rw[eR _ (by decide),h6]
    ·rw[sS] at t;cases t
    ·rw[eR _ (by decide),h7]
    ·rw[eR _ (by decide),h4]
    ·rw[eR _ (by decide)] at t;rw[nJ] at t;cases t
   refine⟨(),fun D w5 hD hp hC=>?_,?_⟩
   ·obtain⟨k1,k2,k3,k4,k5,k6,k7⟩:=hC
    have h4:=hp 4 (by simp);have h6:=hp 6 (by simp);have h7:=hp 7 (by simp);have h8:=hp 8 (by simp);obtain rfl:=k6 h8 hD;refine ay.ai WD (by simp) rfl fun w9 GB f9 _=>⟨rfl,fun t=>?_,fun _ t=>?_,fun _=>?_,fun _ t=>?_,fun _=>⟨?_,?_⟩,fun _ t=>?_,fun _=>⟨?_,f9,?_⟩⟩
    ·rw[eR _ (by decide),h6] at t;cases t
    ·rw[eR _ (by decide),h7] at t;cases t
    ·rw[eR _ (by decide),h6]
    ·rw[eR _ (by decide),h8] at t;cases t
    ·rw[eR _ (by decide),h7]
    ·rw[eR _ (by decide),h4]
    ·rw[sS] at t;cases t
    ·rw[eR _ (by decide),h8]
    ·exact GB
   intro w9 hC;obtain⟨_,f9,GB⟩:=hC.2.2.2.2.2.2 rfl;refine⟨rfl,(Gv.trans WE).trans (wL _ _ f9),S',g3,fun k U=>(zr k U).imp id (Nat.le_trans Gv.size),MR,WG.ag f9 (fun t=>Gy.1 (Eq.symm t)) (fun t=>Gy.2 (Eq.symm t)),⟨z,GB,WB.ag f9 (fun k U t=>(MU k U).1 t)⟩,Gy,MU⟩
 ·refine aa.ne (fun hb=>?_) (fun hb=>absurd hb he)
  rw[if_pos hb];exact h2.flag (ea==11) fun w4 f4 h4=>⟨rfl,Gt.trans (wL _ _ f4),S,g2,fun k U=>.inl U,MQ,h4⟩
theorem WH {s:bM}{x:List UInt8}(hl:s.lit=false)(hd:s.dead=false)(hx:x.length<=4000)(h:(x.length:Int)+3<=s.cp - s.b.length):
  (iq s false x).2.2.1=0/\(iq s false x).2.2.2=true/\(iq s false x).2.1=false/\(iq s false x).1.b=s.b++bN x/\(iq s false x).1.cp=s.cp/\(iq s false x).1.synced=(s.b++bN x).length/\(iq s false x).1.lit=false/\(iq s false x).1.dead=false:=by
 obtain⟨a1,a2,a3,a4,a5,a6⟩:=VR (s:=s) (x:=bN x) hl hd (by rw[oD];omega);obtain⟨b1,b2,b3,b4,b5,b6⟩:=VS a5 a6;unfold iq;rw[hd,if_neg (by simp),if_neg (by omega),if_neg (by rw[a1];simp),if_neg (by rw[b1];simp)];exact⟨rfl,rfl,rfl,b2.trans a2,b3.trans a3,by rw[b4,a2],b5,b6⟩
theorem WI (x c:UInt8):rq x (c.toNat:Int)=x ^^^ c:=by
 unfold rq;apply UInt8.toNat_inj.1;have h1:∀ y:UInt8,(BitVec.ofInt 8 (y.toNat:Int))=y.toBitVec:=fun y=>by
  apply BitVec.eq_of_toNat_eq;rw[BitVec.ofInt_natCast,BitVec.toNat_ofNat,Nat.mod_eq_of_lt (UInt8.toNat_lt _)];rfl
 rw[h1,h1,UInt8.toNat_ofNat',Nat.mod_eq_of_lt (BitVec.isLt _)];rfl
theorem wN (a c:UInt8)(bs:List UInt8):jI a (c::bs)=jI (a ^^^ c) bs:=by
 unfold jI;rw[List.foldl_cons,WI]
theorem MV (a:UInt8)(bs:List UInt8):jI a bs=a ^^^ jI 0 bs:=by
 induction bs generalizing a with
 | nil=>unfold jI;simp
 | cons c bs ih=>rw[wN,wN,ih,ih (0 ^^^ c),UInt8.xor_assoc,UInt8.zero_xor]
theorem MW {z:Int}(h0:0<=z)(h1:z<=255):((toByte z).toNat:Int)=z:=by
 have:=Gk h0 h1;unfold bc at this;injection this with _ h
 omega
theorem aY.cellAt {w:World}{v:Sl}{bs:List UInt8}(h:aY w v bs){i:Int}(h0:0<=i)(h1:i<v.2.1):∃ a,v.1=some a/\∀ w',Fr none1 w w'->w'.cell? (a.add (i.toNat * 1))=some (.int .u8 ((bs.getD i.toNat 0).toNat:Int)):=by
 have hl:=h.len;obtain⟨q1,q2,q3⟩:=h;cases hv:v.1 with
 | none=>have:=(q2 hv).1;omega
 | some a=>
  refine⟨a,rfl,fun w' f=>f.cell0 ?_⟩;have:=xF (bs.map bc) 0 i.toNat (bc (bs.getD i.toNat 0)) (q3 a hv) (by
   rw[List.getElem?_map,List.getElem?_eq_getElem (by omega),List.getD_eq_getElem?_getD,List.getElem?_eq_getElem (by omega)];rfl)
  rw[Nat.zero_add] at this;rw[Nat.mul_one];exact this
end Go.Proofs.YtmkehncgjnhhcaaGreatDoor
