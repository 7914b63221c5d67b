/-
  Texts of this claim, put together: TakeSpec, VcCmd, DoSpec, RefEv2, TakeSpec2, TakeSpec3, CSipG, SipSpec, NilNe, CFrameG, FrameSpec, FrameF, CSameG, SameSpec, CEvSame, EvSame, AgreeF, CFile, FileSpec, CWindow, WinSpec, FQuota, FCuts, FFuse, FMem, CJournal, JSpec.
  Conditions: those of each theorem.
-/
import Derived.Test.YtmkehncgjnhhcaaGreatDoorQND22x0
import Derived.Test.YtmkehncgjnhhcaaGreatDoorQND22x1
import Derived.Test.YtmkehncgjnhhcaaGreatDoorQND22x2
import Derived.KernelRfl
import Derived.Laws.BytesString
import Derived.Laws.IdiomStrings
import Derived.Laws.StructEq
import Derived.Lib.Bytes
import Derived.Test.YtmkehncgjnhhcaaGreatDoorProg
set_option linter.unusedVariables false
set_option maxRecDepth 100000
namespace Go.Proofs.YtmkehncgjnhhcaaGreatDoor
open Vc
def jC (T:TypeId)(w:World)(g n:Nat)(s:iO):Prop:=
 ∃ u:Sl,w.heap[g]? = some (.cells #[.slice u.1 u.2.1 u.2.2,.bool s.2] T (0,0))/\bd w u s.1/\u.2.1<=u.2.2/\(s.1≠[]->∀ k,aw u k->k<n)
theorem jC.ag {T:TypeId}{w w':World}{g n:Nat}{s:iO}(h:jC T w g n s){S:Nat->Prop}(f:Fr S w w')(hg:¬ S g)(hS:∀ k,S k->n<=k):jC T w' g n s:=by
 obtain⟨u,a,b,c,d⟩:=h;exact⟨u,f.ag a hg,b.tM f fun hn k hk t=>by have:=d hn k hk;have:=hS k t;omega,c,d⟩
theorem jC.af {T:TypeId}{w w':World}{g n:Nat}{s:iO}(h:jC T w g n s)(f:Fr none1 w w'):jC T w' g n s:=h.ag f (fun t=>t) (fun _ t=>t.elim)
theorem Nc (w:World):bd w (none,0,0) []:=(ER w).rd
theorem Vz (m:Nat)(b:UInt8)(hm:m<65536):IntKind.i64.wrap ((BitVec.ofInt 64 (IntKind.i64.wrap ((m:Int) * 2 ^ (min (Int.toNat 8) 64))) ||| BitVec.ofInt 64 (IntKind.i64.wrap (b.toNat:Int))).toNat:Int)=((m * 256+b.toNat:Nat):Int):=by
 have hb:=b.toNat_lt;have e1:((m:Int) * 2 ^ (min (Int.toNat 8) 64))=((m * 256:Nat):Int):=by
  rw[show min (Int.toNat 8) 64=8 by decide];norm_cast
 rw[e1,wI (x:=((m * 256:Nat):Int)) (by omega) (by omega),wI (x:=(b.toNat:Int)) (by omega) (by omega),BitVec.toNat_or,yM,yM,Nat.mod_eq_of_lt (by omega),Nat.mod_eq_of_lt (by omega)];have e2:m * 256 ||| b.toNat=m * 256+b.toNat:=by
  rw[show m * 256=m <<< 8 by rw[Nat.shiftLeft_eq],<- Nat.shiftLeft_add_eq_or_of_lt (show b.toNat<2 ^ 8 from hb)]
 rw[e2,wI (by omega) (by omega)]
theorem VA {z:Bool}{n:Nat}{s:iO}(h:s.2=true\/s.1.length<n):dQ z n s=(if z=true then List.replicate n 0 else[],(s.1,true)):=by unfold dQ;rw[if_pos h]
theorem VB {z:Bool}{n:Nat}{s:iO}(h:s.2=false)(h':n<=s.1.length):dQ z n s=(s.1.take n,(s.1.drop n,false)):=by
 unfold dQ;rw[if_neg (by rw[h];simp;omega)]
theorem CJ {w:World}{g n0:Nat}{s:iO}(h:jC 274 w g n0 s)(hg:n0<=g)(n:Nat):Ret Tryz.prog 150 #[.pointer (some ⟨g,0,none⟩),.int .i64 (n:Int)] w fun r w'=>
  ∃ v:Sl,r=.slice v.1 v.2.1 v.2.2/\bd w' v (dQ false n s).1/\((dQ false n s).1≠[]->∀ k,aw v k->k<n0)/\jC 274 w' g n0 (dQ false n s).2/\Fr (only g) w w':=by
 obtain⟨u,hb,hu,hc,aU⟩:=h;have dk:=hu.len;refine c150 _ _ w _ ?_;unfold C150;have bad:s.2=true\/s.1.length<n->∀ w1,w1.heap[g]? = some (.cells #[.slice u.1 u.2.1 u.2.2,.bool true] 274 (0,0))->Fr (only g) w w1 ->
   ∃ v:Sl,(Value.slice none 0 0)=.slice v.1 v.2.1 v.2.2/\bd w1 v (dQ false n s).1/\((dQ false n s).1≠[]->∀ k,aw v k->k<n0)/\jC 274 w1 g n0 (dQ false n s).2/\Fr (only g) w w1:=fun VC w1 au f1=>by
  rw[VA VC];exact⟨(none,0,0),rfl,Nc w1,(fun h=>(h rfl).elim),⟨u,au,hu.tM f1 fun hn k hk t=>by have:=aU hn k hk;have:k=g:=t;omega,hc,aU⟩,f1⟩
 refine ae.ah hb (x:=s.2) rfl ?_;refine aa.by (fun e=>?_) (fun e=>?_)
 ·exact az.ah hb (by show 0+1<2;omega) rfl fun w1 au f1 _=>bad (.inl e) w1 au f1
 refine ae.ah hb (x:=u) rfl ?_;refine aa.dec (fun oy=>?_) (fun hle=>?_)
 ·exact az.ah hb (by show 0+1<2;omega) rfl fun w1 au f1 _=>bad (.inr (by omega)) w1 au f1
 refine ae.ah hb (x:=u) rfl ?_;refine bd.sub hu (by omega) (by omega) hc fun ha=>?_;refine ae.ah hb (x:=u) rfl ?_;refine bd.jV hu (by omega) (by omega) (Int.le_refl _) hc fun v hv VD cO Nd=>?_;refine az.ah hb (by show 0+0<2;omega) rfl fun w1 au f1 _=>?_;rw[Int.toNat_natCast] at ha hv ⊢;have e2:(s.1.drop n).take ((u.2.1:Int) - (n:Int)).toNat=s.1.drop n:=List.take_of_length_le (by rw[List.length_drop];omega);rw[e2] at hv;rw[VB e (by omega)];have Nf:s.1.take n≠[]->s.1≠[]:=fun h t=>h (by rw[t];simp);have Ng:s.1.drop n≠[]->s.1≠[]:=fun h t=>h (by rw[t];simp);refine⟨(u.1,n,u.2.2),rfl,ha.tM f1 fun hn k hk t=>by have:=aU (Nf hn) k hk;have:k=g:=t;omega,(fun hn k hk=>aU (Nf hn) k hk),⟨v,?_,hv.tM f1 fun hn k hk t=>by have:=aU (Ng hn) k (Nd k hk);have:k=g:=t;omega,VD,fun hn k hk=>aU (Ng hn) k (Nd k hk)⟩,f1⟩;rw[au,<- e];rfl
theorem Nh {w:World}{g n0:Nat}{s:iO}(h:jC 274 w g n0 s)(hg:n0<=g)(size:Nat)(hs:size<=2):Ret Tryz.prog 194 #[.pointer (some ⟨g,0,none⟩),.int .i64 (size:Int)] w fun r w'=>
  r=.string (str (fM false size s).1)/\jC 274 w' g n0 (fM false size s).2/\Fr (only g) w w':=by
 refine c194 _ _ w _ ?_;unfold C194;refine ab.of (CJ h hg size) ?_;rintro _ w1 ⟨v,rfl,hv,_,h1,f1⟩;refine⟨v,rfl,?_⟩;have cO:=hv.len;have qO:(dQ false size s).1.length<=2:=by
  unfold dQ;split
  ·simp
  ·dsimp only;rw[List.length_take];omega
 unfold fM;generalize dQ false size s=x at *;have VE:∀ i,i<=2->fH (x.1.take i)<65536:=fun i hi=>by
  have h1:=EU (x.1.take i);have h2:256 ^ (x.1.take i).length<=256 ^ 2:=Nat.pow_le_pow_right (by decide) (by rw[List.length_take];omega);have:(256:Nat) ^ 2=65536:=by decide
  omega
 refine bC.of (fun st w'=>∃ i:Nat,st.2.1=i/\i<=x.1.length/\st.1=(fH (x.1.take i):Int)/\w1=w') (fun st _=>(2 - st.2.1).toNat) ⟨0,rfl,by omega,rfl,rfl⟩ ?_;rintro _ ⟨m,i',_⟩ _ ⟨i,hi,yQ,hm,rfl⟩;dsimp only at hi hm ⊢;subst hi hm;refine aa.dec (fun aU=>?_) (fun eu=>?_)
 ·refine bd.at hv (by omega) aU ?_
  refine⟨by omega,?_⟩;rw[Int.toNat_natCast,Vz _ _ (VE i (by omega)),wI (by omega) (by omega)];refine⟨⟨i+1,by omega,by omega,?_,rfl⟩,by omega⟩;rw[EW x.1 i (by omega)]
 ·rw[List.take_of_length_le (by omega)]
  refine ab.of (CJ h1 hg (fH x.1)) ?_;rintro _ w2 ⟨u,rfl,hu,_,h2,f2⟩;refine⟨u,rfl,?_⟩;exact⟨_,w2,GD hu,rfl,h2,f1.trans f2⟩
theorem VF {w:World}{g n0:Nat}{s:iO}(h:jC 274 w g n0 s)(hg:n0<=g):Ret Tryz.prog 192 #[.pointer (some ⟨g,0,none⟩)] w fun r w'=>
  r=.int .i64 (jk false s).1/\jC 274 w' g n0 (jk false s).2/\Fr (only g) w w':=by
 refine c192 _ w _ ?_;unfold C192;refine ab.of (CJ h hg 8) ?_;rintro _ w1 ⟨v,rfl,hv,_,h1,f1⟩;refine⟨v,rfl,?_⟩;unfold jk;generalize dQ false 8 s=x at *;refine ab.of (BR hv) ?_;rintro _ _ ⟨rfl,rfl⟩;refine⟨((ia x.1).1,(ia x.1).2,()),rfl,?_⟩;obtain⟨u,hb,hu,hc,aU⟩:=h1;have kp:∀ w2,Fr (only g) w1 w2->bd w2 u x.2.1:=fun w2 f2=>hu.tM f2 fun hn k hk t=>by have:=aU hn k hk;have:k=g:=t;omega
 refine ae.ah hb (x:=x.2.2) rfl ?_;refine aa.by (fun e=>?_) (fun e=>?_)
 ·refine az.ah hb (by show 0+1<2;omega) rfl fun w2 aI f2 _=>?_
  exact⟨rfl,⟨u,by rw[aI,e];rfl,kp w2 f2,hc,aU⟩,f1.trans f2⟩
 ·refine az.ah hb (by show 0+1<2;omega) rfl fun w2 aI f2 _=>?_
  exact⟨rfl,⟨u,by rw[aI,e];simp,kp w2 f2,hc,aU⟩,f1.trans f2⟩
theorem Ni (z:Bool)(size:Nat)(hs:size<=2)(s:iO):(fM z size s).1.length<=65535:=by
 have hb:fH (dQ z size s).1<=65535:=by
  have qO:(dQ z size s).1.length<=2:=by
   unfold dQ;split
   ·dsimp only;split<;>simp<;>omega
   ·dsimp only;rw[List.length_take];omega
  have h1:=EU (dQ z size s).1;have h2:256 ^ (dQ z size s).1.length<=256 ^ 2:=Nat.pow_le_pow_right (by decide) qO;have:(256:Nat) ^ 2=65536:=by decide
  omega
 unfold fM;generalize(dQ z size s).2=t;generalize fH (dQ z size s).1=n at *;unfold dQ;split
 ·dsimp only;split<;>simp;omega
 ·dsimp only;rw[List.length_take];omega
theorem VG {w:World}{g n0:Nat}{s:iO}(h:jC 274 w g n0 s)(hg:n0<=g):Ret Tryz.prog 193 #[.pointer (some ⟨g,0,none⟩)] w fun r w'=>
  r=(su false s).1.v/\jC 274 w' g n0 (su false s).2/\Fr (only g) w w':=by
 refine c193 _ w _ ?_;unfold C193;refine ab.of (Nh h hg 2 (by decide)) ?_;rintro _ w1 ⟨rfl,h1,f1⟩;have hl:=Ni false 2 (by decide) s;unfold su;generalize fM false 2 s=x at *;refine⟨_,rfl,?_⟩;refine ab.of (Vu x.1 (by omega) w1) ?_;rintro _ w2 ⟨rfl,f2⟩;refine⟨((nz x.1).1.v,(nz x.1).2.1,(nz x.1).2.2,()),rfl,?_⟩;obtain⟨u,hb,hu,hc,aU⟩:=h1.af f2;have kp:∀ w3,Fr (only g) w2 w3->bd w3 u x.2.1:=fun w3 f3=>hu.tM f3 fun hn k hk t=>by have:=aU hn k hk;have:k=g:=t;omega
 refine ae.ah hb (x:=x.2.2) rfl ?_;have f12:Fr (only g) w w2:=f1.dq f2;refine aa.by (fun e=>?_) (fun e=>?_)
 ·refine az.ah hb (by show 0+1<2;omega) rfl fun w3 aR f3 _=>?_
  exact⟨rfl,⟨u,by rw[aR,e];rfl,kp w3 f3,hc,aU⟩,f12.trans f3⟩
 ·refine az.ah hb (by show 0+1<2;omega) rfl fun w3 aR f3 _=>?_
  exact⟨rfl,⟨u,by rw[aR,e];simp,kp w3 f3,hc,aU⟩,f12.trans f3⟩
def oz (m:aT):Obj:=.cells (xC m) 36 (0,0)
 where xC (m:aT):Array Value:=#[.int .i64 m.1,.string (str m.2.1),.string (str m.2.2.1),.string (str m.2.2.2.1),.string (str m.2.2.2.2.1),.int .i64 m.2.2.2.2.2.1,.int .i64 m.2.2.2.2.2.2.1,m.2.2.2.2.2.2.2.v]
theorem G4 {g b:Nat}{w w1 w2:World}(f1:Fr (only g) w w1)(f2:Fr (only b) w1 w2):Fr (fun k=>k=g\/k=b) w w2:=(f1.mono fun k _ t=>.inl t).trans (f2.mono fun k _ t=>.inr t)
theorem VH {w:World}{g b n0:Nat}{x:iO×aT}(h:jC 274 w g n0 x.1)(hg:n0<=g)(hb:w.heap[b]? = some (oz x.2))(hn:n0<=b)(j9:b≠g)(c:UInt8)(hc:c=73\/c=78\/c=76\/c=67\/c=68\/c=86\/c=84):
  Ret Tryz.prog 151 #[.pointer (some ⟨g,0,none⟩),.pointer (some ⟨b,0,none⟩),.int .i32 (dW c)] w fun r w'=>
   r=.tuple #[]/\jC 274 w' g n0 (gU false x c).1/\w'.heap[b]? = some (oz (gU false x c).2)/\Fr (fun k=>k=g\/k=b) w w':=by
 refine c151 _ _ _ w _ ?_;unfold C151;have hd:∀ (a:UInt8) (n:Int),dW a=n->c≠a->(dW c==n)=false:=fun a n ha ay=>by
  subst ha;unfold dW;have:c.toNat≠a.toNat:=fun t=>ay (UInt8.toNat_inj.1 t);simp;omega
 have num:∀ (o:Nat) (ho:o<8) (m':aT) (hm:((oz.xC x.2).setIfInBounds o (.int .i64 (jk false x.1).1))=oz.xC m') (hs:gU false x c=((jk false x.1).2,m')),
   ab Tryz.prog 192 #[.pointer (some ⟨g,0,none⟩)] w (.v (.one (.int .i64))) (fun(x1:Int) w2=>az ((⟨b,0,none⟩:Addr).add o) (.int .i64 x1) w2 (fun w3=>(Value.tuple #[])=.tuple #[]/\jC 274 w3 g n0 (gU false x c).1/\w3.heap[b]? = some (oz (gU false x c).2)/\Fr (fun k=>k=g\/k=b) w w3)):=fun o ho m' hm hs=>by
  refine ab.of (VF h hg) ?_;rintro _ w1 ⟨rfl,h1,f1⟩;refine⟨_,rfl,?_⟩;have au:=f1.jK hb j9;refine az.ah au (by show 0+o<8;omega) rfl fun w2 aI f2 _=>?_;rw[hs];refine⟨rfl,h1.ag f2 (fun t=>by have:g=b:=t;omega) (fun k t=>by have:k=b:=t;omega),?_,G4 f1 f2⟩;rw[aI,Nat.zero_add,hm];rfl
 have ez:∀ (o:Nat) (ho:o<8) (m':aT) (hm:((oz.xC x.2).setIfInBounds o (.string (str (fM false 1 x.1).1)))=oz.xC m') (hs:gU false x c=((fM false 1 x.1).2,m')),
   ab Tryz.prog 194 #[.pointer (some ⟨g,0,none⟩),.int .i64 1] w (.v (.one .str)) (fun(x1:ByteArray) w2=>az ((⟨b,0,none⟩:Addr).add o) (.string x1) w2 (fun w3=>(Value.tuple #[])=.tuple #[]/\jC 274 w3 g n0 (gU false x c).1/\w3.heap[b]? = some (oz (gU false x c).2)/\Fr (fun k=>k=g\/k=b) w w3)):=fun o ho m' hm hs=>by
  refine ab.of (Nh h hg 1 (by decide)) ?_;rintro _ w1 ⟨rfl,h1,f1⟩;refine⟨_,rfl,?_⟩;have au:=f1.jK hb j9;refine az.ah au (by show 0+o<8;omega) rfl fun w2 aI f2 _=>?_;rw[hs];refine⟨rfl,h1.ag f2 (fun t=>by have:g=b:=t;omega) (fun k t=>by have:k=b:=t;omega),?_,G4 f1 f2⟩;rw[aI,Nat.zero_add,hm];rfl
 rcases hc with rfl | rfl | rfl | rfl | rfl | rfl | rfl
 ·exact aa.f (by decide) (aa.f (by decide) (aa.f (by decide) (aa.t (by decide) (ez 1 (by decide) _ rfl rfl))))
 ·exact aa.f (by decide) (aa.f (by decide) (aa.f (by decide) (aa.f (by decide) (aa.t (by decide) (ez 2 (by decide) _ rfl rfl)))))
 ·exact aa.f (by decide) (aa.f (by decide) (aa.f (by decide) (aa.f (by decide) (aa.f (by decide) (aa.t (by decide) (ez 3 (by decide) _ rfl rfl))))))
 ·exact aa.f (by decide) (aa.f (by decide) (aa.f (by decide) (aa.f (by decide) (aa.f (by decide) (aa.f (by decide) (aa.t (by decide) (ez 4 (by decide) _ rfl rfl)))))))
 ·exact aa.t (by decide) (num 5 (by decide) _ rfl rfl)
 ·exact aa.f (by decide) (aa.t (by decide) (num 6 (by decide) _ rfl rfl))
 ·refine aa.f (by decide) (aa.f (by decide) (aa.t (by decide) ?_))
  refine ab.of (VG h hg) ?_;rintro _ w1 ⟨rfl,h1,f1⟩;refine⟨_,rfl,?_⟩;have au:=f1.jK hb j9;refine⟨Tm.fR _,ar.one au (by show 7<8;omega) (Tm.bW _) fun w2 aI f2 _=>?_⟩;refine⟨rfl,h1.ag f2 (fun t=>by have:g=b:=t;omega) (fun k t=>by have:k=b:=t;omega),?_,G4 f1 f2⟩;rw[aI];rfl
def dH (m:aT):Prop:=m.2.1.length<=65535/\m.2.2.1.length<=65535/\m.2.2.2.1.length<=65535/\m.2.2.2.2.1.length<=65535/\aK m.2.2.2.2.2.2.2<=1000000
theorem VI (bs:List UInt8):aK (nz bs).1<=1000000:=by
 unfold nz;split
 ·show aK .none<=_;decide
 split
 ·show aK .none<=_;decide
 ·rename_i h _
  exact M9 (Classical.not_not.1 h)
theorem VJ (z:Bool)(x:iO×aT)(c:UInt8)(h:dH x.2):dH (gU z x c).2:=by
 obtain⟨h1,h2,h3,h4,h5⟩:=h;have ht:=Ni z 1 (by decide) x.1;unfold gU
 repeat' split
 ·exact⟨h1,h2,h3,h4,h5⟩
 ·exact⟨h1,h2,h3,h4,h5⟩
 ·exact⟨h1,h2,h3,h4,VI _⟩
 ·exact⟨ht,h2,h3,h4,h5⟩
 ·exact⟨h1,ht,h3,h4,h5⟩
 ·exact⟨h1,h2,ht,h4,h5⟩
 ·exact⟨h1,h2,h3,ht,h5⟩
theorem Nj (z:Bool):∀ (l:List UInt8) (x:iO×aT),dH x.2->dH (l.foldl (gU z) x).2
 | [],x,h=>h
 | c::l,x,h=>Nj z l _ (VJ z x c h)
theorem G5 (z:Bool)(bs:List UInt8):dH (lB z bs).2:=Nj z _ _ ⟨by simp,by simp,by simp,by simp,by show aK .none<=_;decide⟩
theorem dH.e {m:aT}(h:dH m):pU m.e:=by
 obtain⟨h1,h2,h3,h4,h5⟩:=h;exact⟨by show(str _).size<=_;rw[dU];omega,by show(str _).size<=_;rw[dU];omega,by show(str _).size<=_;rw[dU];omega,by show(str _).size<=_;rw[dU];omega⟩
theorem vr (t:Tm):pR t.v:=by cases t<;>first | (exact .inl rfl) | (exact .inr ⟨_,_,rfl⟩)
theorem Nk (m:aT)(h:dH m)(w:World)(ht:TabW w):Ret Tryz.prog 33 #[ix m.e] w fun r w'=>∃ v:Sl,r=.tuple #[.slice v.1 v.2.1 v.2.2,.int .i64 (dw m).2]/\cd w' v (dw m).1/\Fr none1 w w'/\∀ k,aw v k->w.heap.size<=k:=by
 have hl:=tF m.t;exact Fo m.e (vr m.t) h.e (bp m.t).1 (by omega) (bp m.t).2 w fun _ w1 f=>Cc m.t h.2.2.2.2 w1 (ht.af f)
theorem Nl (m:aT)(h:dH m):(dw m).1.length<=10000000:=by
 have hl:=tF m.t;exact zU m.e h.e _ (by omega) _
theorem Nn (bs:List UInt8):Go.strOfNums (bs.map fun b=>(b.toNat:Int))=str bs:=by
 unfold Go.strOfNums str
 congr 1
 rw[List.map_map]
 congr 1
 conv=>rhs;rw[<- List.map_id bs]
 refine List.map_congr_left fun b _=>?_;simp
theorem No (bs:List UInt8):Lib.bytesOf (bs.map fun b=>(b.toNat:Int))=bs:=by
 unfold Lib.bytesOf;rw[List.map_map]
 conv=>rhs;rw[<- List.map_id bs]
 refine List.map_congr_left fun b _=>?_;simp
theorem G6 {w:World}{v u:Sl}{bs cs:List UInt8}(h:bd w v bs)(h':bd w u cs):Ret Tryz.prog 53 #[.slice v.1 v.2.1 v.2.2,.slice u.1 u.2.1 u.2.2] w fun r w'=>r=.bool (bs==cs)/\w=w':=by
 refine(Tryz.bytes_Equal _ _ (bs.map fun b=>(b.toNat:Int)) (cs.map fun b=>(b.toNat:Int)) w (by rw[Nn];exact GD h) (by rw[Nn];exact GD h')).mono ?_;rintro e w' ⟨rfl,rfl⟩;exact⟨_,rfl,by rw[No,No],rfl⟩
theorem VK {c:UInt8}{k:Int}(h:c∈eQ k):c=73\/c=78\/c=76\/c=67\/c=68\/c=86\/c=84:=by
 have:=(List.mem_filter.1 h).1;simpa[pT] using this
theorem G7 {w:World}{v:Sl}{bs:List UInt8}(h:bd w v bs)(hc:v.2.1<=v.2.2)(ht:TabW w):Ret Tryz.prog 93 #[.slice v.1 v.2.1 v.2.2] w fun r w'=>
  r=.tuple #[ix (fV false bs).1.e,.int .i64 (fV false bs).2]/\Fr none1 w w':=by
 refine c93 v.1 v.2.1 v.2.2 w _ ?_;unfold C93;refine ak.of fun g1 w1 dp au f1 kq=>ak.of fun g3 w2 qk aR f2 gw=>ak.of fun g5 w3 xD cY f3 pj=>?_;have xE:w3.heap[g5]? = some (.cells (gV bb.e).toArray 36 (0,0)):=cY;refine ar.aE (cs:=gV bb.e) (vs:=gV bb.e) xE rfl rfl fun w4 VL f4 sC=>?_;have f13:=(f1.trans f2).trans f3;have f14:Fr none1 w w4:=f13.fresh f4 (by have:=f13.size;omega);have VM:w4.heap[g3]? = _:=f4.ag (f3.af aR) (fun t=>by have:g3=g5:=t;omega);have CK:w4.heap[g1]? = some (.cells (gV bb.e).toArray 36 (0,0)):=f4.ag (f3.af (f2.af au)) (fun t=>by have:g1=g5:=t;omega);have VN:jC 274 w4 g3 w.heap.size (bs,false):=⟨v,VM,h.af f14,hc,fun hn k hk=>h.G2 hn hk⟩;refine ab.of (CJ VN (by omega) 1) ?_;rintro _ w5 ⟨x8,rfl,hx,Np,VO,f5⟩;refine⟨x8,rfl,?_⟩;have VP:w5.heap[g5]? = some (oz bb):=f5.jK VL (by omega);have VQ:=f5.jK CK (by omega);have f15:Fr none1 w w5:=f14.fresh f5 (by omega);have kW:(dQ false 1 (bs,false)).1.length<=1:=by
  unfold dQ;split
  ·simp
  ·dsimp only;rw[List.length_take];omega
 have hM:lB false bs=(eQ (fH (dQ false 1 (bs,false)).1:Int)).foldl (gU false) ((dQ false 1 (bs,false)).2,((fH (dQ false 1 (bs,false)).1:Int),[],[],[],[],0,0,.none)):=rfl;have ql:=G5 false bs;have hP:fV false bs=if zP false bs=true then((lB false bs).2,0) else(bb,2):=rfl;have hO:zP false bs=(!(lB false bs).1.2&&((dw (lB false bs).2).2==0&&((dw (lB false bs).2).1==bs&&(!false||(lB false bs).1.1==[])))):=rfl;generalize fV false bs=P at *;generalize zP false bs=O at *;generalize lB false bs=M at *;generalize dQ false 1 (bs,false)=x at *;have acy:=hx.len;refine bC.of (fun st w'=>∃ i:Nat,st.1=i/\i<=x.1.length/\w'.heap[g5]? = some (oz ((fH (x.1.take i):Int),[],[],[],[],0,0,.none))/\Fr (only g5) w5 w') (fun st _=>(1 - st.1).toNat) ⟨0,rfl,by omega,VP,Fr.refl _ _⟩ ?_;rintro _ ⟨i',_⟩ w6 ⟨i,hi,jf,Ae,f6⟩;dsimp only at hi ⊢;subst hi;have Nq:bd w6 x8 x.1:=hx.tM f6 fun hn k hk t=>by have:=Np hn k hk;have:k=g5:=t;omega
 have VR:=VO.ag f6 (fun t=>by have:g3=g5:=t;omega) (fun k t=>by have:k=g5:=t;omega);have CM:=f6.jK VQ (by omega);refine aa.dec (fun aU=>?_) (fun eu=>?_)
 ·refine bd.at Nq (by omega) aU ?_
  have hb:=(x.1.getD (Int.toNat (i:Int)) 0).toNat_lt;refine az.ah Ae (by show 0+0<8;omega) rfl fun w7 xF f7 _=>?_;rw[wI (by omega) (by omega)] at xF;refine⟨⟨i+1,by rw[wI (by omega) (by omega)];omega,by omega,?_,f6.trans f7⟩,by rw[wI (by omega) (by omega)];omega⟩;have xG:i=0:=by omega
  subst xG;rw[xF,EW x.1 0 (by omega)];show some (Obj.cells _ _ _)=some (Obj.cells _ _ _);simp[oz.xC,fH]
 rw[List.take_of_length_le (by omega)] at Ae;clear hx Nq Np;refine ae.ah Ae (x:=(fH x.1:Int)) rfl ?_;refine ab.of (Lj (fH x.1:Int) w6) ?_;rintro _ w7 ⟨fv,rfl,zk,f7,ff⟩;refine⟨fv,rfl,?_⟩;have s5:=f15.size;have s6:=f6.size;have s7:=f7.size;have xF:=f7.af Ae;have VS:=f7.af CM;have G8:=VR.af f7;have f17:Fr none1 w w7:=(f15.fresh f6 (by omega)).trans f7;have jP:=zk.len;rw[List.length_map] at jP;have BZ:(eQ (fH x.1:Int)).length<=7:=by unfold eQ;exact Nat.le_trans (List.length_filter_le _ _) (by decide)
 have tg:∀ c∈eQ (fH x.1:Int),c=73\/c=78\/c=76\/c=67\/c=68\/c=86\/c=84:=fun c h=>VK h;generalize eQ (fH x.1:Int)=L at *;obtain⟨X,hX⟩:∃ X:iO×aT,X=(x.2,((fH x.1:Int),[],[],[],[],0,0,.none)):=⟨_,rfl⟩;rw[<- hX] at hM;have G8:jC 274 w7 g3 w.heap.size X.1:=by rw[hX];exact G8
 have xF:w7.heap[g5]? = some (oz X.2):=by rw[hX];exact xF
 refine bC.of (fun st w'=>∃ i:Nat,st.1=i/\i<=L.length/\jC 274 w' g3 w.heap.size ((L.take i).foldl (gU false) X).1/\w'.heap[g5]? = some (oz ((L.take i).foldl (gU false) X).2)/\Fr (fun k=>k=g3\/k=g5) w7 w') (fun st _=>(L.length - st.1).toNat) ⟨0,rfl,by omega,G8,xF,Fr.refl _ _⟩ ?_;rintro _ ⟨i',_⟩ w8 ⟨i,hi,jf,G9,CN,f8⟩;dsimp only at hi ⊢;subst hi;have VT:kY w8 fv (L.map dW):=aF.ag zk f8 fun k hk t=>by have:=ff k hk;have h5:=bL Ae;rcases t with t | t<;>omega
 refine aa.dec (fun aU=>?_) (fun eu=>?_)
 ·have Ft:i<L.length:=by omega
  refine kY.ld VT (by omega) aU ?_;obtain⟨c,hc⟩:∃ c,L[i]? = some c:=⟨_,List.getElem?_eq_getElem Ft⟩;have Fu:(L.map dW).getD (Int.toNat (i:Int)) 0=dW c:=by
   rw[Int.toNat_natCast,List.getD_eq_getElem?_getD,List.getElem?_map,hc];rfl
  rw[Fu];refine ab.of (VH G9 (by omega) CN (by omega) (by omega) c (tg c (List.mem_of_getElem? hc))) ?_;rintro _ w9 ⟨rfl,VU,Ha,f9⟩;refine⟨(),rfl,⟨i+1,by rw[wI (by omega) (by omega)];omega,by omega,?_,?_,f8.trans f9⟩,by rw[wI (by omega) (by omega)];omega⟩
  ·rw[List.take_add_one,hc,List.foldl_append];exact VU
  ·rw[List.take_add_one,hc,List.foldl_append];exact Ha
 rw[List.take_of_length_le (by omega),<- hM] at G9 CN;have f18:Fr none1 w w8:=f17.comp f8 fun k hk t=>by rcases t with t | t<;>omega
 have VV:w8.heap[g1]? = _:=f8.ag VS (fun t=>by rcases t with t | t<;>omega)
 refine aq.aE (cks:=EK) (x:=M.2.e) CN ?_;refine ab.of (Nk M.2 ql w8 (ht.af f18)) ?_;rintro _ w9 ⟨u,rfl,hu,f9,uf⟩;refine⟨(u,(dw M.2).2,()),rfl,?_⟩;have vt:=f9.af VV;have Ha:=f9.af CN;have f19:=f18.trans f9;have fail:O=false->∀ aG,aG.heap[g1]? = some (.cells (gV bb.e).toArray 36 (0,0))->Fr none1 w aG->ar ⟨g1,0,none⟩ (gV bb.e) aG (fun bS=>aq EK ⟨g1,0,none⟩ bS (fun(y:dV)=>(Value.tuple #[ix y,.int .i64 2])=.tuple #[ix P.1.e,.int .i64 P.2]/\Fr none1 w bS)):=fun ho aG hb f10=>by
  rw[hP,ho];refine ar.aE (cs:=gV bb.e) (vs:=gV bb.e) hb rfl rfl fun aO qm f11 _=>aq.aE (cks:=EK) (x:=bb.e) qm ?_;exact⟨rfl,f10.fresh f11 (by omega)⟩
 obtain⟨ru,VW,hru,hrc,Ac⟩:=G9.af f9;refine ae.ah VW (x:=M.1.2) rfl ?_;refine aa.by (fun e=>fail (by rw[hO,e];rfl) w9 vt f19) (fun e=>?_);dsimp only;refine aa.ne (fun ay=>fail (by rw[hO,e];simp[ay]) w9 vt f19) (fun he=>?_);refine ab.of (G6 hu.rd (h.af f19)) ?_;rintro _ _ ⟨rfl,rfl⟩;refine⟨_,rfl,aa.not (aa.by (fun eq=>?_) (fun ne=>fail (by rw[hO,ne];simp) w9 vt f19))⟩;have ho:O=true:=by rw[hO,e,he,eq];rfl
 rw[hP,ho];refine aq.aE (cks:=EK) (x:=M.2.e) Ha ?_;refine ar.aE (cs:=gV bb.e) (vs:=gV M.2.e) vt rfl (GM (Tm.bW _)) fun aG VX f10 _=>aq.aE (cks:=EK) (x:=M.2.e) VX ?_;exact⟨rfl,f19.fresh f10 (by omega)⟩
namespace Vc
variable {P:Program}
abbrev CmV:=Int×Int×Int×Int×Int×ByteArray×(Option Addr×Nat×Nat)×(Option Addr×Nat×Nat)×Unit
def cmL (c:CmV):List Value:=[.int .i64 c.1,.int .i64 c.2.1,.int .i64 c.2.2.1,.int .i64 c.2.2.2.1,.int .i64 c.2.2.2.2.1,.string c.2.2.2.2.2.1,.slice c.2.2.2.2.2.2.1.1 c.2.2.2.2.2.2.1.2.1 c.2.2.2.2.2.2.1.2.2,.slice c.2.2.2.2.2.2.2.1.1 c.2.2.2.2.2.2.2.1.2.1 c.2.2.2.2.2.2.2.1.2.2]
def Nr (c:CmV):PlV:=(c.2.2.2.2.2.2.1,c.2.2.2.2.2.2.2.1,())
def IsCm (w:World)(c:CmV):Prop:=IsPl w (Nr c)/\(Lit.int .i64 c.1).wf=true/\(Lit.int .i64 c.2.1).wf=true/\(Lit.int .i64 c.2.2.1).wf=true/\(Lit.int .i64 c.2.2.2.1).wf=true/\(Lit.int .i64 c.2.2.2.2.1).wf=true/\c.2.2.2.2.2.1.size<=maxLen
theorem open_cmd {H:Type}{enc:TypeId×Value->H}{w:World}{base:Nat}{held:Bool}{t ti ts tp t0 t1 e0 e1:TypeId}{f0 f1 f2 f3 f4 f5 f6 g0 g1:Field}{fuel:Nat}{cs:List Value}{x:DataW H×List MemPlace}
  (ht:P.underlying t=some (.struct #[f0,f1,f2,f3,f4,f5,f6]))
  (q0:f0.type=ti/\f0.offset=0) (q1:f1.type=ti/\f1.offset=1) (q2:f2.type=ti/\f2.offset=2) (q3:f3.type=ti/\f3.offset=3) (q4:f4.type=ti/\f4.offset=4) (q5:f5.type=ts/\f5.offset=5) (q6:f6.type=tp/\f6.offset=6)
  (nZ:P.underlying ti=some (.int .i64)) (kc:P.underlying ts=some .string) (VY:P.underlying tp=some (.struct #[g0,g1])) (Hb:g0.type=t0) (dp:g1.type=t1) (GJ:g0.offset=0) (GK:g1.offset=1)
  (hc:P.cellsOf t=8) (vu:P.cellsOf ti=1) (hcs:P.cellsOf ts=1) (wH:P.cellsOf tp=2) (GL:P.cellsOf t0=1) (ov:P.cellsOf t1=1)
  (h0:P.underlying t0=some (.slice e0)) (h1:P.underlying t1=some (.slice e1)) (k0:P.underlying e0=some (.int .i64)) (k1:P.underlying e1=some .string) (d0:P.cellsOf e0=1) (d1:P.cellsOf e1=1)
  (h:DataW.trod enc P w base (fun _=>true) held fuel t cs=some x):∃ c:CmV,cs=cmL c/\IsCm w c:=by
 obtain⟨xs,n,_,_,hl,hlen,hf⟩:=DataW.trod_struct ht h;rw[hc] at hl
 match xs,hlen with
 | [y0,y1,y2,y3,y4,y5,y6],_=>
  match cs,hl with
  | [c0,c1,c2,c3,c4,c5,c6,c7],_=>
   have a0:=hf 0 f0 rfl;have a1:=hf 1 f1 rfl;have a2:=hf 2 f2 rfl;have a3:=hf 3 f3 rfl;have a4:=hf 4 f4 rfl;have a5:=hf 5 f5 rfl;have a6:=hf 6 f6 rfl;rw[q0.1,q0.2,vu] at a0;rw[q1.1,q1.2,vu] at a1;rw[q2.1,q2.2,vu] at a2;rw[q3.1,q3.2,vu] at a3;rw[q4.1,q4.2,vu] at a4;rw[q5.1,q5.2,hcs] at a5;rw[q6.1,q6.2,wH] at a6;simp only[List.drop_zero,List.drop_succ_cons,List.take_succ_cons,List.take_zero,List.getElem?_cons_zero,List.getElem?_cons_succ] at a0 a1 a2 a3 a4 a5 a6;obtain⟨z0,e0,_,w0⟩:=DataW.trod_int nZ a0;obtain⟨z1,e1,_,w1⟩:=DataW.trod_int nZ a1;obtain⟨z2,e2,_,w2⟩:=DataW.trod_int nZ a2;obtain⟨z3,e3,_,w3⟩:=DataW.trod_int nZ a3;obtain⟨z4,e4,_,w4⟩:=DataW.trod_int nZ a4;obtain⟨s5,e5,_,w5⟩:=DataW.trod_string kc a5;obtain⟨p,ep,hp⟩:=open_plan VY Hb dp GJ GK wH GL ov h0 h1 k0 k1 d0 d1 a6;simp only[List.cons.injEq,and_true] at e0 e1 e2 e3 e4 e5 ep;obtain⟨p1,p2⟩:=ep;subst e0;subst e1;subst e2;subst e3;subst e4;subst e5;subst p1;subst p2;exact⟨(z0,z1,z2,z3,z4,s5,p.1,p.2.1,()),rfl,hp,w0,w1,w2,w3,w4,w5⟩
end Vc
def xH (w:World)(S:Nat->Prop)(x:qj):Prop:=∃ (e:dV) (t:Tm) (v:TV),x=CC e v/\e.2.2.2.2.2.2.2.1=t.v/\pU e/\aK t<=2000/\rf t/\lF w S (rb t) v
structure lZ (w wc:World)(g1 g3 g5:Nat)(c:CmV):Prop where
 b1:wc.heap[g1]? = some (.cells (cmL c).toArray 55 (0,0))
 pl:IsPl w (Nr c)
 b3:∃ x:qj,wc.heap[g3]? = some (.cells (vn x).toArray 62 (0,0))
 b5:∃ x:qj,wc.heap[g5]? = some (.cells (vn x).toArray 62 (0,0))/\xH wc (fun k=>w.heap.size<=k/\k<wc.heap.size/\k≠g3/\k≠g5) x
 fr:Fr none1 w wc
 lo:w.heap.size<=g1/\w.heap.size<=g3/\w.heap.size<=g5/\g1≠g3/\g1≠g5/\g3≠g5
theorem xH.ag {w w':World}{S S' T:Nat->Prop}{x:qj}(h:xH w S x)(f:Fr T w w')(hn:∀ k,S k->¬ T k)(hs:∀ k,S k->S' k):xH w' S' x:=by
 obtain⟨e,t,v,h1,h2,h3,h4,h5,h6⟩:=h;exact⟨e,t,v,h1,h2,h3,h4,h5,lF.mono hs _ _ (lF.ag f hn _ _ h6)⟩
def Told (w:World)(r:Value)(w':World):Prop:=∃ x:qj,r=MX x/\xH w' (fun k=>w.heap.size<=k/\k<w'.heap.size) x/\Fr none1 w w'
theorem lZ.fin {w wc:World}{g1 g3 g5:Nat}{c:CmV}(h:lZ w wc g1 g3 g5 c):
  aq CD ⟨g5,0,none⟩ wc (fun(x:qj)=>ar ⟨g3,0,none⟩ (vn x) wc (fun w2=>aq CD ⟨g3,0,none⟩ w2 (fun(y:qj)=>Told w (MX y) w2))):=by
 obtain⟨x3,h3⟩:=h.b3;obtain⟨x5,h5,hf⟩:=h.b5;refine aq.aE (cks:=CD) (x:=x5) h5 ?_;refine ar.aE (cs:=vn x3) (vs:=vn x5) h3 rfl rfl fun w2 aI f2 _=>aq.aE (cks:=CD) (x:=x5) aI ?_;exact⟨x5,rfl,hf.ag f2 (fun k hk t=>hk.2.2.1 t) (fun k hk=>⟨hk.1,Nat.lt_of_lt_of_le hk.2.1 f2.size⟩),h.fr.fresh f2 h.lo.2.1⟩
theorem lZ.put {w wc wd:World}{g1 g3 g5:Nat}{c:CmV}(h:lZ w wc g1 g3 g5 c){x x':qj}(hx:wc.heap[g5]? = some (.cells (vn x).toArray 62 (0,0)))(f:Fr (only g5) wc wd)(hb:wd.heap[g5]? = some (.cells (vn x').toArray 62 (0,0)))
  (hf:xH wc (fun k=>w.heap.size<=k/\k<wc.heap.size/\k≠g3/\k≠g5) x'):lZ w wd g1 g3 g5 c:=by
 obtain⟨x3,h3⟩:=h.b3;obtain⟨l1,l2,l3,l4,l5,l6⟩:=h.lo;exact⟨f.ag h.b1 (fun t=>l5 t),h.pl,⟨x3,f.ag h3 (fun t=>l6 t)⟩,⟨x',hb,hf.ag f (fun k hk t=>hk.2.2.2 t) fun k hk=>⟨hk.1,Nat.lt_of_lt_of_le hk.2.1 f.size,hk.2.2⟩⟩,h.fr.fresh f l3,h.lo⟩
theorem lZ.s1 {w wc:World}{g1 g3 g5:Nat}{c:CmV}(h:lZ w wc g1 g3 g5 c)(s:ByteArray)(hs:s.size<=1000000){K:World->Prop}(k:∀ wd,lZ w wd g1 g3 g5 c->Fr (only g5) wc wd->K wd):az ((⟨g5,0,none⟩:Addr).add 1) (.string s) wc K:=by
 obtain⟨x5,h5,e,t,v,rfl,he,hz,hn,vo,hT⟩:=h.b5;exact az.ah h5 (by show 0+1<11;omega) rfl fun wd hb f _=>k wd (h.put h5 (x':=CC (e.1,s,e.2.2) v) f hb ⟨(e.1,s,e.2.2),t,v,rfl,he,⟨hs,hz.2⟩,hn,vo,hT⟩) f
theorem lZ.s2 {w wc:World}{g1 g3 g5:Nat}{c:CmV}(h:lZ w wc g1 g3 g5 c)(s:ByteArray)(hs:s.size<=1000000){K:World->Prop}(k:∀ wd,lZ w wd g1 g3 g5 c->Fr (only g5) wc wd->K wd):az ((⟨g5,0,none⟩:Addr).add 2) (.string s) wc K:=by
 obtain⟨x5,h5,e,t,v,rfl,he,hz,hn,vo,hT⟩:=h.b5;exact az.ah h5 (by show 0+2<11;omega) rfl fun wd hb f _=>k wd (h.put h5 (x':=CC (e.1,e.2.1,s,e.2.2.2) v) f hb ⟨(e.1,e.2.1,s,e.2.2.2),t,v,rfl,he,⟨hz.1,hs,hz.2.2⟩,hn,vo,hT⟩) f
theorem lZ.s3 {w wc:World}{g1 g3 g5:Nat}{c:CmV}(h:lZ w wc g1 g3 g5 c)(s:ByteArray)(hs:s.size<=1000000){K:World->Prop}(k:∀ wd,lZ w wd g1 g3 g5 c->Fr (only g5) wc wd->K wd):az ((⟨g5,0,none⟩:Addr).add 3) (.string s) wc K:=by
 obtain⟨x5,h5,e,t,v,rfl,he,hz,hn,vo,hT⟩:=h.b5;exact az.ah h5 (by show 0+3<11;omega) rfl fun wd hb f _=>k wd (h.put h5 (x':=CC (e.1,e.2.1,e.2.2.1,s,e.2.2.2.2) v) f hb ⟨(e.1,e.2.1,e.2.2.1,s,e.2.2.2.2),t,v,rfl,he,⟨hz.1,hz.2.1,hs,hz.2.2.2⟩,hn,vo,hT⟩) f
theorem Ns {p:Addr}{m:Nat}:∀ (vs:List Value) (w:World) (i:Nat),pF w p (m+i) vs->pF w (p.add m) i vs
 | [],_,_,_=>trivial
 | v::vs,w,i,⟨h1,h2,h3,h4⟩=>⟨h1,by rw[add_add];exact h2,by rw[add_add];exact h3,by rw[add_add];exact Ns vs _ (i+1) h4⟩
theorem Nt {p:Addr}{m:Nat}:∀ (vs:List Value) (w:World) (i:Nat),setCells w (p.add m) i vs=setCells w p (m+i) vs
 | [],_,_=>rfl
 | v::vs,w,i=>by
  show setCells (w.setCell ((p.add m).add i) v) (p.add m) (i+1) vs=setCells (w.setCell (p.add (m+i)) v) p (m+i+1) vs;rw[add_add,Nt vs _ (i+1)];rfl
theorem lZ.rs {w wc:World}{g1 g3 g5:Nat}{c:CmV}(h:lZ w wc g1 g3 g5 c){K:ByteArray->Prop}(k:∀ x,K x):ae .str ((⟨g1,0,none⟩:Addr).add 5) wc K:=ae.ah h.b1 (x:=c.2.2.2.2.2.1) rfl (k _)
theorem xI {S:Nat->Prop}{g i:Nat}{K:Prop}(hS:S g)(k:K):av S ((⟨g,0,none⟩:Addr).add i) K:=⟨by rw[dT];exact hS,k⟩
theorem VZ {w:World}{x:Sl}{xs:List UInt8}(hx:cd w x xs){y:Sl}{ys:List UInt8}(hy:cd w y ys)(hl:xs.length+ys.length<=140737488355000){K:(Option Addr×Nat×Nat)->World->Prop}
  (k:∀ (u:Sl) w',cd w' u (xs++ys)->Fr (aw x) w w'->(∀ k,aw u k->aw x k\/w.heap.size<=k)->K u w') :
  aA Tryz.prog (Builtin.append_ #[22,22] 22 #[.slice x.1 x.2.1 x.2.2,.slice y.1 y.2.1 y.2.2]) w (.v (.one .aj)) (fun(u:Option Addr×Nat×Nat) w'=>K u w'):=by
 obtain⟨u,w',hr,hu,f,uf⟩:=rO hx hy.rd hl;exact⟨u,w',hr,k u w' hu f uf⟩
def iR (z:Bool)(bs:List UInt8):(aT×Bool)×Int:=
 if bs=[]\/1<bs.getD 0 0 then((bb,false),2) else if(fV z (bs.drop 1)).2≠0 then((bb,false),(fV z (bs.drop 1)).2) else(((fV z (bs.drop 1)).1,bs.getD 0 0==1),0)
abbrev nF:List Ck:=[.int .i64,.str,.str,.str,.str,.int .i64,.int .i64,.raw,.bool]
def qn (e:dV)(r:Bool):List Value:=[.int .i64 e.1,.string e.2.1,.string e.2.2.1,.string e.2.2.2.1,.string e.2.2.2.2.1,.int .i64 e.2.2.2.2.2.1,.int .i64 e.2.2.2.2.2.2.1,e.2.2.2.2.2.2.2.1,.bool r]
theorem Hc {e:dV}(r:Bool)(h:bK e.2.2.2.2.2.2.2.1=true):(qn e r).all bK=true:=by
 show(bK (.int .i64 _)&&(bK (.string _)&&(bK (.string _)&&(bK (.string _)&&(bK (.string _)&&(bK (.int .i64 _)&&(bK (.int .i64 _)&&(bK e.2.2.2.2.2.2.2.1&&(bK (.bool r)&&true)))))))))=true;rw[h];rfl
theorem V4 {w:World}{v:Sl}{bs:List UInt8}(h:bd w v bs)(hc:v.2.1<=v.2.2)(ht:TabW w):Ret Tryz.prog 91 #[.slice v.1 v.2.1 v.2.2] w fun r w'=>
  r=.tuple #[GF (iR false bs).1.1.e (iR false bs).1.2,.int .i64 (iR false bs).2]/\Fr none1 w w':=by
 refine c91 v.1 v.2.1 v.2.2 w _ ?_;unfold C91;have hl:=h.len;refine ak.of fun g1 w1 dp au f1 kq=>?_;have au:w1.heap[g1]? = some (.cells (qn bb.e false).toArray 110 (0,0)):=au;have fail:∀ (code:Int) (q:iR false bs=((bb,false),code)) (w2:World),w2.heap[g1]? = some (.cells (qn bb.e false).toArray 110 (0,0))->Fr none1 w w2->ar ⟨g1,0,none⟩ (qn bb.e false) w2 (fun w3=>aq nF ⟨g1,0,none⟩ w3 (fun(y:MM)=>(Value.tuple #[.agg #[.int .i64 y.1,.string y.2.1,.string y.2.2.1,.string y.2.2.2.1,.string y.2.2.2.2.1,.int .i64 y.2.2.2.2.2.1,.int .i64 y.2.2.2.2.2.2.1,y.2.2.2.2.2.2.2.1,.bool y.2.2.2.2.2.2.2.2.1],.int .i64 code])=.tuple #[GF (iR false bs).1.1.e (iR false bs).1.2,.int .i64 (iR false bs).2]/\Fr none1 w w3)):=fun code q w2 hb f2=>by
  rw[q];refine ar.aE (cs:=qn bb.e false) (vs:=qn bb.e false) hb rfl rfl fun w3 aR f3 _=>aq.aE (cks:=nF) (x:=lh bb.e false) aR ?_;exact⟨rfl,f2.fresh f3 (by omega)⟩
 refine aa.eq (fun e=>?_) (fun e=>?_)
 ·have:bs=[]:=List.eq_nil_of_length_eq_zero (by omega)
  exact fail 2 (by unfold iR;rw[if_pos (.inl this)]) w1 au f1
 have ay:bs≠[]:=fun t=>by subst t;exact e (by rw[hl];rfl)
 have hlp:0<bs.length:=by cases bs with
  | nil=>exact(ay rfl).elim
  | cons _ _=>simp
 refine bd.at (h.af f1) (Int.le_refl _) (by omega) ?_;rw[show Int.toNat 0=0 by rfl];refine aa.dec (fun oy=>?_) (fun hle=>?_)
 ·exact fail 2 (by unfold iR;rw[if_pos (.inr (by rw[UInt8.lt_iff_toNat_lt];show 1<_;omega))]) w1 au f1
 have EJ:¬ 1<bs.getD 0 0:=fun t=>hle (by rw[UInt8.lt_iff_toNat_lt] at t;have:(1:UInt8).toNat=1:=rfl;omega);have hE:iR false bs=if(fV false (bs.drop 1)).2≠0 then((bb,false),(fV false (bs.drop 1)).2) else(((fV false (bs.drop 1)).1,bs.getD 0 0==1),0):=by
  unfold iR;rw[if_neg (fun t=>t.elim ay EJ)]
 refine bd.jV (h.af f1) (by omega) (by omega) (Int.le_refl _) hc fun u hu rh dk mH=>?_;have e2:(bs.drop (1:Int).toNat).take ((v.2.1:Int) - 1).toNat=bs.drop 1:=by
  rw[show(1:Int).toNat=1 by rfl];exact List.take_of_length_le (by rw[List.length_drop];omega)
 rw[e2] at hu;refine ab.of (G7 hu rh (ht.af f1)) ?_;rintro _ w2 ⟨rfl,f2⟩;refine⟨((fV false (bs.drop 1)).1.e,(fV false (bs.drop 1)).2,()),rfl,?_⟩;generalize fV false (bs.drop 1)=P at *;have f12:=f1.trans f2;refine cM (zs:=gV bb.e) (vs:=gV P.1.e) rfl (GM (Tm.bW _)) fun g4 w4 V5 dy f4=>?_;have s2:=f2.size;have CK:=f4.af (f2.af au);have f14:=f12.trans f4;refine aa.ne (fun hc=>?_) (fun hc=>?_)
 ·exact fail P.2 (by rw[hE,if_pos hc]) w4 CK f14
 refine aD.of fun w5 _ f5=>?_;refine aq.aE (cks:=EK) (x:=P.1.e) (f5.af dy) ?_;refine bd.at ((h.af f14).af f5) (Int.le_refl _) (by omega) ?_;rw[show Int.toNat 0=0 by rfl];have V6:(((bs.getD 0 0).toNat:Int)==1)=(bs.getD 0 0==1):=by
  rw[Bool.eq_iff_iff];simp only[beq_iff_eq];exact⟨fun t=>UInt8.toNat_inj.1 (by have:(1:UInt8).toNat=1:=rfl;omega),fun t=>by rw[t];rfl⟩
 rw[V6];refine ar.aE (cs:=qn bb.e false) (vs:=qn P.1.e (bs.getD 0 0==1)) (f5.af CK) rfl (Hc _ (Tm.bW _)) fun w6 fq f6 _=>aq.aE (cks:=nF) (x:=lh P.1.e (bs.getD 0 0==1)) fq ?_;rw[hE,if_neg (fun t=>t hc)];exact⟨rfl,(f14.trans f5).fresh f6 (by omega)⟩
namespace Vc
theorem bQ.Hd {base:Option Addr}{len:Nat}{i:Int}{size:Nat}{K:Addr->Prop}{S:Nat->Prop}(hS:∀ a,base=some a->S a.block)(h:bQ base len i size K):bQ base len i size fun p=>av S p (K p):=by
 obtain⟨a,ha,h0,h1,k⟩:=h.out;exact⟨a,ha,h0,h1,⟨by rw[Kw];exact hS a ha,k⟩⟩
theorem ai.same {S:Nat->Prop}{w:World}{K:Prop}(k:K):ai S w w K:=ai.of (Fr.refl _ _) k
end Vc
def C199 (p0:Int)(p1:Int)(w:World)(K:Value->World->Prop):Prop:=
 jJ (IntKind.u64.wrap ((BitVec.ofInt 64 (IntKind.u64.wrap p1) &&& BitVec.ofInt 64 63).toNat:Int)) (jJ (IntKind.u64.wrap (64 - (IntKind.u64.wrap ((BitVec.ofInt 64 (IntKind.u64.wrap p1) &&& BitVec.ofInt 64 63).toNat:Int)))) (K (.int .u64 (IntKind.u64.wrap ((BitVec.ofInt 64 (IntKind.u64.wrap (p0 * 2 ^ (min (Int.toNat (IntKind.u64.wrap ((BitVec.ofInt 64 (IntKind.u64.wrap p1) &&& BitVec.ofInt 64 63).toNat:Int))) 64))) ||| BitVec.ofInt 64 (Int.fdiv p0 (2 ^ (min (Int.toNat (IntKind.u64.wrap (64 - (IntKind.u64.wrap ((BitVec.ofInt 64 (IntKind.u64.wrap p1) &&& BitVec.ofInt 64 63).toNat:Int))))) 64)))).toNat:Int))) w))
def pl199:aB:=.auto
theorem c199 (p0:Int)(p1:Int)(w:World)(K:Value->World->Prop)(h:C199 p0 p1 w K):Ret Tryz.prog 199 #[.int .u64 p0,.int .i64 p1] w K:=aC (by kernel_rfl) Tryz.func199 (p:=pl199) (Eq.mpr (by kernel_rfl) h)
def C154 (p0:Addr)(w:World)(K:Value->World->Prop):Prop:=
 aD w (fun w1=>ae (.int .u64) (p0.add 0) w1 (fun(x2:Int)=>ae (.int .u64) (p0.add 1) w1 (fun(x3:Int)=>az (p0.add 0) (.int .u64 (IntKind.u64.wrap (x2+x3))) w1 (fun w4=>aD w4 (fun w5=>aV (fun S6=>av S6 (p0.add 1) (ae (.int .u64) (p0.add 1) w5 (fun(x7:Int)=>av S6 (p0.add 0) (ae (.int .u64) (p0.add 0) w5 (fun(x8:Int)=>ab Tryz.prog 199 #[.int .u64 x7,.int .i64 13] w5 (.v (.one (.int .u64))) (fun(x9:Int) aG=>ai S6 w5 aG (az (p0.add 1) (.int .u64 (IntKind.u64.wrap ((BitVec.ofInt 64 x9 ^^^ BitVec.ofInt 64 x8).toNat:Int))) aG (fun aO=>ae (.int .u64) (p0.add 0) aO (fun(bx:Int)=>ab Tryz.prog 199 #[.int .u64 bx,.int .i64 32] aO (.v (.one (.int .u64))) (fun(bz:Int) bo=>az (p0.add 0) (.int .u64 bz) bo (fun bM=>aD bM (fun bj=>ae (.int .u64) (p0.add 2) bj (fun(ba:Int)=>ae (.int .u64) (p0.add 3) bj (fun(bB:Int)=>az (p0.add 2) (.int .u64 (IntKind.u64.wrap (ba+bB))) bj (fun bu=>aD bu (fun bh=>aV (fun mI=>av mI (p0.add 3) (ae (.int .u64) (p0.add 3) bh (fun(bU:Int)=>av mI (p0.add 2) (ae (.int .u64) (p0.add 2) bh (fun(cv:Int)=>ab Tryz.prog 199 #[.int .u64 bU,.int .i64 16] bh (.v (.one (.int .u64))) (fun(cm:Int) di=>ai mI bh di (az (p0.add 3) (.int .u64 (IntKind.u64.wrap ((BitVec.ofInt 64 cm ^^^ BitVec.ofInt 64 cv).toNat:Int))) di (fun cn=>aD cn (fun eN=>ae (.int .u64) (p0.add 0) eN (fun(eR:Int)=>ae (.int .u64) (p0.add 3) eN (fun(cB:Int)=>az (p0.add 0) (.int .u64 (IntKind.u64.wrap (eR+cB))) eN (fun bS=>aD bS (fun fo=>aV (fun He=>av He (p0.add 3) (ae (.int .u64) (p0.add 3) fo (fun(dA:Int)=>av He (p0.add 0) (ae (.int .u64) (p0.add 0) fo (fun(dh:Int)=>ab Tryz.prog 199 #[.int .u64 dA,.int .i64 21] fo (.v (.one (.int .u64))) (fun(dv:Int) dd=>ai He fo dd (az (p0.add 3) (.int .u64 (IntKind.u64.wrap ((BitVec.ofInt 64 dv ^^^ BitVec.ofInt 64 dh).toNat:Int))) dd (fun dz=>aD dz (fun ic=>ae (.int .u64) (p0.add 2) ic (fun(fk:Int)=>ae (.int .u64) (p0.add 1) ic (fun(iK:Int)=>az (p0.add 2) (.int .u64 (IntKind.u64.wrap (fk+iK))) ic (fun kA=>aD kA (fun gx=>aV (fun Hf=>av Hf (p0.add 1) (ae (.int .u64) (p0.add 1) gx (fun(iY:Int)=>av Hf (p0.add 2) (ae (.int .u64) (p0.add 2) gx (fun(gX:Int)=>ab Tryz.prog 199 #[.int .u64 iY,.int .i64 17] gx (.v (.one (.int .u64))) (fun(kx:Int) gI=>ai Hf gx gI (az (p0.add 1) (.int .u64 (IntKind.u64.wrap ((BitVec.ofInt 64 kx ^^^ BitVec.ofInt 64 gX).toNat:Int))) gI (fun gF=>ae (.int .u64) (p0.add 2) gF (fun(fD:Int)=>ab Tryz.prog 199 #[.int .u64 fD,.int .i64 32] gF (.v (.one (.int .u64))) (fun(iL:Int) kB=>az (p0.add 2) (.int .u64 iL) kB (fun fh=>K (.tuple #[]) fh))))))))))))))))))))))))))))))))))))))))))))))))))))))))))
def pl154:aB:=(.seq (.tail 11) (.seq (.held (.soft 0 (.soft 1 (.soft 2 (.soft 3 (.soft 4 (.soft 6 (.soft 7 (.soft 8 (.soft 9 (.pick 5 (.soft 10 (.soft 11 (.soft 12 (.last 13 .done)))) .stop))))))))))) (.seq .auto (.seq (.tail 11) (.seq (.held (.soft 0 (.soft 1 (.soft 2 (.soft 3 (.soft 4 (.soft 6 (.soft 7 (.soft 8 (.soft 9 (.pick 5 (.soft 10 (.soft 11 (.soft 12 (.last 13 .done)))) .stop))))))))))) (.seq (.tail 11) (.seq (.held (.soft 0 (.soft 1 (.soft 2 (.soft 3 (.soft 4 (.soft 6 (.soft 7 (.soft 8 (.soft 9 (.pick 5 (.soft 10 (.soft 11 (.soft 12 (.last 13 .done)))) .stop))))))))))) (.seq (.tail 11) (.seq (.held (.soft 0 (.soft 1 (.soft 2 (.soft 3 (.soft 4 (.soft 6 (.soft 7 (.soft 8 (.soft 9 (.pick 5 (.soft 10 (.soft 11 (.soft 12 (.last 13 .done)))) .stop))))))))))) .auto)))))))))
theorem c154 (p0:Addr)(w:World)(K:Value->World->Prop)(h:C154 p0 w K):Ret Tryz.prog 154 #[.pointer (some p0)] w K:=aC (by kernel_rfl) Tryz.func154 (p:=pl154) (Eq.mpr (by kernel_rfl) h)
def C106 (p0:Addr)(p1:Int)(w:World)(K:Value->World->Prop):Prop:=
 bC (Int×Unit) (fun _ s1 w2 gO=>aa (decide (s1.1<p1))
 (ab Tryz.prog 154 #[.pointer (some p0)] w2 (.aN []) (fun(x4:Unit) w5=>gO (IntKind.i64.wrap (s1.1+1),()) w5))
 (K (.tuple #[]) w2))
 (0,()) w
def pl106:aB:=(.seq .auto (.block (.loop [(5,.one (.int .i64))] .auto)))
theorem c106 (p0:Addr)(p1:Int)(w:World)(K:Value->World->Prop)(h:C106 p0 p1 w K):Ret Tryz.prog 106 #[.pointer (some p0),.int .i64 p1] w K:=aC (by kernel_rfl) Tryz.func106 (p:=pl106) (Eq.mpr (by kernel_rfl) h)
def C105 (p0:Addr)(p1:Int)(w:World)(K:Value->World->Prop):Prop:=
 ae (.int .u64) (p0.add 3) w (fun(x1:Int)=>az (p0.add 3) (.int .u64 (IntKind.u64.wrap ((BitVec.ofInt 64 x1 ^^^ BitVec.ofInt 64 p1).toNat:Int))) w (fun w2=>ab Tryz.prog 106 #[.pointer (some p0),.int .i64 2] w2 (.aN []) (fun(x3:Unit) w4=>ae (.int .u64) (p0.add 0) w4 (fun(x5:Int)=>az (p0.add 0) (.int .u64 (IntKind.u64.wrap ((BitVec.ofInt 64 x5 ^^^ BitVec.ofInt 64 p1).toNat:Int))) w4 (fun w6=>K (.tuple #[]) w6)))))
def pl105:aB:=.auto
theorem c105 (p0:Addr)(p1:Int)(w:World)(K:Value->World->Prop)(h:C105 p0 p1 w K):Ret Tryz.prog 105 #[.pointer (some p0),.int .u64 p1] w K:=aC (by kernel_rfl) Tryz.func105 (p:=pl105) (Eq.mpr (by kernel_rfl) h)
def C104 (p0:Option Addr)(aJ aP:Nat)(w:World)(K:Value->World->Prop):Prop:=
 bC (Int×Int×Unit) (fun _ s1 w2 gO=>aa (decide (s1.2.1<(aJ:Int)))
 (bQ p0 aJ s1.2.1 1 (fun a4=>ae (.int .u8) a4 w2 (fun(x5:Int)=>jJ (IntKind.i64.wrap (8 * s1.2.1)) (gO (IntKind.u64.wrap ((BitVec.ofInt 64 s1.1 ||| BitVec.ofInt 64 (IntKind.u64.wrap ((IntKind.u64.wrap x5) * 2 ^ (min (Int.toNat (IntKind.i64.wrap (8 * s1.2.1))) 64)))).toNat:Int),IntKind.i64.wrap (s1.2.1+1),()) w2))))
 (K (.int .u64 s1.1) w2))
 (0,0,()) w
def pl104:aB:=(.seq .auto (.seq .auto (.seq (.seq .auto (.block (.loop [(3,.one (.int .u64)),(8,.one (.int .i64))] .auto))) .auto)))
theorem c104 (p0:Option Addr)(aJ aP:Nat)(w:World)(K:Value->World->Prop)(h:C104 p0 aJ aP w K):Ret Tryz.prog 104 #[.slice p0 aJ aP] w K:=aC (by kernel_rfl) Tryz.func104 (p:=pl104) (Eq.mpr (by kernel_rfl) h)
def C50 (p0:List Value)(p1:Option Addr)(cw cN:Nat)(w:World)(K:Value->World->Prop):Prop:=
 ak (.cells p0.toArray 24) w (fun g1 w2=>aD w2 (fun w3=>aV (fun S4=>eX (some (ad g1)) 16 0 8 16 1 (fun a5 l6 c7=>eX (some (ad g1)) 16 8 16 16 1 (fun a8 l9 c10=>ab Tryz.prog 104 #[.slice a5 l6 c7] w3 (.v (.one (.int .u64))) (fun(aX:Int) aL=>ai S4 w3 aL (ab Tryz.prog 104 #[.slice a8 l9 c10] aL (.v (.one (.int .u64))) (fun(bz:Int) bo=>ai S4 aL bo (ak (.cells #[.int .u64 (IntKind.u64.wrap ((BitVec.ofInt 64 aX ^^^ BitVec.ofInt 64 8317987319222330741).toNat:Int)),.int .u64 (IntKind.u64.wrap ((BitVec.ofInt 64 bz ^^^ BitVec.ofInt 64 7237128888997146477).toNat:Int)),.int .u64 (IntKind.u64.wrap ((BitVec.ofInt 64 aX ^^^ BitVec.ofInt 64 7816392313619706465).toNat:Int)),.int .u64 (IntKind.u64.wrap ((BitVec.ofInt 64 bz ^^^ BitVec.ofInt 64 8387220255154660723).toNat:Int))] 202) bo (fun g15 bj=>ur 8 (bC (Int×Unit) (fun _ vv bt V7=>aa (decide (vv.1<(IntKind.i64.wrap ((IntKind.i64.wrap (Int.tdiv (cw:Int) 8)) * 8))))
 (eX p1 cN vv.1 (IntKind.i64.wrap (vv.1+8)) cN 1 (fun a20 Hg c22=>ab Tryz.prog 104 #[.slice a20 Hg c22] bt (.v (.one (.int .u64))) (fun(cv:Int) cg=>ab Tryz.prog 105 #[.pointer (some (ad g15)),.int .u64 cv] cg (.aN []) (fun(bD:Unit) cn=>V7 (IntKind.i64.wrap (vv.1+8),()) cn))))
 (eX p1 cN (IntKind.i64.wrap ((IntKind.i64.wrap (Int.tdiv (cw:Int) 8)) * 8)) cw cN 1 (fun zZ Aa c29=>ab Tryz.prog 104 #[.slice zZ Aa c29] bt (.v (.one (.int .u64))) (fun(eB:Int) fo=>jJ 56 (ab Tryz.prog 105 #[.pointer (some (ad g15)),.int .u64 (IntKind.u64.wrap ((BitVec.ofInt 64 eB ||| BitVec.ofInt 64 (IntKind.u64.wrap ((IntKind.u64.wrap (cw:Int)) * 2 ^ (min (Int.toNat 56) 64)))).toNat:Int))] fo (.aN []) (fun(df:Unit) dE=>ae (.int .u64) ((ad g15).add 2) dE (fun(dh:Int)=>az ((ad g15).add 2) (.int .u64 (IntKind.u64.wrap ((BitVec.ofInt 64 dh ^^^ BitVec.ofInt 64 255).toNat:Int))) dE (fun dL=>ab Tryz.prog 106 #[.pointer (some (ad g15)),.int .i64 4] dL (.aN []) (fun(eg:Unit) dz=>aD dz (fun ic=>ae (.int .u64) ((ad g15).add 0) ic (fun(fk:Int)=>ae (.int .u64) ((ad g15).add 1) ic (fun(iK:Int)=>ae (.int .u64) ((ad g15).add 2) ic (fun(eM:Int)=>ae (.int .u64) ((ad g15).add 3) ic (fun(iA:Int)=>K (.int .u64 (IntKind.u64.wrap ((BitVec.ofInt 64 (IntKind.u64.wrap ((BitVec.ofInt 64 (IntKind.u64.wrap ((BitVec.ofInt 64 fk ^^^ BitVec.ofInt 64 iK).toNat:Int)) ^^^ BitVec.ofInt 64 eM).toNat:Int)) ^^^ BitVec.ofInt 64 iA).toNat:Int))) ic))))))))))))))
 (0,()) bj)))))))))))
def pl50:aB:=(.seq .auto (.seq (.held (.soft 0 (.soft 2 (.pick 1 (.pick 3 (.soft 4 (.soft 5 .done)) .stop) .stop)))) (.seq .auto (.seq .auto (.seq (.seq .auto (.block (.loop [(9,.one (.int .i64))] .auto))) (.seq .auto (.seq .auto (.seq .auto (.seq .still .auto)))))))))
theorem c50 (p0:List Value)(p1:Option Addr)(cw cN:Nat)(w:World)(K:Value->World->Prop)(h:C50 p0 p1 cw cN w K):Ret Tryz.prog 50 #[.agg p0.toArray,.slice p1 cw cN] w K:=aC (by kernel_rfl) Tryz.func50 (p:=pl50) (Eq.mpr (by kernel_rfl) h)
def C49 (p0:Int)(w:World)(K:Value->World->Prop):Prop:=
 aA Tryz.prog (Instr.makeSlice 22 (.int .i64 8) (.int .i64 8)) w (.v (.one .aj)) (fun(x1:an) w2=>bC (Int×Unit) (fun _ s3 w4 kV=>aa (decide (s3.1<(x1.2.1:Int)))
 (jJ (IntKind.i64.wrap (8 * s3.1)) (bQ x1.1 x1.2.1 s3.1 1 (fun a6=>az a6 (.int .u8 (IntKind.u8.wrap (Int.fdiv p0 (2 ^ (min (Int.toNat (IntKind.i64.wrap (8 * s3.1))) 64))))) w4 (fun w7=>kV (IntKind.i64.wrap (s3.1+1),()) w7))))
 (K (.slice x1.1 x1.2.1 x1.2.2) w4))
 (0,()) w2)
def pl49:aB:=(.seq .auto (.seq .auto (.seq (.seq .auto (.block (.loop [(8,.one (.int .i64))] .auto))) .auto)))
theorem c49 (p0:Int)(w:World)(K:Value->World->Prop)(h:C49 p0 w K):Ret Tryz.prog 49 #[.int .u64 p0] w K:=aC (by kernel_rfl) Tryz.func49 (p:=pl49) (Eq.mpr (by kernel_rfl) h)
def C108 (p0:Option Addr)(aJ aP:Nat)(w:World)(K:Value->World->Prop):Prop:=
 aa ((aJ:Int) != 8)
 (K (.tuple #[.int .u64 0,.bool false]) w)
 (ab Tryz.prog 104 #[.slice p0 aJ aP] w (.v (.one (.int .u64))) (fun(x1:Int) w2=>K (.tuple #[.int .u64 x1,.bool true]) w2))
def pl108:aB:=.auto
theorem c108 (p0:Option Addr)(aJ aP:Nat)(w:World)(K:Value->World->Prop)(h:C108 p0 aJ aP w K):Ret Tryz.prog 108 #[.slice p0 aJ aP] w K:=aC (by kernel_rfl) Tryz.func108 (p:=pl108) (Eq.mpr (by kernel_rfl) h)
def C48 (p0:Option Addr)(aJ aP:Nat)(p1:Option Addr)(cw cN:Nat)(w:World)(K:Value->World->Prop):Prop:=
 ab Tryz.prog 53 #[.slice p0 aJ aP,.slice p1 cw cN] w (.v (.one .bool)) (fun(x1:Bool) w2=>K (.bool x1) w2)
def pl48:aB:=.auto
theorem c48 (p0:Option Addr)(aJ aP:Nat)(p1:Option Addr)(cw cN:Nat)(w:World)(K:Value->World->Prop)(h:C48 p0 aJ aP p1 cw cN w K):Ret Tryz.prog 48 #[.slice p0 aJ aP,.slice p1 cw cN] w K:=aC (by kernel_rfl) Tryz.func48 (p:=pl48) (Eq.mpr (by kernel_rfl) h)
namespace Vc
theorem eK.of {w:World}{b n:Nat}{cs:List Value}{T:TypeId}{fr:Nat×Nat}(hb:w.heap[b]? = some (.cells cs.toArray T fr))(hn:cs.length=n){K:List Value->Prop}(k:K cs):eK n ⟨b,0,none⟩ w K:=
 ⟨cs,hn,nY hb _ 0 fun j _=>by simp,k⟩
end Vc
def CO (s:lg):Array Value:=#[.int .u64 s.1,.int .u64 s.2.1,.int .u64 s.2.2.1,.int .u64 s.2.2.2]
def iB (w:World)(b:Nat)(s:lg):Prop:=w.heap[b]? = some (.cells (CO s) 202 (0,0))
theorem V8 (x k:Int)(hk:k=13\/k=16\/k=17\/k=21\/k=32)(w:World):Ret Tryz.prog 199 #[.int .u64 x,.int .i64 k] w fun r w'=>r=.int .u64 (gk x k.toNat)/\w=w':=by
 refine c199 x k w _ ?_;unfold C199 gk;have e1:IntKind.u64.wrap ((BitVec.ofInt 64 (IntKind.u64.wrap k) &&& BitVec.ofInt 64 63).toNat:Int)=k:=by rcases hk with rfl | rfl | rfl | rfl | rfl<;>decide
 have e2:IntKind.u64.wrap (64 - k)=64 - k:=by rcases hk with rfl | rfl | rfl | rfl | rfl<;>decide
 have e3:Int.toNat (64 - k)=64 - k.toNat:=by rcases hk with rfl | rfl | rfl | rfl | rfl<;>decide
 rw[e1,e2,e3];exact⟨by rcases hk with rfl | rfl | rfl | rfl | rfl<;>decide,by rcases hk with rfl | rfl | rfl | rfl | rfl<;>decide,rfl,rfl⟩
theorem xJ (x k:Int)(hk:k=13\/k=16\/k=17\/k=21\/k=32)(w:World){K:Int->World->Prop}(h:K (gk x k.toNat) w):ab Tryz.prog 199 #[.int .u64 x,.int .i64 k] w (.v (.one (.int .u64))) (fun(y:Int) w'=>K y w'):=by
 refine ab.of (V8 x k hk w) ?_;rintro _ _ ⟨rfl,rfl⟩;exact⟨_,rfl,h⟩
theorem iB.ld {w:World}{b:Nat}{s:lg}(h:iB w b s){o:Nat}{x:Int}(hx:(CO s)[o]? = some (.int .u64 x)){K:Int->Prop}(k:K x):ae (.int .u64) ((⟨b,0,none⟩:Addr).add o) w K:=ae.ah h (x:=x) (by rw[Nat.zero_add];exact hx) k
theorem iB.st {w:World}{b:Nat}{s s':lg}(h:iB w b s){o:Nat}{x:Int}(ho:o<4)(hs:(CO s).setIfInBounds o (.int .u64 x)=CO s'){K:World->Prop}(k:∀ w1,iB w1 b s'->Fr (only b) w w1->K w1):az ((⟨b,0,none⟩:Addr).add o) (.int .u64 x) w K:=
 az.ah h (by show 0+o<4;omega) rfl fun w1 hb f _=>k w1 (by unfold iB;rw[hb,Nat.zero_add,hs]) f
theorem iB.af {w w':World}{b:Nat}{s:lg}(h:iB w b s)(f:Fr none1 w w'):iB w' b s:=f.af h
theorem V9 {w:World}{b:Nat}{s:lg}(h:iB w b s):Ret Tryz.prog 154 #[.pointer (some ⟨b,0,none⟩)] w fun r w'=>r=.tuple #[]/\iB w' b (Gz s)/\Fr (only b) w w':=by
 refine c154 _ w _ ?_;unfold C154;obtain⟨a0,a1,a2,a3⟩:=s;refine aD.of fun w1 _ f1=>?_;have h:=h.af f1;refine h.ld rfl (h.ld rfl (h.st (s':=(eJ a0 a1,a1,a2,a3)) (by decide) rfl fun w2 h f2=>?_));have F:=(Fr.eL f1 f2);refine aD.of fun w3 _ f3=>aV.all (av.all (iB.ld (h.af f3) rfl (av.all (iB.ld (h.af f3) rfl ?_))));have h:=h.af f3;have F:=F.dq f3;refine xJ _ 13 (by decide) _ (ai.same (h.st (s':=(eJ a0 a1,dX (gk a1 13) (eJ a0 a1),a2,a3)) (by decide) rfl fun w4 h f4=>?_));have F:=F.trans f4;refine h.ld rfl (xJ _ 32 (by decide) _ (h.st (s':=(gk (eJ a0 a1) 32,dX (gk a1 13) (eJ a0 a1),a2,a3)) (by decide) rfl fun w5 h f5=>?_));have F:=F.trans f5;have e:Gz (a0,a1,a2,a3)=(eJ (gk (eJ a0 a1) 32) (dX (gk a3 16) (eJ a2 a3)),dX (gk (dX (gk a1 13) (eJ a0 a1)) 17) (eJ (eJ a2 a3) (dX (gk a1 13) (eJ a0 a1))),gk (eJ (eJ a2 a3) (dX (gk a1 13) (eJ a0 a1))) 32,dX (gk (dX (gk a3 16) (eJ a2 a3)) 21) (eJ (gk (eJ a0 a1) 32) (dX (gk a3 16) (eJ a2 a3)))):=rfl;rw[e];generalize dX (gk a1 13) (eJ a0 a1)=b1 at *;generalize gk (eJ a0 a1) 32=b0 at *;refine aD.of fun w6 _ f6=>?_;have h:=h.af f6;have F:=F.dq f6;refine h.ld rfl (h.ld rfl (h.st (s':=(b0,b1,eJ a2 a3,a3)) (by decide) rfl fun w7 h f7=>?_));have F:=F.trans f7;refine aD.of fun w8 _ f8=>aV.all (av.all (iB.ld (h.af f8) rfl (av.all (iB.ld (h.af f8) rfl ?_))));have h:=h.af f8;have F:=F.dq f8;refine xJ _ 16 (by decide) _ (ai.same (h.st (s':=(b0,b1,eJ a2 a3,dX (gk a3 16) (eJ a2 a3))) (by decide) rfl fun w9 h f9=>?_));have F:=F.trans f9;generalize dX (gk a3 16) (eJ a2 a3)=b3 at *;generalize eJ a2 a3=b2 at *;refine aD.of fun aG _ f10=>?_;have h:=h.af f10;have F:=F.dq f10;refine h.ld rfl (h.ld rfl (h.st (s':=(eJ b0 b3,b1,b2,b3)) (by decide) rfl fun aO h f11=>?_));have F:=F.trans f11;refine aD.of fun aL _ f12=>aV.all (av.all (iB.ld (h.af f12) rfl (av.all (iB.ld (h.af f12) rfl ?_))));have h:=h.af f12;have F:=F.dq f12;refine xJ _ 21 (by decide) _ (ai.same (h.st (s':=(eJ b0 b3,b1,b2,dX (gk b3 21) (eJ b0 b3))) (by decide) rfl fun aY h f13=>?_));have F:=F.trans f13;generalize dX (gk b3 21) (eJ b0 b3)=c3 at *;generalize eJ b0 b3=c0 at *;refine aD.of fun bo _ f14=>?_;have h:=h.af f14;have F:=F.dq f14;refine h.ld rfl (h.ld rfl (h.st (s':=(c0,b1,eJ b2 b1,c3)) (by decide) rfl fun bM h f15=>?_));have F:=F.trans f15;refine aD.of fun bj _ f16=>aV.all (av.all (iB.ld (h.af f16) rfl (av.all (iB.ld (h.af f16) rfl ?_))));have h:=h.af f16;have F:=F.dq f16;refine xJ _ 17 (by decide) _ (ai.same (h.st (s':=(c0,dX (gk b1 17) (eJ b2 b1),eJ b2 b1,c3)) (by decide) rfl fun cj h f17=>?_));have F:=F.trans f17;refine h.ld rfl (xJ _ 32 (by decide) _ (h.st (s':=(c0,dX (gk b1 17) (eJ b2 b1),gk (eJ b2 b1) 32,c3)) (by decide) rfl fun bt h f18=>?_));exact⟨rfl,h,F.trans f18⟩
theorem Nu {w:World}{b:Nat}{s:lg}(h:iB w b s)(n:Nat)(hn:n<=100):Ret Tryz.prog 106 #[.pointer (some ⟨b,0,none⟩),.int .i64 (n:Int)] w fun r w'=>r=.tuple #[]/\iB w' b (qh n s)/\Fr (only b) w w':=by
 refine c106 _ _ w _ ?_;unfold C106;refine bC.of (fun st w'=>∃ i:Nat,st.1=i/\i<=n/\iB w' b (qh i s)/\Fr (only b) w w') (fun st _=>(n - st.1).toNat) ⟨0,rfl,by omega,h,Fr.refl _ _⟩ ?_;rintro _ ⟨i',_⟩ w1 ⟨i,hi,mr,h1,f1⟩;dsimp only at hi ⊢;subst hi;refine aa.dec (fun aU=>?_) (fun eu=>?_)
 ·refine ab.of (V9 h1) ?_
  rintro _ w2 ⟨rfl,h2,f2⟩;refine⟨(),rfl,?_⟩;rw[wI (by omega) (by omega)];exact⟨⟨i+1,by omega,by omega,h2,f1.trans f2⟩,by omega⟩
 ·obtain rfl:i=n:=by omega
  exact⟨rfl,h1,f1⟩
theorem Nv {w:World}{b:Nat}{s:lg}(h:iB w b s)(m:Int):Ret Tryz.prog 105 #[.pointer (some ⟨b,0,none⟩),.int .u64 m] w fun r w'=>r=.tuple #[]/\iB w' b (zT m s)/\Fr (only b) w w':=by
 refine c105 _ _ w _ ?_;unfold C105 zT;obtain⟨a0,a1,a2,a3⟩:=s;refine h.ld rfl (h.st (s':=(a0,a1,a2,dX a3 m)) (by decide) rfl fun w1 h1 f1=>?_);refine ab.of (Nu h1 2 (by decide)) ?_;rintro _ w2 ⟨rfl,h2,f2⟩;refine⟨(),rfl,?_⟩;dsimp only;generalize qh 2 (a0,a1,a2,dX a3 m)=t at *;obtain⟨t0,t1,t2,t3⟩:=t;refine h2.ld rfl (h2.st (s':=(dX t0 m,t1,t2,t3)) (by decide) rfl fun w3 h3 f3=>?_);exact⟨rfl,h3,(f1.trans f2).trans f3⟩
theorem Af {w:World}{v:Sl}{bs:List UInt8}(h:bd w v bs)(hl:bs.length<=8):Ret Tryz.prog 104 #[.slice v.1 v.2.1 v.2.2] w fun r w'=>r=.int .u64 (gK bs:Int)/\w=w':=by
 refine c104 v.1 v.2.1 v.2.2 w _ ?_;unfold C104;have cO:=h.len;refine bC.of (fun s w'=>∃ i:Nat,s.2.1=i/\i<=bs.length/\s.1=(gK (bs.take i):Int)/\w=w') (fun s _=>(bs.length - s.2.1).toNat) ⟨0,rfl,by omega,rfl,rfl⟩ ?_;rintro _ ⟨m,i',_⟩ _ ⟨i,hi,jf,hm,rfl⟩;dsimp only at hi hm ⊢;subst hi hm;refine aa.dec (fun aU=>?_) (fun eu=>?_)
 ·refine bd.at h (by omega) aU ?_
  rw[wI (x:=8 * (i:Int)) (by omega) (by omega),wI (x:=(i:Int)+1) (by omega) (by omega)];refine⟨by omega,⟨i+1,by omega,by omega,?_,rfl⟩,by omega⟩;have yQ:i<8:=by omega
  have hb:=(bs.getD i 0).toNat_lt;have vw:=Cz (bs.take i);rw[List.length_take,Nat.min_eq_left (by omega)] at vw;have hp:256 ^ i=2 ^ (8 * i):=by rw[show(256:Nat)=2 ^ 8 by decide,<- Nat.pow_mul]
  have Hh:256 ^ i<=72057594037927936:=by
   have:(72057594037927936:Nat)=256 ^ 7:=by decide
   rw[this];exact Nat.pow_le_pow_right (by decide) (by omega)
  have mJ:256 ^ i * (bs.getD i 0).toNat<18446744073709551616:=by
   have h1:256 ^ i * (bs.getD i 0).toNat<=256 ^ i * 255:=Nat.mul_le_mul_left _ (by omega);have h2:256 ^ i * 255<=72057594037927936 * 255:=Nat.mul_le_mul_right _ Hh;omega
  rw[Int.toNat_natCast,UT bs i (by omega),wM (bs.getD i 0).toNat,Nat.mod_eq_of_lt (show(bs.getD i 0).toNat<18446744073709551616 by omega),show Int.toNat (8 * (i:Int))=8 * i by omega,yN _ (8 * i) (by omega),
   <- hp,Nat.mul_comm (bs.getD i 0).toNat,Nat.mod_eq_of_lt mJ,yO _ _ (by omega) mJ]
  congr 1
  rw[hp,Nat.mul_comm,<- Nat.shiftLeft_eq,Nat.or_comm,<- Nat.shiftLeft_add_eq_or_of_lt (by rw[<- hp];exact vw),Nat.shiftLeft_eq];omega
 ·rw[List.take_of_length_le (by omega)];exact⟨rfl,rfl⟩
def cV (kb:List UInt8):List Value:=kb.map bc
theorem Wa {w:World}{g:Nat}{kb:List UInt8}{T:TypeId}{fr:Nat×Nat}(hb:w.heap[g]? = some (.cells (cV kb).toArray T fr))(hk:kb.length=16):bd w (some ⟨g,0,none⟩,16,16) kb:=by
 refine⟨by simp[hk],(fun t=>nomatch t),fun a ha=>?_⟩;injection ha with ha
 subst ha;exact nY hb _ 0 fun j _=>by simp[cV]
theorem Wb {w:World}{g:Nat}{kb:List UInt8}(hk:kb.length=16)(h:bd w (some ⟨g,0,none⟩,16,16) kb){K:Option Addr->Nat->Nat->Prop}(k:bd w (some ⟨g,0,none⟩,8,16) (kb.take 8)->K (some ⟨g,0,none⟩) 8 16):
  eX (some ⟨g,0,none⟩) 16 0 8 16 1 K:=by
 refine⟨by decide,by decide,by decide,by decide,?_⟩;have e:(if(16:Int)=0 then some (⟨g,0,none⟩:Addr) else(some (⟨g,0,none⟩:Addr)).map (·.add ((0:Int).toNat * 1)))=some ⟨g,0,none⟩:=by
  rw[if_neg (by decide),Option.map_some,dT];rfl
 rw[e];refine k ⟨by simp[hk],(fun t=>nomatch t),fun a ha=>?_⟩;rw[List.map_take];exact wK _ 0 8 (h.2.2 a ha)
theorem Wc {w:World}{g:Nat}{kb:List UInt8}(hk:kb.length=16)(h:bd w (some ⟨g,0,none⟩,16,16) kb){K:Option Addr->Nat->Nat->Prop}(k:bd w (some ⟨g,8,none⟩,8,8) (kb.drop 8)->K (some ⟨g,8,none⟩) 8 8):
  eX (some ⟨g,0,none⟩) 16 8 16 16 1 K:=by
 refine⟨by decide,by decide,by decide,by decide,?_⟩;have e:(if(16:Int)=8 then some (⟨g,0,none⟩:Addr) else(some (⟨g,0,none⟩:Addr)).map (·.add ((8:Int).toNat * 1)))=some ⟨g,8,none⟩:=by
  rw[if_neg (by decide),Option.map_some,dT];rfl
 rw[e];refine k ⟨by simp[hk],(fun t=>nomatch t),fun a ha=>?_⟩;injection ha with ha
 subst ha;have h8:=zV 8 _ 0 (h.2.2 ⟨g,0,none⟩ rfl);have:=xA (m:=8) _ 0 h8;rw[dT,Nat.zero_add] at this;rw[List.map_drop];exact this
theorem Hi {w:World}{v:Sl}{kb bs:List UInt8}(hk:kb.length=16)(h:bd w v bs)(hc:v.2.1<=v.2.2)(hl:bs.length<=140737488355300):Ret Tryz.prog 50 #[.agg (cV kb).toArray,.slice v.1 v.2.1 v.2.2] w fun r w'=>r=.int .u64 (nC kb bs)/\Fr none1 w w':=by
 refine c50 (cV kb) v.1 v.2.1 v.2.2 w _ ?_;unfold C50;have cO:=h.len;refine ak.of fun g1 w1 dp au f1 _=>aD.of fun w2 _ f2=>aV.all ?_;have f12:=f1.trans f2;have hK:=Wa (f2.af au) hk;refine Wb hk hK fun hA=>Wc hk hK fun hu=>?_;refine ab.of (Af (v:=(some ⟨g1,0,none⟩,8,16)) hA (by rw[List.length_take];omega)) ?_;rintro _ _ ⟨rfl,rfl⟩;refine⟨_,rfl,ai.same ?_⟩;refine ab.of (Af (v:=(some ⟨g1,8,none⟩,8,8)) hu (by rw[List.length_drop];omega)) ?_;rintro _ _ ⟨rfl,rfl⟩;refine⟨_,rfl,ai.same ?_⟩;refine ak.of fun b w3 hb aR f3 _=>⟨by decide,?_⟩;have S3:iB w3 b (GA kb):=aR;have f13:=f12.trans f3;have Wd:((v.2.1:Int).tdiv 8)=((bs.length / 8:Nat):Int):=by rw[Int.tdiv_eq_ediv_of_nonneg (by omega)];omega
 rw[Wd,wI (x:=((bs.length / 8:Nat):Int)) (by omega) (by omega),wI (x:=((bs.length / 8:Nat):Int) * 8) (by omega) (by omega)];unfold nC;generalize GA kb=s0 at *;have Nw:=f13.size;refine bC.of (fun st w'=>∃ i:Nat,st.1=8 * (i:Int)/\i<=bs.length / 8/\iB w' b (Cw bs s0 i)/\Fr (only b) w3 w') (fun st _=>(8 * (bs.length / 8:Nat) - st.1).toNat) ⟨0,rfl,by omega,S3,Fr.refl _ _⟩ ?_;rintro _ ⟨i',_⟩ w4 ⟨i,hi,jf,S4,f4⟩;dsimp only at hi ⊢;subst hi;have gw:=f12.size;have h4:bd w4 v bs:=(h.af f13).tM f4 fun hn k hk t=>by have:=h.G2 hn hk;have:k=b:=t;omega
 refine aa.dec (fun aU=>?_) (fun eu=>?_)
 ·rw[wI (x:=8 * (i:Int)+8) (by omega) (by omega)]
  refine bd.jV h4 (by omega) (by omega) (by omega) hc fun u hu _ _ _=>?_;rw[show(8 * (i:Int)).toNat=8 * i by omega,show(8 * (i:Int)+8 - 8 * (i:Int)).toNat=8 by omega] at hu;refine ab.of (Af hu (by rw[List.length_take];omega)) ?_;rintro _ _ ⟨rfl,rfl⟩;refine⟨_,rfl,?_⟩;refine ab.of (Nv S4 _) ?_;rintro _ w5 ⟨rfl,S5,f5⟩;exact⟨(),rfl,⟨i+1,by omega,by omega,S5,f4.trans f5⟩,by omega⟩
 ·obtain rfl:i=bs.length / 8:=by omega
  refine bd.jV h4 (by omega) (by omega) (Int.le_refl _) hc fun u hu _ _ _=>?_;rw[show(((bs.length / 8:Nat):Int) * 8).toNat=8 * (bs.length / 8) by omega,List.take_of_length_le (by rw[List.length_drop];omega)] at hu;have ot:(bs.drop (8 * (bs.length / 8))).length<=7:=by rw[List.length_drop];omega
  refine ab.of (Af hu (by omega)) ?_;rintro _ _ ⟨rfl,rfl⟩;refine⟨_,rfl,by decide,?_⟩;have vw:=Cz (bs.drop (8 * (bs.length / 8)));have We:gK (bs.drop (8 * (bs.length / 8)))<72057594037927936:=by
   have h2:256 ^ (bs.drop (8 * (bs.length / 8))).length<=256 ^ 7:=Nat.pow_le_pow_right (by decide) ot;have:(256:Nat) ^ 7=72057594037927936:=by decide
   omega
  have Wf:IntKind.u64.wrap ((BitVec.ofInt 64 (gK (bs.drop (8 * (bs.length / 8))):Int) ||| BitVec.ofInt 64 (IntKind.u64.wrap ((IntKind.u64.wrap (v.2.1:Int)) * 2 ^ (min (Int.toNat 56) 64)))).toNat:Int)=(Cx bs:Int):=by
   rw[cO,wM bs.length,Nat.mod_eq_of_lt (show bs.length<18446744073709551616 by omega),show Int.toNat 56=56 by rfl,yN _ 56 (by decide),show bs.length * 2 ^ 56 % 18446744073709551616=bs.length % 256 * 72057594037927936 by omega,
    yO _ _ (by omega) (by omega)]
   congr 1
   unfold Cx;rw[Nat.or_comm,show bs.length % 256 * 72057594037927936=(bs.length % 256) <<< 56 by rw[Nat.shiftLeft_eq],<- Nat.shiftLeft_add_eq_or_of_lt (by exact We)];omega
  rw[Wf];refine ab.of (Nv S4 _) ?_;rintro _ w5 ⟨rfl,S5,f5⟩;refine⟨(),rfl,?_⟩;generalize zT (Cx bs:Int) (Cw bs s0 (bs.length / 8))=t at *;obtain⟨t0,t1,t2,t3⟩:=t;unfold MI;refine S5.ld rfl (S5.st (s':=(t0,t1,dX t2 255,t3)) (by decide) rfl fun w6 S6 f6=>?_);refine ab.of (Nu S6 4 (by decide)) ?_;rintro _ w7 ⟨rfl,S7,f7⟩;refine⟨(),rfl,?_⟩;dsimp only;generalize qh 4 (t0,t1,dX t2 255,t3)=q at *;obtain⟨q0,q1,q2,q3⟩:=q;refine aD.of fun w8 _ f8=>?_;have S8:=S7.af f8;refine S8.ld rfl (S8.ld rfl (S8.ld rfl (S8.ld rfl ?_)));have f38:Fr (only b) w3 w8:=((((f4.trans f5).trans f6).trans f7).dq f8);exact⟨rfl,f13.fresh f38 (by omega)⟩
theorem Nx (n:Int)(h0:0<=n)(h1:n<18446744073709551616)(w:World):Ret Tryz.prog 49 #[.int .u64 n] w fun r w'=>∃ v:Sl,r=.slice v.1 v.2.1 v.2.2/\cd w' v (gL n)/\Fr none1 w w'/\∀ k,aw v k->w.heap.size<=k:=by
 refine c49 n w _ ?_;unfold C49;obtain⟨M,rfl⟩:∃ M:Nat,n=M:=⟨n.toNat,by omega⟩;obtain⟨w1,ef,Ag,f1⟩:=Vv (w:=w) (n:=8) (m:=8) (by decide) (by decide) (by decide);refine⟨(some ⟨w.heap.size,0,none⟩,8,8),w1,ef,?_⟩;have Ag:cd w1 (some ⟨w.heap.size,0,none⟩,8,8) (List.replicate 8 0):=Ag;have hh:gL (M:Int)=ph 8 M:=by unfold gL;rw[show((M:Int) % 18446744073709551616).toNat=M by omega]
 refine bC.of (fun st w'=>∃ (i:Nat) (cs:List UInt8),st.1=i/\i<=8/\cd w' (some ⟨w.heap.size,0,none⟩,8,8) cs/\cs.length=8/\(∀ j,j<i->cs[j]? = (ph 8 M)[j]?)/\Fr none1 w w') (fun st _=>(8 - st.1).toNat) ⟨0,_,rfl,by omega,Ag,by simp,fun j hj=>by omega,f1⟩ ?_;rintro _ ⟨i',_⟩ w2 ⟨i,cs,hi,jf,tN,eH,hall,f2⟩;dsimp only at hi ⊢;subst hi;refine aa.dec (fun aU=>?_) (fun eu=>?_)
 ·have yQ:i<8:=by omega
  rw[wI (x:=8 * (i:Int)) (by omega) (by omega),wI (x:=(i:Int)+1) (by omega) (by omega),show Int.toNat (8 * (i:Int))=8 * i by omega];refine⟨by omega,?_⟩;have hv:Value.int .u8 (IntKind.u8.wrap (Int.fdiv (M:Int) (2 ^ (min (8 * i) 64))))=bc (UInt8.ofNat (M / 256 ^ i % 256)):=by
   rw[BQ M (8 * i) (by omega),EV];unfold bc;rw[oU (Nat.mod_lt _ (by decide)),show(256:Nat) ^ i=2 ^ (8 * i) by rw[show(256:Nat)=2 ^ 8 by decide,<- Nat.pow_mul]]
  rw[hv];refine aF.st (v:=(some ⟨w.heap.size,0,none⟩,8,8)) tN (by omega) aU rfl fun w3 aR f3 _=>?_;have Wg:cd w3 (some ⟨w.heap.size,0,none⟩,8,8) (cs.set i (UInt8.ofNat (M / 256 ^ i % 256))):=by unfold cd;rw[List.map_set];rw[Int.toNat_natCast] at aR;exact aR
  refine⟨⟨i+1,_,by omega,by omega,Wg,by rw[List.length_set];exact eH,fun j hj=>?_,f2.comp f3 fun k hk ⟨a,ha,e⟩=>by injection ha with ha;subst ha;dsimp only at e;omega⟩,by omega⟩
  rw[List.getElem?_set]
  by_cases lz:i=j
  ·subst lz;rw[if_pos rfl,if_pos (by omega),ML 8 M i yQ]
  ·rw[if_neg lz];exact hall j (by omega)
 ·refine⟨(some ⟨w.heap.size,0,none⟩,8,8),rfl,?_,f2,fun k ⟨a,ha,e⟩=>by injection ha with ha;subst ha;dsimp only at e;omega⟩
  have:cs=ph 8 M:=by
   refine List.ext_getElem? fun j=>?_
   by_cases hj:j<8
   ·exact hall j (by omega)
   ·rw[List.getElem?_eq_none (by omega),List.getElem?_eq_none (by rw[GB];omega)]
  rw[hh,<- this];exact tN
theorem Wh {w:World}{v:Sl}{bs:List UInt8}(h:bd w v bs):Ret Tryz.prog 108 #[.slice v.1 v.2.1 v.2.2] w fun r w'=>r=.tuple #[.int .u64 (if bs.length=8 then(gK bs:Int) else 0),.bool (decide (bs.length=8))]/\w=w':=by
 refine c108 v.1 v.2.1 v.2.2 w _ ?_;unfold C108;have cO:=h.len;refine aa.ne (fun ay=>?_) (fun heq=>?_)
 ·rw[if_neg (by omega),decide_eq_false (by omega)];exact⟨rfl,rfl⟩
 ·rw[if_pos (by omega),decide_eq_true (by omega)]
  refine ab.of (Af h (by omega)) ?_;rintro _ _ ⟨rfl,rfl⟩;exact⟨_,rfl,rfl,rfl⟩
theorem Wi {w:World}{v u:Sl}{bs cs:List UInt8}(h:bd w v bs)(h':bd w u cs):Ret Tryz.prog 48 #[.slice v.1 v.2.1 v.2.2,.slice u.1 u.2.1 u.2.2] w fun r w'=>r=.bool (bs==cs)/\w=w':=by
 refine c48 v.1 v.2.1 v.2.2 u.1 u.2.1 u.2.2 w _ ?_;unfold C48;refine ab.of (G6 h h') ?_;rintro _ _ ⟨rfl,rfl⟩;exact⟨_,rfl,rfl,rfl⟩
theorem Hk:∃ ms,Tryz.prog.underlying 34=some (.interface ms):=⟨_,Tryz.underlying34⟩
def C155 (p0:Int)(w:World)(K:Value->World->Prop):Prop:=
 aa (decide (p0 >= 0))
 (K (.bool (decide (p0<=2147483647))) w)
 (K (.bool false) w)
def pl155:aB:=.auto
theorem c155 (p0:Int)(w:World)(K:Value->World->Prop)(h:C155 p0 w K):Ret Tryz.prog 155 #[.int .i64 p0] w K:=aC (by kernel_rfl) Tryz.func155 (p:=pl155) (Eq.mpr (by kernel_rfl) h)
def C156 (p0:bE)(w:World)(K:Value->World->Prop):Prop:=
 ak (.cells ((bT p0).toArray) 36) w (fun g1 w2=>ae .raw ((ad g1).add 7) w2 (fun(x3:Value)=>aA Tryz.prog (do eqGuard .eql 34 (.tmp 4) (.const .nilIface) x3 .nilIface;binOp .eql 34 x3 .nilIface) w2 (.v (.one .bool)) (fun(x4:Bool) w5=>aa x4
 (ae (.int .i64) ((ad g1).add 0) w5 (fun(x6:Int)=>aa (x6==0)
 (ae .str ((ad g1).add 1) w5 (fun(x7:ByteArray)=>aa (x7.toList==(⟨#[]⟩:ByteArray).toList)
 (ae .str ((ad g1).add 2) w5 (fun(x8:ByteArray)=>aa (x8.toList==(⟨#[]⟩:ByteArray).toList)
 (ae .str ((ad g1).add 3) w5 (fun(x9:ByteArray)=>aa (x9.toList==(⟨#[]⟩:ByteArray).toList)
 (ae .str ((ad g1).add 4) w5 (fun(aQ:ByteArray)=>aa (aQ.toList==(⟨#[]⟩:ByteArray).toList)
 (ae (.int .i64) ((ad g1).add 5) w5 (fun(aX:Int)=>aa (aX==0)
 (ae (.int .i64) ((ad g1).add 6) w5 (fun(bx:Int)=>K (.bool (bx==0)) w5))
 (K (.bool false) w5)))
 (K (.bool false) w5)))
 (K (.bool false) w5)))
 (K (.bool false) w5)))
 (K (.bool false) w5)))
 (K (.bool false) w5)))
 (K (.bool false) w5))))
def pl156:aB:=.auto
theorem c156 (p0:bE)(w:World)(K:Value->World->Prop)(h:C156 p0 w K):Ret Tryz.prog 156 #[.agg (bT p0).toArray] w K:=aC (by kernel_rfl) Tryz.func156 (p:=pl156) (Eq.mpr (by kernel_rfl) h)
def C109 (p0:dr)(w:World)(K:Value->World->Prop):Prop:=
 ak (.cells ((dx p0).toArray) 42) w (fun g1 w2=>cy (Bool×Unit) (fun J3=>ae (.int .i64) ((ad g1).add 0) w2 (fun(x6:Int)=>aa (x6 != 0)
 (ae (.int .i64) ((ad g1).add 0) w2 (fun(x7:Int)=>aa (x7 != 1)
 (J3 (true,()) w2)
 (ae (.int .i64) ((ad g1).add 1) w2 (fun(x8:Int)=>ab Tryz.prog 155 #[.int .i64 x8] w2 (.v (.one .bool)) (fun(x9:Bool) aG=>aa (!x9)
 (J3 (true,()) aG)
 (ae (.int .i64) ((ad g1).add 2) aG (fun(aX:Int)=>ab Tryz.prog 155 #[.int .i64 aX] aG (.v (.one .bool)) (fun(bx:Bool) aY=>aa (!bx)
 (J3 (true,()) aY)
 (ae (.int .i64) ((ad g1).add 4) aY (fun(bg:Int)=>ab Tryz.prog 155 #[.int .i64 bg] aY (.v (.one .bool)) (fun(bn:Bool) bj=>J3 ((!bn),()) bj)))))))))))
 (ae (.int .i64) ((ad g1).add 1) w2 (fun(ba:Int)=>ab Tryz.prog 155 #[.int .i64 ba] w2 (.v (.one .bool)) (fun(bB:Bool) bu=>aa (!bB)
 (J3 (true,()) bu)
 (ae (.int .i64) ((ad g1).add 2) bu (fun(cG:Int)=>ab Tryz.prog 155 #[.int .i64 cG] bu (.v (.one .bool)) (fun(bY:Bool) bJ=>aa (!bY)
 (J3 (true,()) bJ)
 (ae (.int .i64) ((ad g1).add 4) bJ (fun(cv:Int)=>ab Tryz.prog 155 #[.int .i64 cv] bJ (.v (.one .bool)) (fun(cm:Bool) di=>J3 ((!cm),()) di)))))))))))
 (fun _ s4 w5=>aa s4.1
 (K (.int .i64 1) w5)
 (cy (Bool×Unit) (fun Ah=>ae (.int .i64) ((ad g1).add 3) w5 (fun(cB:Int)=>aa (decide (cB<1))
 (Ah (true,()) w5)
 (ae (.int .i64) ((ad g1).add 3) w5 (fun(eB:Int)=>aa (decide (eB > 4))
 (Ah (true,()) w5)
 (ae .bool ((ad g1).add 6) w5 (fun(bZ:Bool)=>aa bZ
 (ae (.int .i64) ((ad g1).add 3) w5 (fun(df:Int)=>aa (df==1)
 (Ah (true,()) w5)
 (ae (.int .i64) ((ad g1).add 3) w5 (fun(dA:Int)=>Ah ((dA==3),()) w5))))
 (Ah (false,()) w5)))))))
 (fun _ Wj bV=>aa Wj.1
 (K (.int .i64 1) bV)
 (ae (.int .i64) ((ad g1).add 3) bV (fun(dh:Int)=>aa (dh==1)
 (aq dK ((ad g1).add 7) bV (fun(dv:bE)=>ab Tryz.prog 70 #[.agg (bT dv).toArray] bV (.v (.one (.int .i64))) (fun(eg:Int) dz=>K (.int .i64 eg) dz)))
 (aq dK ((ad g1).add 7) bV (fun(dF:bE)=>ab Tryz.prog 156 #[.agg (bT dF).toArray] bV (.v (.one .bool)) (fun(fk:Bool) dP=>aa (!fk)
 (K (.int .i64 1) dP)
 (K (.int .i64 0) dP))))))))))
def pl109:aB:=(.seq .auto (.seq (.block (.join [(3,.one .bool)] .auto (.cond .auto (.join [(30,.one .bool)] .auto .auto)))) .auto))
theorem c109 (p0:dr)(w:World)(K:Value->World->Prop)(h:C109 p0 w K):Ret Tryz.prog 109 #[.agg (dx p0).toArray] w K:=aC (by kernel_rfl) Tryz.func109 (p:=pl109) (Eq.mpr (by kernel_rfl) h)
def C111 (p0:Bool)(w:World)(K:Value->World->Prop):Prop:=
 aa p0
 (K (.int .u8 1) w)
 (K (.int .u8 0) w)
def pl111:aB:=.auto
theorem c111 (p0:Bool)(w:World)(K:Value->World->Prop)(h:C111 p0 w K):Ret Tryz.prog 111 #[.bool p0] w K:=aC (by kernel_rfl) Tryz.func111 (p:=pl111) (Eq.mpr (by kernel_rfl) h)
def C52 (p0:dr)(w:World)(K:Value->World->Prop):Prop:=
 ak (.cells ((dx p0).toArray) 42) w (fun g1 w2=>aq fP (ad g1) w2 (fun(x3:dr)=>ab Tryz.prog 109 #[.agg (dx x3).toArray] w2 (.v (.one (.int .i64))) (fun(x4:Int) w5=>aa (x4 != 0)
 (K (.tuple #[.slice none 0 0,.int .i64 x4]) w5)
 (ae (.int .i64) ((ad g1).add 0) w5 (fun(x6:Int)=>aA Tryz.prog (Instr.buildSlice 22 1 #[(0,.int .u8 (IntKind.u8.wrap x6))]) w5 (.v (.one .aj)) (fun(x7:an) w8=>aD w8 (fun w9=>aV (fun vx=>av vx ((ad g1).add 1) (ae (.int .i64) ((ad g1).add 1) w9 (fun(aX:Int)=>av vx ((ad g1).add 2) (ae (.int .i64) ((ad g1).add 2) w9 (fun(bx:Int)=>ab Tryz.prog 110 #[.int .i64 aX] w9 (.v (.one .aj)) (fun(bz:an) bo=>ai vx w9 bo (aA Tryz.prog (Builtin.append_ #[22,22] 22 #[.slice x7.1 x7.2.1 x7.2.2,.slice bz.1 bz.2.1 bz.2.2]) bo (.v (.one .aj)) (fun(bn:an) bj=>ai vx bo bj (ab Tryz.prog 110 #[.int .i64 bx] bj (.v (.one .aj)) (fun(ba:an) bt=>ai vx bj bt (aA Tryz.prog (Builtin.append_ #[22,22] 22 #[.slice bn.1 bn.2.1 bn.2.2,.slice ba.1 ba.2.1 ba.2.2]) bt (.v (.one .aj)) (fun(br:an) bh=>ai vx bt bh (aD bh (fun bw=>aV (fun nt=>av nt ((ad g1).add 3) (ae (.int .i64) ((ad g1).add 3) bw (fun(cv:Int)=>av nt ((ad g1).add 4) (ae (.int .i64) ((ad g1).add 4) bw (fun(cm:Int)=>ai nt bw bw (aA Tryz.prog (Instr.buildSlice 22 1 #[(0,.int .u8 (IntKind.u8.wrap cv))]) bw (.v (.one .aj)) (fun(bD:an) cn=>ai nt bw cn (aA Tryz.prog (Builtin.append_ #[22,22] 22 #[.slice br.1 br.2.1 br.2.2,.slice bD.1 bD.2.1 bD.2.2]) cn (.v (.one .aj)) (fun(cA:an) bV=>ai nt cn bV (ab Tryz.prog 110 #[.int .i64 cm] bV (.v (.one .aj)) (fun(cB:an) bS=>ai nt bV bS (aA Tryz.prog (Builtin.append_ #[22,22] 22 #[.slice cA.1 cA.2.1 cA.2.2,.slice cB.1 cB.2.1 cB.2.2]) bS (.v (.one .aj)) (fun(bZ:an) cU=>ai nt bS cU (aD cU (fun dE=>aV (fun vy=>av vy ((ad g1).add 5) (ae (.int .u64) ((ad g1).add 5) dE (fun(dv:Int)=>av vy ((ad g1).add 6) (ae .bool ((ad g1).add 6) dE (fun(eg:Bool)=>ab Tryz.prog 49 #[.int .u64 dv] dE (.v (.one .aj)) (fun(gP:an) ic=>ai vy dE ic (aA Tryz.prog (Builtin.append_ #[22,22] 22 #[.slice bZ.1 bZ.2.1 bZ.2.2,.slice gP.1 gP.2.1 gP.2.2]) ic (.v (.one .aj)) (fun(fk:an) dP=>ai vy ic dP (ab Tryz.prog 111 #[.bool eg] dP (.v (.one (.int .u8))) (fun(eM:Int) gx=>ai vy dP gx (aA Tryz.prog (Instr.buildSlice 22 1 #[(0,.int .u8 eM)]) gx (.v (.one .aj)) (fun(jw:an) gd=>ai vy gx gd (aA Tryz.prog (Builtin.append_ #[22,22] 22 #[.slice fk.1 fk.2.1 fk.2.2,.slice jw.1 jw.2.1 jw.2.2]) gd (.v (.one .aj)) (fun(gX:an) iy=>ai vy gd iy (ae (.int .i64) ((ad g1).add 3) iy (fun(dG:Int)=>aa (dG != 1)
 (K (.tuple #[.slice gX.1 gX.2.1 gX.2.2,.int .i64 0]) iy)
 (aq dK ((ad g1).add 7) iy (fun(fS:bE)=>ab Tryz.prog 33 #[.agg (bT fS).toArray] iy (.aN [.one .aj,.one (.int .i64)]) (fun(fD:an×Int×Unit) mG=>aa (fD.2.1 != 0)
 (K (.tuple #[.slice none 0 0,.int .i64 fD.2.1]) mG)
 (aA Tryz.prog (Builtin.append_ #[22,22] 22 #[.slice gX.1 gX.2.1 gX.2.2,.slice fD.1.1 fD.1.2.1 fD.1.2.2]) mG (.v (.one .aj)) (fun(jx:an) fh=>K (.tuple #[.slice jx.1 jx.2.1 jx.2.2,.int .i64 0]) fh)))))))))))))))))))))))))))))))))))))))))))))))))))))))))
def pl52:aB:=(.seq .auto (.seq .auto (.seq .auto (.seq (.held (.soft 0 (.soft 1 (.soft 2 (.soft 5 (.soft 6 (.pick 3 (.pick 4 (.pick 7 (.pick 8 (.soft 9 .done) .stop) .stop) .stop) .stop))))))) (.seq (.held (.soft 0 (.soft 1 (.soft 2 (.soft 6 (.soft 7 (.pick 3 (.pick 4 (.pick 5 (.pick 8 (.pick 9 (.soft 10 .done) .stop) .stop) .stop) .stop) .stop))))))) (.seq (.held (.soft 0 (.soft 1 (.soft 2 (.soft 5 (.soft 6 (.pick 3 (.pick 4 (.pick 7 (.pick 8 (.pick 9 (.soft 10 .done) .stop) .stop) .stop) .stop) .stop))))))) .auto))))))
theorem c52 (p0:dr)(w:World)(K:Value->World->Prop)(h:C52 p0 w K):Ret Tryz.prog 52 #[.agg (dx p0).toArray] w K:=aC (by kernel_rfl) Tryz.func52 (p:=pl52) (Eq.mpr (by kernel_rfl) h)
def C24 (p0:List Value)(p1:dr)(w:World)(K:Value->World->Prop):Prop:=
 ak (.cells p0.toArray 24) w (fun g1 w2=>ak (.cells ((dx p1).toArray) 42) w2 (fun g3 w4=>aq fP (ad g3) w4 (fun(x5:dr)=>ab Tryz.prog 52 #[.agg (dx x5).toArray] w4 (.aN [.one .aj,.one (.int .i64)]) (fun(x6:an×Int×Unit) w7=>aa (x6.2.1 != 0)
 (K (.tuple #[.slice none 0 0,.int .i64 x6.2.1]) w7)
 (eK 16 (ad g1) w7 (fun x8=>ab Tryz.prog 50 #[.agg x8.toArray,.slice x6.1.1 x6.1.2.1 x6.1.2.2] w7 (.v (.one (.int .u64))) (fun(x9:Int) aG=>ab Tryz.prog 49 #[.int .u64 x9] aG (.v (.one .aj)) (fun(aX:an) aL=>aA Tryz.prog (Builtin.append_ #[22,22] 22 #[.slice x6.1.1 x6.1.2.1 x6.1.2.2,.slice aX.1 aX.2.1 aX.2.2]) aL (.v (.one .aj)) (fun(bz:an) bo=>K (.tuple #[.slice bz.1 bz.2.1 bz.2.2,.int .i64 0]) bo)))))))))
def pl24:aB:=.auto
theorem c24 (p0:List Value)(p1:dr)(w:World)(K:Value->World->Prop)(h:C24 p0 p1 w K):Ret Tryz.prog 24 #[.agg p0.toArray,.agg (dx p1).toArray] w K:=aC (by kernel_rfl) Tryz.func24 (p:=pl24) (Eq.mpr (by kernel_rfl) h)
def C51 (p0:Option Addr)(aJ aP:Nat)(w:World)(K:Value->World->Prop):Prop:=
 ak (.cells #[.int .i64 0,.int .i64 0,.int .i64 0,.int .i64 0,.int .i64 0,.int .u64 0,.bool false,.int .i64 0,.string (⟨#[]⟩:ByteArray),.string (⟨#[]⟩:ByteArray),.string (⟨#[]⟩:ByteArray),.string (⟨#[]⟩:ByteArray),.int .i64 0,.int .i64 0,.nilIface] 42) w (fun g1 w2=>aD w2 (fun w3=>aV (fun S4=>bQ p0 aJ 0 1 (fun a5=>av S4 a5 (ae (.int .u8) a5 w3 (fun(x6:Int)=>bQ p0 aJ 17 1 (fun a7=>av S4 a7 (ae (.int .u8) a7 w3 (fun(x8:Int)=>bQ p0 aJ 34 1 (fun a9=>av S4 a9 (ae (.int .u8) a9 w3 (fun(aQ:Int)=>ak (.cells #[.int .i64 0,.int .i64 0,.int .i64 0,.int .i64 0,.int .i64 0,.int .u64 0,.bool false,.int .i64 0,.string (⟨#[]⟩:ByteArray),.string (⟨#[]⟩:ByteArray),.string (⟨#[]⟩:ByteArray),.string (⟨#[]⟩:ByteArray),.int .i64 0,.int .i64 0,.nilIface] 42) w3 (fun g11 aL=>ai S4 w3 aL (ar (ad g11) [.int .i64 (IntKind.i64.wrap x6),.int .i64 0,.int .i64 0,.int .i64 (IntKind.i64.wrap x8),.int .i64 0,.int .u64 0,.bool (aQ==1),.int .i64 0,.string (⟨#[]⟩:ByteArray),.string (⟨#[]⟩:ByteArray),.string (⟨#[]⟩:ByteArray),.string (⟨#[]⟩:ByteArray),.int .i64 0,.int .i64 0,.nilIface] aL (fun aY=>ai S4 aL aY (eX p0 aP 1 9 aP 1 (fun yV Wk c16=>ab Tryz.prog 107 #[.slice yV Wk c16] aY (.aN [.one (.int .i64),.one .bool]) (fun(ba:Int×Bool×Unit) bt=>az ((ad g11).add 1) (.int .i64 ba.1) bt (fun bu=>eX p0 aP 9 17 aP 1 (fun a20 Hg c22=>ab Tryz.prog 107 #[.slice a20 Hg c22] bu (.aN [.one (.int .i64),.one .bool]) (fun(cv:Int×Bool×Unit) cg=>az ((ad g11).add 2) (.int .i64 cv.1) cg (fun di=>eX p0 aP 18 26 aP 1 (fun Hl Wl c28=>ab Tryz.prog 107 #[.slice Hl Wl c28] di (.aN [.one (.int .i64),.one .bool]) (fun(cB:Int×Bool×Unit) bS=>az ((ad g11).add 4) (.int .i64 cB.1) bS (fun fo=>eX p0 aP 26 34 aP 1 (fun Wm Wn c34=>ab Tryz.prog 108 #[.slice Wm Wn c34] fo (.aN [.one (.int .u64),.one .bool]) (fun(dv:Int×Bool×Unit) dd=>az ((ad g11).add 5) (.int .u64 dv.1) dd (fun dz=>ae (.int .i64) ((ad g11).add 3) dz (fun(dF:Int)=>aa (dF==1)
 (eX p0 aP 35 aJ aP 1 (fun Wo Wp c41=>ab Tryz.prog 93 #[.slice Wo Wp c41] dz (.aN [.agg dK,.one (.int .i64)]) (fun(iA:bE×Int×Unit) jQ=>ar ((ad g11).add 7) [.int .i64 iA.1.1,.string iA.1.2.1,.string iA.1.2.2.1,.string iA.1.2.2.2.1,.string iA.1.2.2.2.2.1,.int .i64 iA.1.2.2.2.2.2.1,.int .i64 iA.1.2.2.2.2.2.2.1,iA.1.2.2.2.2.2.2.2.1] jQ (fun gd=>aq fP (ad g11) gd (fun(gX:dr)=>ar (ad g1) (dx gX) gd (fun iy=>aq fP (ad g1) iy (fun(dG:dr)=>K (.agg (dx dG).toArray) iy)))))))
 (aq fP (ad g11) dz (fun(fS:dr)=>ar (ad g1) (dx fS) dz (fun tu=>aq fP (ad g1) tu (fun(iL:dr)=>K (.agg (dx iL).toArray) tu)))))))))))))))))))))))))))))))))
def pl51:aB:=(.seq .auto (.seq (.held (.soft 0 (.soft 1 (.soft 2 (.soft 3 (.soft 4 (.soft 5 (.soft 6 (.soft 7 (.soft 8 (.soft 9 (.soft 10 (.soft 11 (.soft 12 (.pick 13 (.pick 14 .done .stop) .stop))))))))))))))) .auto))
theorem c51 (p0:Option Addr)(aJ aP:Nat)(w:World)(K:Value->World->Prop)(h:C51 p0 aJ aP w K):Ret Tryz.prog 51 #[.slice p0 aJ aP] w K:=aC (by kernel_rfl) Tryz.func51 (p:=pl51) (Eq.mpr (by kernel_rfl) h)
def C14 (p0:List Value)(p1:Option Addr)(cw cN:Nat)(w:World)(K:Value->World->Prop):Prop:=
 ak (.cells p0.toArray 24) w (fun g1 w2=>ak (.cells #[.int .i64 0,.int .i64 0,.int .i64 0,.int .i64 0,.int .i64 0,.int .u64 0,.bool false,.int .i64 0,.string (⟨#[]⟩:ByteArray),.string (⟨#[]⟩:ByteArray),.string (⟨#[]⟩:ByteArray),.string (⟨#[]⟩:ByteArray),.int .i64 0,.int .i64 0,.nilIface] 42) w2 (fun g3 w4=>aa (decide ((cw:Int)<8))
 (ar (ad g3) [.int .i64 0,.int .i64 0,.int .i64 0,.int .i64 0,.int .i64 0,.int .u64 0,.bool false,.int .i64 0,.string (⟨#[]⟩:ByteArray),.string (⟨#[]⟩:ByteArray),.string (⟨#[]⟩:ByteArray),.string (⟨#[]⟩:ByteArray),.int .i64 0,.int .i64 0,.nilIface] w4 (fun w5=>aq fP (ad g3) w5 (fun(x6:dr)=>K (.tuple #[.agg (dx x6).toArray,.int .i64 2]) w5)))
 (aD w4 (fun w7=>eX p1 cN 0 (IntKind.i64.wrap ((cw:Int) - 8)) cN 1 (fun a8 l9 c10=>eX p1 cN (IntKind.i64.wrap ((cw:Int) - 8)) cw cN 1 (fun GP Wq c13=>eK 16 (ad g1) w7 (fun bg=>ab Tryz.prog 50 #[.agg bg.toArray,.slice a8 l9 c10] w7 (.v (.one (.int .u64))) (fun(bn:Int) bj=>ab Tryz.prog 49 #[.int .u64 bn] bj (.v (.one .aj)) (fun(ba:an) bt=>ab Tryz.prog 48 #[.slice GP Wq c13,.slice ba.1 ba.2.1 ba.2.2] bt (.v (.one .bool)) (fun(br:Bool) bh=>aa (!br)
 (ar (ad g3) [.int .i64 0,.int .i64 0,.int .i64 0,.int .i64 0,.int .i64 0,.int .u64 0,.bool false,.int .i64 0,.string (⟨#[]⟩:ByteArray),.string (⟨#[]⟩:ByteArray),.string (⟨#[]⟩:ByteArray),.string (⟨#[]⟩:ByteArray),.int .i64 0,.int .i64 0,.nilIface] bh (fun bw=>aq fP (ad g3) bw (fun(bU:dr)=>K (.tuple #[.agg (dx bU).toArray,.int .i64 12]) bw)))
 (aa (decide ((l9:Int)<35))
 (ar (ad g3) [.int .i64 0,.int .i64 0,.int .i64 0,.int .i64 0,.int .i64 0,.int .u64 0,.bool false,.int .i64 0,.string (⟨#[]⟩:ByteArray),.string (⟨#[]⟩:ByteArray),.string (⟨#[]⟩:ByteArray),.string (⟨#[]⟩:ByteArray),.int .i64 0,.int .i64 0,.nilIface] bh (fun cL=>aq fP (ad g3) cL (fun(cm:dr)=>K (.tuple #[.agg (dx cm).toArray,.int .i64 2]) cL)))
 (ab Tryz.prog 51 #[.slice a8 l9 c10] bh (.v (.agg fP)) (fun(bD:dr) cn=>ak (.cells #[.int .i64 0,.int .i64 0,.int .i64 0,.int .i64 0,.int .i64 0,.int .u64 0,.bool false,.int .i64 0,.string (⟨#[]⟩:ByteArray),.string (⟨#[]⟩:ByteArray),.string (⟨#[]⟩:ByteArray),.string (⟨#[]⟩:ByteArray),.int .i64 0,.int .i64 0,.nilIface] 42) cn (fun Hm bV=>ar (ad Hm) (dx bD) bV (fun eD=>aq fP (ad Hm) eD (fun(eB:dr)=>ab Tryz.prog 52 #[.agg (dx eB).toArray] eD (.aN [.one .aj,.one (.int .i64)]) (fun(bZ:an×Int×Unit) cU=>aa (bZ.2.1 != 0)
 (ar (ad g3) [.int .i64 0,.int .i64 0,.int .i64 0,.int .i64 0,.int .i64 0,.int .u64 0,.bool false,.int .i64 0,.string (⟨#[]⟩:ByteArray),.string (⟨#[]⟩:ByteArray),.string (⟨#[]⟩:ByteArray),.string (⟨#[]⟩:ByteArray),.int .i64 0,.int .i64 0,.nilIface] cU (fun dE=>aq fP (ad g3) dE (fun(dh:dr)=>K (.tuple #[.agg (dx dh).toArray,.int .i64 2]) dE)))
 (ab Tryz.prog 53 #[.slice bZ.1.1 bZ.1.2.1 bZ.1.2.2,.slice a8 l9 c10] cU (.v (.one .bool)) (fun(dv:Bool) dd=>aa (!dv)
 (ar (ad g3) [.int .i64 0,.int .i64 0,.int .i64 0,.int .i64 0,.int .i64 0,.int .u64 0,.bool false,.int .i64 0,.string (⟨#[]⟩:ByteArray),.string (⟨#[]⟩:ByteArray),.string (⟨#[]⟩:ByteArray),.string (⟨#[]⟩:ByteArray),.int .i64 0,.int .i64 0,.nilIface] dd (fun dz=>aq fP (ad g3) dz (fun(dF:dr)=>K (.tuple #[.agg (dx dF).toArray,.int .i64 2]) dz)))
 (aq fP (ad Hm) dd (fun(fk:dr)=>ar (ad g3) (dx fk) dd (fun dP=>aq fP (ad g3) dP (fun(eM:dr)=>K (.tuple #[.agg (dx eM).toArray,.int .i64 0]) dP)))))))))))))))))))))))
def pl14:aB:=(.seq .auto (.seq .auto (.seq .still .auto)))
theorem c14 (p0:List Value)(p1:Option Addr)(cw cN:Nat)(w:World)(K:Value->World->Prop)(h:C14 p0 p1 cw cN w K):Ret Tryz.prog 14 #[.agg p0.toArray,.slice p1 cw cN] w K:=aC (by kernel_rfl) Tryz.func14 (p:=pl14) (Eq.mpr (by kernel_rfl) h)
namespace Vc
theorem aq.off {cks:List Ck}{b o:Nat}{w:World}{K:Cs cks->Prop}{cs:Array Value}{T:TypeId}{fr:Nat×Nat}{x:Cs cks}(hb:w.heap[b]? = some (.cells cs T fr))(hx:∀ j,j<(Cs.vals cks x).length->cs[o+j]? = (Cs.vals cks x)[j]?)(h:K x):aq cks ((⟨b,0,none⟩:Addr).add o) w K:=
 ⟨x,xA (m:=o) _ 0 (nY hb _ o hx),h⟩
end Vc
abbrev lj:=Int×Int×Int×Int×Int×Int×Bool×dV
abbrev FK:List Ck:=[.int .i64,.int .i64,.int .i64,.int .i64,.int .i64,.int .u64,.bool,.int .i64,.str,.str,.str,.str,.int .i64,.int .i64,.raw]
def fW (f:lj):dV:=f.2.2.2.2.2.2.2
def dI (f:lj):List Value:=[.int .i64 f.1,.int .i64 f.2.1,.int .i64 f.2.2.1,.int .i64 f.2.2.2.1,.int .i64 f.2.2.2.2.1,.int .u64 f.2.2.2.2.2.1,.bool f.2.2.2.2.2.2.1,.int .i64 (fW f).1,.string (fW f).2.1,.string (fW f).2.2.1,.string (fW f).2.2.2.1,.string (fW f).2.2.2.2.1,.int .i64 (fW f).2.2.2.2.2.1,.int .i64 (fW f).2.2.2.2.2.2.1,(fW f).2.2.2.2.2.2.2.1]
def lH (f:lj):Value:=.agg (dI f).toArray
theorem Hn {f:lj}(h:bK (fW f).2.2.2.2.2.2.2.1=true):(dI f).all bK=true:=by
 unfold dI;simp only[List.all_cons,List.all_nil,Bool.and_true,Bool.and_eq_true,h,and_true];exact⟨rfl,rfl,rfl,rfl,rfl,rfl,rfl,rfl,rfl,rfl,rfl,rfl,rfl,rfl⟩
def iC (n:Int):Bool:=decide (0<=n)&&decide (n<=2147483647)
def sE (e:dV):Bool:=gR e.2.2.2.2.2.2.2.1&&(e.1==0&&(jd e.2.1&&(jd e.2.2.1&&(jd e.2.2.2.1&&(jd e.2.2.2.2.1&&(e.2.2.2.2.2.1==0&&e.2.2.2.2.2.2.1==0))))))
def nG (f:lj):Bool:=(f.1==0||f.1==1)&&(iC f.2.1&&(iC f.2.2.1&&iC f.2.2.2.2.1))
def tO (f:lj):Bool:=decide (1<=f.2.2.2.1)&&(decide (f.2.2.2.1<=4)&&!(f.2.2.2.2.2.2.1&&(f.2.2.2.1==1||f.2.2.2.1==3)))
def kH (f:lj)(tr:Int):Int:=if nG f=false then 1 else if tO f=false then 1 else if f.2.2.2.1=1 then mA (fW f) tr else if sE (fW f)=false then 1 else 0
def ri (f:lj):List UInt8:=UInt8.ofNat (f.1 % 256).toNat::(cu f.2.1++(cu f.2.2.1++(UInt8.ofNat (f.2.2.2.1 % 256).toNat::(cu f.2.2.2.2.1++(gL f.2.2.2.2.2.1++[if f.2.2.2.2.2.2.1=true then 1 else 0])))))
def kg (f:lj)(ts:List UInt8)(tr:Int):List UInt8×Int:=if kH f tr≠0 then([],kH f tr) else if f.2.2.2.1≠1 then(ri f,0) else(ri f++(je (fW f) ts tr).1,0)
def vz (kb:List UInt8)(f:lj)(ts:List UInt8)(tr:Int):List UInt8×Int:=if(kg f ts tr).2≠0 then([],(kg f ts tr).2) else((kg f ts tr).1++gL (nC kb (kg f ts tr).1),0)
theorem Ai (f:lj):(ri f).length=35:=by
 unfold ri;simp only[List.length_cons,List.length_append,iJ,qi,List.length_nil]
theorem Wr (n:Int)(w:World):Ret Tryz.prog 155 #[.int .i64 n] w fun r w'=>r=.bool (iC n)/\w=w':=by
 refine c155 n w _ ?_;unfold iC;refine aa.dec (fun h=>?_) (fun h=>?_)
 ·rw[decide_eq_true (p:=0<=n) (by omega)];exact⟨rfl,rfl⟩
 ·rw[decide_eq_false (p:=0<=n) (by omega)];exact⟨rfl,rfl⟩
theorem Ho (n:Int)(w:World){K:Bool->World->Prop}(h:K (iC n) w):ab Tryz.prog 155 #[.int .i64 n] w (.v (.one .bool)) (fun(x:Bool) w'=>K x w'):=by
 refine ab.of (Wr n w) ?_;rintro _ _ ⟨rfl,rfl⟩;exact⟨_,rfl,h⟩
theorem Ws (e:dV)(hT:pR e.2.2.2.2.2.2.2.1)(w:World):Ret Tryz.prog 156 #[ix e] w fun r w'=>r=.bool (sE e)/\Fr none1 w w':=by
 refine c156 e w _ ?_;unfold C156;refine ak.of fun g1 w1 dp au f1 kq=>?_;unfold sE;refine ae.ah au (x:=e.2.2.2.2.2.2.2.1) rfl ?_;refine⟨gR e.2.2.2.2.2.2.2.1,w1,nil_eq Hk _ hT w1,?_⟩;refine aa.by (fun q=>?_) (fun q=>by rw[q];exact⟨rfl,f1⟩);rw[q,Bool.true_and];refine ae.ah au (x:=e.1) rfl ?_;refine aa.by (fun q=>?_) (fun q=>by rw[q];exact⟨rfl,f1⟩);rw[q,Bool.true_and];refine ae.ah au (x:=e.2.1) rfl ?_;refine aa.by (fun q=>?_) (fun q=>by rw[show jd e.2.1=false from q];exact⟨rfl,f1⟩);rw[show jd e.2.1=true from q,Bool.true_and];refine ae.ah au (x:=e.2.2.1) rfl ?_;refine aa.by (fun q=>?_) (fun q=>by rw[show jd e.2.2.1=false from q];exact⟨rfl,f1⟩);rw[show jd e.2.2.1=true from q,Bool.true_and];refine ae.ah au (x:=e.2.2.2.1) rfl ?_;refine aa.by (fun q=>?_) (fun q=>by rw[show jd e.2.2.2.1=false from q];exact⟨rfl,f1⟩);rw[show jd e.2.2.2.1=true from q,Bool.true_and];refine ae.ah au (x:=e.2.2.2.2.1) rfl ?_;refine aa.by (fun q=>?_) (fun q=>by rw[show jd e.2.2.2.2.1=false from q];exact⟨rfl,f1⟩);rw[show jd e.2.2.2.2.1=true from q,Bool.true_and];refine ae.ah au (x:=e.2.2.2.2.2.1) rfl ?_;refine aa.by (fun q=>?_) (fun q=>by rw[q];exact⟨rfl,f1⟩);rw[q,Bool.true_and];refine ae.ah au (x:=e.2.2.2.2.2.2.1) rfl ?_;exact⟨rfl,f1⟩
def vA (w:World)(x:Value)(ts:List UInt8)(tr:Int):Prop:=∀ w1,Fr none1 w w1->Ret Tryz.prog 132 #[x] w1 fun r w'=>r=.tuple #[.string (str ts),.int .i64 tr]/\Fr none1 w1 w'
theorem vA.ag {w w':World}{x:Value}{ts:List UInt8}{tr:Int}(h:vA w x ts tr)(f:Fr none1 w w'):vA w' x ts tr:=fun w1 f1=>h w1 (f.trans f1)
theorem CP (t:Tm)(hn:aK t<=1000000){w:World}(ht:TabW w):vA w t.v (bp t).1 (bp t).2:=fun w1 f=>Cc t hn w1 (ht.af f)
theorem Hr {w:World}{g:Nat}{f:lj}{T:TypeId}(hb:w.heap[g]? = some (.cells (dI f).toArray T (0,0))){K:dV->Prop}(k:K (fW f)):aq EK ((⟨g,0,none⟩:Addr).add 7) w K:=by
 refine aq.off (x:=fW f) hb (fun j hj=>?_) k
 match j,hj with
 | 0,_=>rfl
 | 1,_=>rfl
 | 2,_=>rfl
 | 3,_=>rfl
 | 4,_=>rfl
 | 5,_=>rfl
 | 6,_=>rfl
 | 7,_=>rfl
 | j+8,h=>exact absurd h (by show ¬ j+8<8;omega)
theorem Ny (f : lj)(hT : pR (fW f).2.2.2.2.2.2.2.1)(ts : List UInt8)(tr : Int)(w : World)(ht : vA w (fW f).2.2.2.2.2.2.2.1 ts tr):
    Ret Tryz.prog 109 #[lH f] w fun r w' => r = .int .i64 (kH f tr) /\ Fr none1 w w' := by
  refine c109 f w _ ?_;unfold C109;refine ak.of fun g1 w1 dp au f1 kq => ?_;have au : w1.heap[g1]? = some (.cells (dI f).toArray 42 (0, 0)) := au;refine cy.of (fun s w' => s.1 = !(nG f) /\ w1 = w') ?_ ?_
  · have rest : (f.1 == 0 || f.1 == 1) = true -> ae (.int .i64) ((⟨g1, 0, none⟩ : Addr).add 1) w1 (fun(x8 : Int) => ab Tryz.prog 155 #[.int .i64 x8] w1 (.v (.one .bool)) (fun(x9 : Bool) aG => aa (!x9)
        ((true = !(nG f)) /\ w1 = aG)
        (ae (.int .i64) ((⟨g1, 0, none⟩ : Addr).add 2) aG (fun(aX : Int) => ab Tryz.prog 155 #[.int .i64 aX] aG (.v (.one .bool)) (fun(bx : Bool) aY => aa (!bx)
        ((true = !(nG f)) /\ w1 = aY)
        (ae (.int .i64) ((⟨g1, 0, none⟩ : Addr).add 4) aY (fun(bg : Int) => ab Tryz.prog 155 #[.int .i64 bg] aY (.v (.one .bool)) (fun(bn : Bool) bj => ((!bn) = !(nG f)) /\ w1 = bj))))))) ) := fun h0 => by
      unfold nG;rw[h0, Bool.true_and];refine ae.ah au (x := f.2.1) rfl (Ho _ _ (aa.not (aa.by (fun q => ?_) (fun q => by rw[q]; exact⟨rfl, rfl⟩))));rw[q, Bool.true_and];refine ae.ah au (x := f.2.2.1) rfl (Ho _ _ (aa.not (aa.by (fun q => ?_) (fun q => by rw[q]; exact⟨rfl, rfl⟩))));rw[q, Bool.true_and];exact ae.ah au (x := f.2.2.2.2.1) rfl (Ho _ _ ⟨rfl, rfl⟩)
    refine ae.ah au (x := f.1) rfl ?_;refine aa.ne (fun h => ?_) (fun h => rest (by rw[h]; rfl));refine ae.ah au (x := f.1) rfl ?_;refine aa.ne (fun h' => ?_) (fun h' => rest (by rw[h']; rfl));refine⟨?_, rfl⟩;unfold nG;rw[beq_false_of_ne h, beq_false_of_ne h']; rfl
  rintro _ ⟨s, _⟩ _ ⟨hs, rfl⟩;dsimp only at hs ⊢;subst hs;unfold kH;refine aa.by (fun q => ?_) (fun q => ?_)
  · rw[if_pos (by simpa using q)]; exact⟨rfl, f1⟩
  rw[if_neg (by simpa using q)];refine cy.of (fun s w' => s.1 = !(tO f) /\ w1 = w') ?_ ?_
  · unfold tO
    refine ae.ah au (x := f.2.2.2.1) rfl ?_;refine aa.dec (fun h => ?_) (fun h => ?_)
    · rw[decide_eq_false (p := 1 <= f.2.2.2.1) (by omega)]; exact⟨rfl, rfl⟩
    rw[decide_eq_true (p := 1 <= f.2.2.2.1) (by omega), Bool.true_and];refine ae.ah au (x := f.2.2.2.1) rfl ?_;refine aa.dec (fun h => ?_) (fun h => ?_)
    · rw[decide_eq_false (p := f.2.2.2.1 <= 4) (by omega)]; exact⟨rfl, rfl⟩
    rw[decide_eq_true (p := f.2.2.2.1 <= 4) (by omega), Bool.true_and, Bool.not_not];refine ae.ah au (x := f.2.2.2.2.2.2.1) rfl ?_;refine aa.by (fun q => ?_) (fun q => by rw[q]; exact⟨rfl, rfl⟩);rw[q, Bool.true_and];refine ae.ah au (x := f.2.2.2.1) rfl ?_;refine aa.by (fun q => by rw[q]; exact⟨rfl, rfl⟩) (fun q => ?_);rw[q, Bool.false_or];exact ae.ah au (x := f.2.2.2.1) rfl ⟨rfl, rfl⟩
  rintro _ ⟨s, _⟩ _ ⟨hs, rfl⟩;dsimp only at hs ⊢;subst hs;refine aa.by (fun q => ?_) (fun q => ?_)
  · rw[if_pos (by simpa using q)]; exact⟨rfl, f1⟩
  rw[if_neg (by simpa using q)];refine ae.ah au (x := f.2.2.2.1) rfl ?_;refine aa.eq (fun h => ?_) (fun h => ?_)
  · rw[if_pos h]
    refine Hr au ?_;refine ab.of (Fg (fW f) hT tr w1 fun _ w2 f2 => (ht w2 (f1.trans f2)).mono fun r w' ⟨h, f⟩ => ⟨⟨_, h⟩, f⟩) ?_;rintro _ w2 ⟨rfl, f2⟩;exact⟨_, rfl, rfl, f1.trans f2⟩
  · rw[if_neg h]
    refine Hr au ?_;refine ab.of (Ws (fW f) hT w1) ?_;rintro _ w2 ⟨rfl, f2⟩;refine⟨_, rfl, aa.not (aa.by (fun q => ?_) (fun q => ?_))⟩
    · rw[if_neg (by rw[q]; decide)]; exact⟨rfl, f1.trans f2⟩
    · rw[if_pos q]; exact⟨rfl, f1.trans f2⟩
theorem Wt (b:Bool)(w:World){K:Int->World->Prop}(h:∀ n:Int,Value.int .u8 n=bc (if b=true then 1 else 0)->K n w):ab Tryz.prog 111 #[.bool b] w (.v (.one (.int .u8))) (fun(x:Int) w'=>K x w'):=by
 refine ab.of (R:=fun r w'=>r=.int .u8 (if b=true then 1 else 0)/\w=w') ?_ ?_
 ·refine c111 b w _ ?_
  unfold C111;cases b
  ·exact aa.f rfl ⟨rfl,rfl⟩
  ·exact aa.t rfl ⟨rfl,rfl⟩
 ·rintro _ _ ⟨rfl,rfl⟩
  exact⟨_,rfl,h _ (by cases b<;>rfl)⟩
structure Own (w0 w:World)(v:Sl)(bs:List UInt8):Prop where
 is:cd w v bs
 lo:∀ k,aw v k->w0.heap.size<=k
theorem Own.af {w0 w w':World}{v:Sl}{bs:List UInt8}(h:Own w0 w v bs)(f:Fr none1 w w'):Own w0 w' v bs:=⟨h.is.af f,h.lo⟩
theorem Own.app {w0 w:World}{x:Sl}{xs:List UInt8}(hx:Own w0 w x xs)(h0:w0.heap.size<=w.heap.size){y:Sl}{ys:List UInt8}(hy:bd w y ys)(hl:xs.length+ys.length<=140737488355000){K:(Option Addr×Nat×Nat)->World->Prop}
  (k:∀ (u:Sl) w',Own w0 w' u (xs++ys)->Fr (aw x) w w'->K u w') :
  aA Tryz.prog (Builtin.append_ #[22,22] 22 #[.slice x.1 x.2.1 x.2.2,.slice y.1 y.2.1 y.2.2]) w (.v (.one .aj)) (fun(u:Option Addr×Nat×Nat) w'=>K u w'):=by
 obtain⟨u,w',hr,hu,f,uf⟩:=rO hx.is hy hl;refine⟨u,w',hr,k u w' ⟨hu,fun j hj=>?_⟩ f⟩
 rcases uf j hj with t | t
 ·exact hx.lo j t
 ·omega
theorem Aj {w:World}(c:UInt8){K:(Option Addr×Nat×Nat)->World->Prop}(k:∀ (u:Sl) w',cd w' u [c]->Fr none1 w w'->(∀ j,aw u j->w.heap.size<=j)->K u w'):
  aA Tryz.prog (Instr.buildSlice 22 1 #[(0,bc c)]) w (.v (.one .aj)) (fun(u:Option Addr×Nat×Nat) w'=>K u w'):=by
 obtain⟨x,w',hr,hx,_,f,xf⟩:=rN (P:=Tryz.prog) (w:=w) mZ [bc c] (by simp[bc,Value.cells]) (by simp);exact⟨x,w',hr,k x w' hx f xf⟩
theorem Hs (n:Int)(w:World){K:(Option Addr×Nat×Nat)->World->Prop}(k:∀ u w',cd w' u (cu n)->Fr none1 w w'->K u w'):ab Tryz.prog 110 #[.int .i64 n] w (.v (.one .aj)) (fun(x:Option Addr×Nat×Nat) w'=>K x w'):=by
 refine ab.of (KQ n w) ?_;rintro _ w1 ⟨u,rfl,hu,f1,uf⟩;exact⟨u,rfl,k u w1 hu f1⟩
theorem Ht (n:Int)(h0:0<=n)(h1:n<18446744073709551616)(w:World){K:(Option Addr×Nat×Nat)->World->Prop}(k:∀ u w',cd w' u (gL n)->Fr none1 w w'->K u w'):ab Tryz.prog 49 #[.int .u64 n] w (.v (.one .aj)) (fun(x:Option Addr×Nat×Nat) w'=>K x w'):=by
 refine ab.of (Nx n h0 h1 w) ?_;rintro _ w1 ⟨u,rfl,hu,f1,uf⟩;exact⟨u,rfl,k u w1 hu f1⟩
theorem Nz (n:Int):Value.int .u8 (IntKind.u8.wrap n)=bc (UInt8.ofNat (n % 256).toNat):=by
 unfold bc;have h0:0<=n % 256:=Int.emod_nonneg _ (by decide);have h1:n % 256<256:=Int.emod_lt_of_pos _ (by decide);rw[oU (by omega)]
 congr 1
 simp[IntKind.wrap,IntKind.signed,IntKind.bits];omega
theorem NA (f:lj)(hT:pR (fW f).2.2.2.2.2.2.2.1)(hz:pU (fW f))(hh:0<=f.2.2.2.2.2.1/\f.2.2.2.2.2.1<18446744073709551616)(ts:List UInt8)(kc:ts.length<=1000000)(tr:Int)(w:World)(ht:vA w (fW f).2.2.2.2.2.2.2.1 ts tr):
  Ret Tryz.prog 52 #[lH f] w fun r w'=>∃ v:Sl,r=.tuple #[.slice v.1 v.2.1 v.2.2,.int .i64 (kg f ts tr).2]/\Own w w' v (kg f ts tr).1/\Fr none1 w w':=by
 refine c52 f w _ ?_;unfold C52;refine ak.of fun g1 w1 dp au f1 kq=>?_;have au:w1.heap[g1]? = some (.cells (dI f).toArray 42 (0,0)):=au;refine aq.aE (cks:=FK) (x:=f) au ?_;refine ab.of (Ny f hT ts tr w1 (ht.ag f1)) ?_;rintro _ w2 ⟨rfl,f2⟩;refine⟨_,rfl,?_⟩;have Wu:∀ k,¬ aw ((none,0,0):Sl) k:=fun k ⟨a,ha,_⟩=>by cases ha
 unfold kg;refine aa.ne (fun ay=>?_) (fun he=>?_)
 ·rw[if_pos ay]
  exact⟨(none,0,0),rfl,⟨ER w2,fun k hk=>(Wu k hk).elim⟩,f1.trans f2⟩
 rw[if_neg (fun t=>t he)];have b2:=f2.af au;have F:=f1.trans f2;refine ae.ah b2 (x:=f.1) rfl ?_;rw[Nz];refine Aj _ fun x w3 hx f3 xf=>?_;have h0:=F.size;have F:=F.trans f3;have hx:Own w1 w3 x [UInt8.ofNat (f.1 % 256).toNat]:=⟨hx,fun k hk=>by have:=xf k hk;have:=f2.size;omega⟩;have b3:=f3.af b2;have hg:w.heap.size<=g1:=by omega
 have own:∀ {wa:World} {v:Sl} {bs:List UInt8},Own w1 wa v bs->∀ k,aw v k->k≠g1/\w.heap.size<=k:=fun h k hk=>by have:=h.lo k hk;omega
 have q1:∀ {wa:World},Fr none1 w wa->w1.heap.size<=wa.heap.size->∀ {v:Sl} {bs:List UInt8},Own w1 wa v bs->∀ {wb:World},Fr (aw v) wa wb->Fr none1 w wb:=fun F _ _ _ h _ f=>F.comp f fun k hk t=>by have:=(own h k t).2;omega
 have ka:w1.heap.size<=w3.heap.size:=by have:=f2.size;have:=f3.size;omega
 refine aD.of fun w4 _ f4=>aV.of (fun k=>k=g1) (xI rfl (ae.ah (f4.af b3) (x:=f.2.1) rfl (xI rfl (ae.ah (f4.af b3) (x:=f.2.2.1) rfl ?_))));refine Hs _ w4 fun n1 w5 CQ f5=>ai.of f5 ?_;have f35:=f4.trans f5;have hx:=hx.af f35;have b5:=f35.af b3;have F:=F.trans f35;have ob:w1.heap.size<=w5.heap.size:=by have:=f35.size;omega
 refine hx.app ob CQ.rd (by rw[iJ];simp only[List.length_singleton];omega) fun y w6 hy f6=>ai.on f6 (fun k hk t=>(own hx k t).1 hk) ?_;have b6:=f6.ag b5 (fun t=>(own hx _ t).1 rfl);have F:=q1 F ob hx f6;have Wv:w1.heap.size<=w6.heap.size:=by have:=f6.size;omega
 clear hx b5 f35 f4 f5 CQ b3 f6;refine Hs _ w6 fun n2 w7 kU f7=>ai.of f7 ?_;have hy:=hy.af f7;have b7:=f7.af b6;have F:=F.trans f7;have vv:w1.heap.size<=w7.heap.size:=by have:=f7.size;omega
 refine hy.app vv kU.rd (by rw[iJ,List.length_append,iJ,List.length_singleton];decide) fun z w8 vB f8=>ai.on f8 (fun k hk t=>(own hy k t).1 hk) ?_;have b8:=f8.ag b7 (fun t=>(own hy _ t).1 rfl);have F:=q1 F vv hy f8;have oV:w1.heap.size<=w8.heap.size:=by have:=f8.size;omega
 clear hy b7 f7 kU b6 f8;refine aD.of fun w9 _ f9=>aV.of (fun k=>k=g1) (xI rfl (ae.ah (f9.af b8) (x:=f.2.2.2.1) rfl (xI rfl (ae.ah (f9.af b8) (x:=f.2.2.2.2.1) rfl (ai.same ?_)))));rw[Nz];refine Aj _ fun x2 aG tN f10 Ww=>ai.of f10 ?_;have Ak:=f9.trans f10;have vB:=vB.af Ak;have qo:=Ak.af b8;have F:=F.trans Ak;have NB:w1.heap.size<=aG.heap.size:=by have:=Ak.size;omega
 refine vB.app NB tN.rd (by simp only[List.length_append,iJ,List.length_singleton];decide) fun u aO hu f11=>ai.on f11 (fun k hk t=>(own vB k t).1 hk) ?_;have NC:=f11.ag qo (fun t=>(own vB _ t).1 rfl);have F:=q1 F NB vB f11;have acz:w1.heap.size<=aO.heap.size:=by have:=f11.size;omega
 clear vB qo Ak tN Ww b8 f11 f9 f10;refine Hs _ aO fun n3 aL ND f12=>ai.of f12 ?_;have hu:=hu.af f12;have NF:=f12.af NC;have F:=F.trans f12;have NG:w1.heap.size<=aL.heap.size:=by have:=f12.size;omega
 refine hu.app NG ND.rd (by simp only[List.length_append,iJ,List.length_singleton];decide) fun v aY hv f13=>ai.on f13 (fun k hk t=>(own hu k t).1 hk) ?_;have CR:=f13.ag NF (fun t=>(own hu _ t).1 rfl);have F:=q1 F NG hu f13;have acA:w1.heap.size<=aY.heap.size:=by have:=f13.size;omega
 clear hu NF f12 ND NC f13;refine aD.of fun bo _ f14=>aV.of (fun k=>k=g1) (xI rfl (ae.ah (f14.af CR) (x:=f.2.2.2.2.2.1) rfl (xI rfl (ae.ah (f14.af CR) (x:=f.2.2.2.2.2.2.1) rfl ?_))));refine Ht _ hh.1 hh.2 bo fun n4 bM NH f15=>ai.of f15 ?_;have Al:=f14.trans f15;have hv:=hv.af Al;have Am:=Al.af CR;have F:=F.trans Al;have NI:w1.heap.size<=bM.heap.size:=by have:=Al.size;omega
 refine hv.app NI NH.rd (by simp only[List.length_append,iJ,qi,List.length_singleton];decide) fun p bj hp f16=>ai.on f16 (fun k hk t=>(own hv k t).1 hk) ?_;have NJ:=f16.ag Am (fun t=>(own hv _ t).1 rfl);have F:=q1 F NI hv f16;have acB:w1.heap.size<=bj.heap.size:=by have:=f16.size;omega
 clear hv Am Al NH CR f16 f14 f15;refine Wt _ bj fun n hn=>ai.same ?_;rw[hn];refine Aj _ fun x3 cj NK f17 Wx=>ai.of f17 ?_;have hp:=hp.af f17;have Hw:=f17.af NJ;have F:=F.trans f17;have NL:w1.heap.size<=cj.heap.size:=by have:=f17.size;omega
 refine hp.app NL NK.rd (by simp only[List.length_append,iJ,qi,List.length_singleton];decide) fun r bt hr f18=>ai.on f18 (fun k hk t=>(own hp k t).1 hk) ?_;have NM:=f18.ag Hw (fun t=>(own hp _ t).1 rfl);have F:=q1 F NL hp f18;have acC:w1.heap.size<=bt.heap.size:=by have:=f18.size;omega
 clear hp Hw f17 NK Wx NJ f18;have Wy:([UInt8.ofNat (f.1 % 256).toNat]++cu f.2.1++cu f.2.2.1++[UInt8.ofNat (f.2.2.2.1 % 256).toNat]++cu f.2.2.2.2.1++gL f.2.2.2.2.2.1++[if f.2.2.2.2.2.2.1=true then 1 else 0])=ri f:=by
  unfold ri;simp only[List.append_assoc,List.cons_append,List.nil_append]
 rw[Wy] at hr;have Ch:=Ai f;have up:∀ {wa:World} {v:Sl} {bs:List UInt8},Own w1 wa v bs->Own w wa v bs:=fun h=>⟨h.is,fun k hk=>(own h k hk).2⟩;refine ae.ah NM (x:=f.2.2.2.1) rfl ?_;refine aa.ne (fun ay=>?_) (fun q7=>?_)
 ·rw[if_pos ay]
  exact⟨r,rfl,up hr,F⟩
 rw[if_neg (fun t=>t q7)];have xK:(je (fW f) ts tr).2=0:=by
  unfold kH at he;split at he
  ·cases he
  split at he
  ·cases he
  first | rw[if_pos q7] at he | skip
  unfold je;rw[if_neg (fun t=>t he)]
 refine Hr NM ?_;refine ab.of (Fo (fW f) hT hz ts kc tr bt fun _ wa fa=>ht wa (F.trans fa)) ?_;rintro _ bu ⟨q,rfl,hq,f19,qf⟩;refine⟨(q,(je (fW f) ts tr).2,()),rfl,?_⟩;dsimp only;refine aa.f (by rw[xK];rfl) ?_;have oA:=zU (fW f) hz ts kc tr;refine(hr.af f19).app (by have:=f19.size;omega) hq.rd (by omega) fun o bh ho f20=>?_;exact⟨o,rfl,up ho,q1 (F.trans f19) (by have:=f19.size;omega) (hr.af f19) f20⟩
theorem Wz (kb:List UInt8)(hk:kb.length=16)(f:lj)(hT:pR (fW f).2.2.2.2.2.2.2.1)(hz:pU (fW f))(hh:0<=f.2.2.2.2.2.1/\f.2.2.2.2.2.1<18446744073709551616)(ts:List UInt8)(kc:ts.length<=1000000)(tr:Int)(w:World)(ht:vA w (fW f).2.2.2.2.2.2.2.1 ts tr):
  Ret Tryz.prog 24 #[.agg (cV kb).toArray,lH f] w fun r w'=>∃ v:Sl,r=.tuple #[.slice v.1 v.2.1 v.2.2,.int .i64 (vz kb f ts tr).2]/\Own w w' v (vz kb f ts tr).1/\Fr none1 w w':=by
 refine c24 (cV kb) f w _ ?_;unfold C24;refine ak.of fun g0 w0 Hb sr f0 _=>ak.of fun g1 w1 dp au f1 kq=>?_;have au:w1.heap[g1]? = some (.cells (dI f).toArray 42 (0,0)):=au;have vC:=f0.trans f1;refine aq.aE (cks:=FK) (x:=f) au ?_;refine ab.of (NA f hT hz hh ts kc tr w1 (ht.ag vC)) ?_;rintro _ w2 ⟨v,rfl,hv,f2⟩;refine⟨(v,(kg f ts tr).2,()),rfl,?_⟩;have F:=vC.trans f2;have lA:(kg f ts tr).1.length<=10000035:=by
  have:=zU (fW f) hz ts kc tr;have:=Ai f;unfold kg;split
  ·simp
  split
  ·dsimp only;omega
  ·dsimp only;rw[List.length_append];omega
 unfold vz;dsimp only;have WA:=vC.size;refine aa.ne (fun ay=>?_) (fun he=>?_)
 ·rw[if_pos ay]
  exact⟨(none,0,0),rfl,⟨ER w2,fun k ⟨a,ha,_⟩=>by cases ha⟩,F⟩
 rw[if_neg (fun t=>t he)];generalize(kg f ts tr).1=bs at *;refine eK.of (f2.af (f1.af sr)) (by simp[cV,hk]) ?_;refine ab.of (Hi hk hv.is.rd hv.is.cap (by omega)) ?_;rintro _ w3 ⟨rfl,f3⟩;refine⟨_,rfl,?_⟩;have hr:=GC kb bs;refine Ht _ hr.1 hr.2 w3 fun u w4 hu f4=>?_;have f24:=f3.trans f4;have WB:=f24.size;have s2:=f2.size;refine(hv.af f24).app (by omega) hu.rd (by rw[qi];omega) fun o w5 ho f5=>?_;exact⟨o,rfl,⟨ho.is,fun k hk=>by have:=ho.lo k hk;omega⟩,(F.trans f24).comp f5 fun k hk t=>by have:=hv.lo k t;omega⟩
abbrev ct:=Int×Int×Int×Int×Int×Int×Bool×aT
def ct.f (m:ct):lj:=(m.1,m.2.1,m.2.2.1,m.2.2.2.1,m.2.2.2.2.1,m.2.2.2.2.2.1,m.2.2.2.2.2.2.1,m.2.2.2.2.2.2.2.e)
def ct.m (m:ct):aT:=m.2.2.2.2.2.2.2
def jD:ct:=(0,0,0,0,0,0,false,bb)
def ll (m:ct):List UInt8×Int:=kg m.f (bp m.m.t).1 (bp m.m.t).2
def kI (kb:List UInt8)(m:ct):List UInt8×Int:=vz kb m.f (bp m.m.t).1 (bp m.m.t).2
def fu (bs:List UInt8)(a b:Nat):List UInt8:=(bs.drop a).take (b - a)
def il (bs:List UInt8):ct:=
 (((bs.getD 0 0).toNat:Int),(ia (fu bs 1 9)).1,(ia (fu bs 9 17)).1,((bs.getD 17 0).toNat:Int),(ia (fu bs 18 26)).1,(gK (fu bs 26 34):Int),(bs.getD 34 0).toNat==1,
  if(bs.getD 17 0).toNat=1 then(fV false (bs.drop 35)).1 else bb)
def iS (bs:List UInt8):List UInt8:=bs.take (bs.length - 8)
def xL (bs:List UInt8):List UInt8:=bs.drop (bs.length - 8)
def eZ (kb bs:List UInt8):ct×Int:=
 if bs.length<8 then(jD,2) else if xL bs≠gL (nC kb (iS bs)) then(jD,12) else if(iS bs).length<35 then(jD,2)
 else if(ll (il (iS bs))).2≠0\/(ll (il (iS bs))).1≠iS bs then(jD,2) else(il (iS bs),0)
theorem Hx {n:Int}(h:iC n=true):0<=n/\n<=2147483647:=by
 unfold iC at h;simp only[Bool.and_eq_true,decide_eq_true_eq] at h;exact h
theorem CS {f:lj}{tr:Int}(h:kH f tr=0):(f.1=0\/f.1=1)/\(0<=f.2.1/\f.2.1<=2147483647)/\(0<=f.2.2.1/\f.2.2.1<=2147483647)/\(0<=f.2.2.2.2.1/\f.2.2.2.2.1<=2147483647)/\(1<=f.2.2.2.1/\f.2.2.2.1<=4) /\
  (f.2.2.2.1=1->mA (fW f) tr=0)/\(f.2.2.2.1≠1->sE (fW f)=true):=by
 unfold kH at h
 by_cases h1:nG f=false
 ·rw[if_pos h1] at h;cases h
 rw[if_neg h1] at h
 by_cases h2:tO f=false
 ·rw[if_pos h2] at h;cases h
 rw[if_neg h2] at h;have h1:nG f=true:=by simpa using h1
 have h2:tO f=true:=by simpa using h2
 unfold nG at h1;simp only[Bool.and_eq_true,Bool.or_eq_true,beq_iff_eq] at h1;obtain⟨a,b,c,d⟩:=h1;unfold tO at h2;rw[Bool.and_eq_true,Bool.and_eq_true,decide_eq_true_eq,decide_eq_true_eq] at h2;refine⟨a,Hx b,Hx c,Hx d,⟨h2.1,h2.2.1⟩,fun k=>?_,fun k=>?_⟩
 ·rw[if_pos k] at h;exact h
 ·rw[if_neg k] at h
  by_cases hn:sE (fW f)=false
  ·rw[if_pos hn] at h;cases h
  ·simpa using hn
theorem WC {m:aT}(h:sE m.e=true):m=bb:=by
 unfold sE at h;simp only[Bool.and_eq_true,beq_iff_eq] at h;obtain⟨ht,h1,h2,h3,h4,h5,h6,h7⟩:=h;obtain⟨a1,a2,a3,a4,a5,a6,a7,a8⟩:=m;simp only[aT.e] at ht h1 h2 h3 h4 h5 h6 h7;rw[tG,decide_eq_true_eq] at h2 h3 h4 h5;obtain rfl:=xw ht;subst h1 h2 h3 h4 h5 h6 h7;rfl
theorem HA {m:ct}{bs:List UInt8}(h:ll m=(bs,0)):kH m.f (bp m.m.t).2=0/\bs=ri m.f++(if m.2.2.2.1=1 then(dw m.m).1 else[])/\(m.2.2.2.1=1->(dw m.m).2=0):=by
 unfold ll kg at h
 by_cases h0:kH m.f (bp m.m.t).2≠0
 ·rw[if_pos h0] at h;injection h with _ h;exact(h0 h).elim
 rw[if_neg h0] at h;have h0:kH m.f (bp m.m.t).2=0:=Classical.not_not.1 h0;refine⟨h0,?_,fun k=>?_⟩
 ·by_cases k:m.2.2.2.1=1
  ·rw[if_pos k]
   rw[if_neg (fun t=>t k)] at h;injection h with h _
   exact h.symm
  ·rw[if_neg k]
   rw[if_pos (show m.f.2.2.2.1≠1 from k)] at h;injection h with h _
   rw[<- h,List.append_nil]
 ·have:=(CS h0).2.2.2.2.2.1 k
  show(je m.m.e _ _).2=0;unfold je;rw[if_neg (fun t=>t this)]
theorem CT (a b c:List UInt8){i j:Nat}(hi:a.length=i)(hj:a.length+b.length=j):fu (a++(b++c)) i j=b:=by
 subst hi;subst hj;unfold fu;rw[List.drop_left,show a.length+b.length - a.length=b.length by omega,List.take_left]
theorem NN (a:List UInt8)(x:UInt8)(c:List UInt8){i:Nat}(hi:a.length=i):(a++(x::c)).getD i 0=x:=by
 subst hi;rw[List.getD_eq_getElem?_getD,List.getElem?_append_right (Nat.le_refl _),Nat.sub_self];rfl
theorem NO {n:Int}(h0:0<=n)(h1:n<=255):((UInt8.ofNat (n % 256).toNat).toNat:Int)=n:=by rw[oU (by omega)];omega
theorem WD {m:ct}{bs:List UInt8}(hh:0<=m.2.2.2.2.2.1/\m.2.2.2.2.2.1<18446744073709551616)(h:ll m=(bs,0)):il bs=m:=by
 obtain⟨hc,hb,hp⟩:=HA h;obtain⟨c1,c2,c3,c4,c5,c6,c7⟩:=CS hc;obtain⟨fr,ep,nu,ki,sl,he,fl,ev⟩:=m;simp only[ct.f,ct.m,fW] at hc hb hp c1 c2 c3 c4 c5 c6 c7 hh;obtain⟨T,hT⟩:∃ T,T=(if ki=1 then(dw ev).1 else[]):=⟨_,rfl⟩;rw[<- hT] at hb;have F:=UInt8.ofNat (fr % 256).toNat;have e0:bs=[]++(UInt8.ofNat (fr % 256).toNat::(cu ep++(cu nu++(UInt8.ofNat (ki % 256).toNat::(cu sl++(gL he++([if fl=true then 1 else 0]++T))))))):=by
  rw[hb];unfold ri;simp only[List.cons_append,List.append_assoc,List.nil_append]
 have e1:bs=[UInt8.ofNat (fr % 256).toNat]++(cu ep++(cu nu++(UInt8.ofNat (ki % 256).toNat::(cu sl++(gL he++([if fl=true then 1 else 0]++T)))))):=by rw[e0];rfl
 have e9:bs=([UInt8.ofNat (fr % 256).toNat]++cu ep)++(cu nu++(UInt8.ofNat (ki % 256).toNat::(cu sl++(gL he++([if fl=true then 1 else 0]++T))))):=by rw[e1,List.append_assoc]
 have e17:bs=([UInt8.ofNat (fr % 256).toNat]++cu ep++cu nu)++(UInt8.ofNat (ki % 256).toNat::(cu sl++(gL he++([if fl=true then 1 else 0]++T)))):=by rw[e9,List.append_assoc ([UInt8.ofNat (fr % 256).toNat]++cu ep)]
 have e18:bs=([UInt8.ofNat (fr % 256).toNat]++cu ep++cu nu++[UInt8.ofNat (ki % 256).toNat])++(cu sl++(gL he++([if fl=true then 1 else 0]++T))):=by rw[e17,List.append_assoc ([UInt8.ofNat (fr % 256).toNat]++cu ep++cu nu)];rfl
 have e26:bs=([UInt8.ofNat (fr % 256).toNat]++cu ep++cu nu++[UInt8.ofNat (ki % 256).toNat]++cu sl)++(gL he++([if fl=true then 1 else 0]++T)):=by rw[e18,List.append_assoc ([UInt8.ofNat (fr % 256).toNat]++cu ep++cu nu++[UInt8.ofNat (ki % 256).toNat])]
 have e34:bs=([UInt8.ofNat (fr % 256).toNat]++cu ep++cu nu++[UInt8.ofNat (ki % 256).toNat]++cu sl++gL he)++((if fl=true then 1 else 0)::T):=by rw[e26,List.append_assoc ([UInt8.ofNat (fr % 256).toNat]++cu ep++cu nu++[UInt8.ofNat (ki % 256).toNat]++cu sl)];rfl
 have e35:bs.drop 35=T:=by
  rw[e34,show([UInt8.ofNat (fr % 256).toNat]++cu ep++cu nu++[UInt8.ofNat (ki % 256).toNat]++cu sl++gL he++((if fl=true then 1 else 0)::T))=([UInt8.ofNat (fr % 256).toNat]++cu ep++cu nu++[UInt8.ofNat (ki % 256).toNat]++cu sl++gL he++[if fl=true then 1 else 0])++T by rw[List.append_assoc _ [_] T];rfl];exact List.drop_left' (by simp only[List.length_append,iJ,qi,List.length_singleton])
 have g0:bs.getD 0 0=UInt8.ofNat (fr % 256).toNat:=by rw[e0];rfl
 have g17:bs.getD 17 0=UInt8.ofNat (ki % 256).toNat:=by rw[e17];exact NN _ _ _ (by simp only[List.length_append,iJ,List.length_singleton])
 have u7:bs.getD 34 0=(if fl=true then 1 else 0):=by rw[e34];exact NN _ _ _ (by simp only[List.length_append,iJ,qi,List.length_singleton])
 have p1:fu bs 1 9=cu ep:=by rw[e1];exact CT _ _ _ rfl (by rw[iJ];rfl)
 have p9:fu bs 9 17=cu nu:=by rw[e9];exact CT _ _ _ (by simp only[List.length_append,iJ,List.length_singleton]) (by simp only[List.length_append,iJ,List.length_singleton])
 have WE:fu bs 18 26=cu sl:=by rw[e18];exact CT _ _ _ (by simp only[List.length_append,iJ,List.length_singleton]) (by simp only[List.length_append,iJ,List.length_singleton])
 have WG:fu bs 26 34=gL he:=by rw[e26];exact CT _ _ _ (by simp only[List.length_append,iJ,List.length_singleton]) (by simp only[List.length_append,iJ,qi,List.length_singleton])
 have kb:((UInt8.ofNat (ki % 256).toNat).toNat:Int)=ki:=NO (by omega) (by omega);have xK:(if(UInt8.ofNat (ki % 256).toNat).toNat=1 then(fV false T).1 else bb)=ev:=by
  by_cases k:ki=1
  ·rw[if_pos (by omega),hT,if_pos k]
   have hp:=hp k;rw[MF false (m:=ev) (Prod.ext rfl hp)]
  ·rw[if_neg (by omega)]
   exact(WC (c7 k)).symm
 have jP:(((if fl=true then 1 else 0:UInt8)).toNat==1)=fl:=by cases fl<;>rfl
 unfold il;rw[g0,g17,u7,p1,p9,WE,WG,e35,xK,jP,kb,NO (by rcases c1 with h | h<;>omega) (by rcases c1 with h | h<;>omega),BS ep (by omega) (by omega),BS nu (by omega) (by omega),BS sl (by omega) (by omega),UU he hh.1 hh.2]
theorem WH {m:ct}{bs:List UInt8}(h:ll m=(bs,0)):35<=bs.length:=by
 rw[(HA h).2.1,List.length_append,Ai];omega
theorem WI {kb:List UInt8}{m:ct}{bs:List UInt8}(hh:0<=m.2.2.2.2.2.1/\m.2.2.2.2.2.1<18446744073709551616)(h:ll m=(bs,0)):eZ kb (bs++gL (nC kb bs))=(m,0):=by
 have hl:(bs++gL (nC kb bs)).length=bs.length+8:=by rw[List.length_append,qi]
 have ht:iS (bs++gL (nC kb bs))=bs:=by unfold iS;rw[hl,Nat.add_sub_cancel,List.take_left]
 have hs:xL (bs++gL (nC kb bs))=gL (nC kb bs):=by unfold xL;rw[hl,Nat.add_sub_cancel,List.drop_left]
 have h35:=WH h;unfold eZ;rw[if_neg (by omega),ht,hs,if_neg (fun t=>t rfl),if_neg (by omega),WD hh h,h,if_neg (by simp)]
def C252 (p0:Value)(w:World)(K:Value->World->Prop):Prop:=
 ao p0 222 (.agg [.int .i64]) (fun(x1:Int×Unit)=>K (.int .i64 1) w)
 (ao p0 300 (.agg [.str]) (fun(x2:ByteArray×Unit)=>K (.int .i64 2) w)
 (ao p0 302 (.agg [.raw,.raw]) (fun(x3:Value×Value×Unit)=>K (.int .i64 3) w)
 (ao p0 304 (.agg [.raw]) (fun(x4:Value×Unit)=>K (.int .i64 4) w)
 (ao p0 305 (.agg [.raw,.raw]) (fun(x5:Value×Value×Unit)=>K (.int .i64 5) w)
 (ao p0 306 (.agg [.raw,.raw]) (fun(x6:Value×Value×Unit)=>K (.int .i64 6) w)
 (K (.int .i64 0) w))))))
def pl252:aB:=.auto
theorem c252 (p0:Value)(w:World)(K:Value->World->Prop)(h:C252 p0 w K):Ret Tryz.prog 252 #[p0] w K:=aC (by kernel_rfl) Tryz.func252 (p:=pl252) (Eq.mpr (by kernel_rfl) h)
def C227 (p0:Value)(p1:Value)(w:World)(K:Value->World->Prop):Prop:=
 ab Tryz.prog 252 #[p0] w (.v (.one (.int .i64))) (fun(x1:Int) w2=>aa (x1==0)
 (K (.bool false) w2)
 (ab Tryz.prog 252 #[p0] w2 (.v (.one (.int .i64))) (fun(x3:Int) w4=>ab Tryz.prog 252 #[p1] w4 (.v (.one (.int .i64))) (fun(x5:Int) w6=>aa (x3 != x5)
 (K (.bool false) w6)
 (ao p0 222 (.agg [.int .i64]) (fun(x7:Int×Unit)=>ak (.cells #[.int .i64 0] 222) w6 (fun g8 w9=>ar (ad g8) [.int .i64 x7.1] w9 (fun aG=>aD aG (fun aO=>aq [.int .i64] (ad g8) aO (fun(bx:Int×Unit)=>ao p1 222 (.agg [.int .i64]) (fun(bz:Int×Unit)=>aA Tryz.prog (do eqGuard .eql 222 (.tmp 25) (.tmp 27) (.agg #[.int .i64 bx.1]) (.agg #[.int .i64 bz.1]);binOp .eql 222 (.agg #[.int .i64 bx.1]) (.agg #[.int .i64 bz.1])) aO (.v (.one .bool)) (fun(bg:Bool) bM=>K (.bool bg) bM)) False)))))
 (ak (.cells #[.int .i64 0] 222) w6 (fun g16 cj=>ar (ad g16) [.int .i64 0] cj (fun bt=>ao p0 300 (.agg [.str]) (fun(br:ByteArray×Unit)=>ak (.cells #[.string (⟨#[]⟩:ByteArray)] 300) bt (fun g20 bw=>ar (ad g20) [.string br.1] bw (fun bJ=>aD bJ (fun cL=>aq [.str] (ad g20) cL (fun(cm:ByteArray×Unit)=>ao p1 300 (.agg [.str]) (fun(bD:ByteArray×Unit)=>aA Tryz.prog (do eqGuard .eql 300 (.tmp 35) (.tmp 37) (.agg #[.string cm.1]) (.agg #[.string bD.1]);binOp .eql 300 (.agg #[.string cm.1]) (.agg #[.string bD.1])) cL (.v (.one .bool)) (fun(dc:Bool) eN=>K (.bool dc) eN)) False)))))
 (ak (.cells #[.string (⟨#[]⟩:ByteArray)] 300) bt (fun HB eD=>ar (ad HB) [.string (⟨#[]⟩:ByteArray)] eD (fun bS=>ab Tryz.prog 254 #[p0] bS (.v (.one .aj)) (fun(bZ:an) cU=>ab Tryz.prog 254 #[p1] cU (.v (.one .aj)) (fun(dA:an) gJ=>ab Tryz.prog 253 #[.slice bZ.1 bZ.2.1 bZ.2.2,.slice dA.1 dA.2.1 dA.2.2,.func (.func 227) #[] #[]] gJ (.v (.one .bool)) (fun(dv:Bool) dd=>K (.bool dv) dd))))))))))))))
def pl227:aB:=(.seq .auto (.seq .auto (.seq (.seq .auto (.seq .auto (.cond (.seq (.tail 3) .auto) .auto))) (.seq (.seq .auto (.seq .auto (.cond (.seq (.tail 3) .auto) .auto))) .auto))))
theorem c227 (p0:Value)(p1:Value)(w:World)(K:Value->World->Prop)(h:C227 p0 p1 w K):Ret Tryz.prog 227 #[p0,p1] w K:=aC (by kernel_rfl) Tryz.func227 (p:=pl227) (Eq.mpr (by kernel_rfl) h)
def C191 (p0:Value)(p1:Value)(w:World)(K:Value->World->Prop):Prop:=
 ab Tryz.prog 224 #[p0] w (.v (.one (.int .i64))) (fun(x1:Int) w2=>aa (x1==0)
 (K (.bool false) w2)
 (ab Tryz.prog 224 #[p0] w2 (.v (.one (.int .i64))) (fun(x3:Int) w4=>ab Tryz.prog 224 #[p1] w4 (.v (.one (.int .i64))) (fun(x5:Int) w6=>aa (x3 != x5)
 (K (.bool false) w6)
 (ab Tryz.prog 225 #[p0] w6 (.aN [.one .str,.one (.int .i64)]) (fun(x7:ByteArray×Int×Unit) w8=>ab Tryz.prog 225 #[p1] w8 (.aN [.one .str,.one (.int .i64)]) (fun(x9:ByteArray×Int×Unit) aG=>aa (!(x7.1.toList==x9.1.toList))
 (K (.bool false) aG)
 (aa (x7.2.1 != x9.2.1)
 (K (.bool false) aG)
 (ab Tryz.prog 226 #[p0] aG (.aN [.one .raw,.one .bool]) (fun(aX:Value×Bool×Unit) aL=>aa aX.2.1
 (ab Tryz.prog 226 #[p1] aL (.aN [.one .raw,.one .bool]) (fun(bz:Value×Bool×Unit) bo=>ab Tryz.prog 227 #[aX.1,bz.1] bo (.v (.one .bool)) (fun(bn:Bool) bj=>aa (!bn)
 (K (.bool false) bj)
 (ab Tryz.prog 229 #[p0] bj (.v (.one .aj)) (fun(ba:an) bt=>ab Tryz.prog 229 #[p1] bt (.v (.one .aj)) (fun(br:an) bh=>ab Tryz.prog 228 #[.slice ba.1 ba.2.1 ba.2.2,.slice br.1 br.2.1 br.2.2,.func (.func 191) #[] #[]] bh (.v (.one .bool)) (fun(bY:Bool) bJ=>K (.bool bY) bJ)))))))
 (ab Tryz.prog 229 #[p0] aL (.v (.one .aj)) (fun(cv:an) cg=>ab Tryz.prog 229 #[p1] cg (.v (.one .aj)) (fun(bD:an) cn=>ab Tryz.prog 228 #[.slice cv.1 cv.2.1 cv.2.2,.slice bD.1 bD.2.1 bD.2.2,.func (.func 191) #[] #[]] cn (.v (.one .bool)) (fun(cA:Bool) bV=>K (.bool cA) bV))))))))))))))
def pl191:aB:=.auto
theorem c191 (p0:Value)(p1:Value)(w:World)(K:Value->World->Prop)(h:C191 p0 p1 w K):Ret Tryz.prog 191 #[p0,p1] w K:=aC (by kernel_rfl) Tryz.func191 (p:=pl191) (Eq.mpr (by kernel_rfl) h)
def C253 (p0:Option Addr)(aJ aP:Nat)(p1:Option Addr)(cw cN:Nat)(p2:Value)(w:World)(K:Value->World->Prop):Prop:=
 aa ((aJ:Int) != (cw:Int))
 (K (.bool false) w)
 (bC (Int×Unit) (fun _ s1 w2 gO=>aa (decide (s1.1<(aJ:Int)))
 (bQ p0 aJ s1.1 1 (fun a4=>ae .raw a4 w2 (fun(x5:Value)=>bQ p1 cw s1.1 1 (fun a6=>ae .raw a6 w2 (fun(x7:Value)=>kQ Tryz.prog p2 [x5,x7] (.v (.one .bool)) w2 (fun(x8:Bool) w9=>aa (!x8)
 (K (.bool false) w9)
 (gO (IntKind.i64.wrap (s1.1+1),()) w9)))))))
 (K (.bool true) w2))
 (0,()) w)
def pl253:aB:=(.seq .auto (.seq .auto (.seq (.seq .auto (.block (.loop [(17,.one (.int .i64))] .auto))) .auto)))
theorem c253 (p0:Option Addr)(aJ aP:Nat)(p1:Option Addr)(cw cN:Nat)(p2:Value)(w:World)(K:Value->World->Prop)(h:C253 p0 aJ aP p1 cw cN p2 w K):Ret Tryz.prog 253 #[.slice p0 aJ aP,.slice p1 cw cN,p2] w K:=aC (by kernel_rfl) Tryz.func253 (p:=pl253) (Eq.mpr (by kernel_rfl) h)
def C228 (p0:Option Addr)(aJ aP:Nat)(p1:Option Addr)(cw cN:Nat)(p2:Value)(w:World)(K:Value->World->Prop):Prop:=
 aa ((aJ:Int) != (cw:Int))
 (K (.bool false) w)
 (bC (Int×Unit) (fun _ s1 w2 gO=>aa (decide (s1.1<(aJ:Int)))
 (bQ p0 aJ s1.1 1 (fun a4=>ae .raw a4 w2 (fun(x5:Value)=>bQ p1 cw s1.1 1 (fun a6=>ae .raw a6 w2 (fun(x7:Value)=>kQ Tryz.prog p2 [x5,x7] (.v (.one .bool)) w2 (fun(x8:Bool) w9=>aa (!x8)
 (K (.bool false) w9)
 (gO (IntKind.i64.wrap (s1.1+1),()) w9)))))))
 (K (.bool true) w2))
 (0,()) w)
def pl228:aB:=(.seq .auto (.seq .auto (.seq (.seq .auto (.block (.loop [(17,.one (.int .i64))] .auto))) .auto)))
theorem c228 (p0:Option Addr)(aJ aP:Nat)(p1:Option Addr)(cw cN:Nat)(p2:Value)(w:World)(K:Value->World->Prop)(h:C228 p0 aJ aP p1 cw cN p2 w K):Ret Tryz.prog 228 #[.slice p0 aJ aP,.slice p1 cw cN,p2] w K:=aC (by kernel_rfl) Tryz.func228 (p:=pl228) (Eq.mpr (by kernel_rfl) h)
def pn:Ob->Int
 | .none=>0
 | .const _=>1
 | .fix _=>2
 | .add _ _=>3
 | .neg _=>4
 | .mul _ _=>5
 | .max _ _=>6
def jE:Ob->Ob->Bool
 | .const n,.const m=>n==m
 | .fix s,.fix t=>s==t
 | .add a b,.add c d=>jE a c&&jE b d
 | .neg a,.neg c=>jE a c
 | .mul a b,.mul c d=>jE a c&&jE b d
 | .max a b,.max c d=>jE a c&&jE b d
 | _,_=>false
def iZ:Tm->Tm->Bool
 | .zero,.zero=>true
 | .one s,.one t=>s==t
 | .gG a,.gG c=>iZ a c
 | .and a b,.and c d=>iZ a c&&iZ b d
 | .or s a b,.or t c d=>s==t&&(iZ a c&&iZ b d)
 | .scale o a,.scale p c=>jE o p&&iZ a c
 | .when n a,.when m c=>n==m&&iZ a c
 | .cond o a b,.cond p c d=>jE o p&&(iZ a c&&iZ b d)
 | _,_=>false
theorem WJ (o:Ob)(h:cZ o=true):jE o o=true:=by
 induction o<;>simp_all [jE,cZ]
theorem WK (t:Tm)(h:cJ t=true):iZ t t=true:=by
 induction t<;>simp_all [iZ,cJ,WJ]
theorem WL (i j:Int)(o1 o2:Operand)(w:World):
  (do eqGuard .eql 222 o1 o2 (.agg #[.int .i64 i]) (.agg #[.int .i64 j]);binOp .eql 222 (.agg #[.int .i64 i]) (.agg #[.int .i64 j]):Sem Value).run Tryz.prog w=.ok (.bool (i==j)) w:=by
 have hf:∃ fs,Tryz.prog.underlying 222=some (.struct fs)/\Tryz.prog.fieldsOf 222=fs:=by
  unfold Program.fieldsOf;rw[Tryz.underlying222];exact⟨_,rfl,rfl⟩
 have hu:Tryz.prog.underlying 222=some (.struct (Tryz.prog.fieldsOf 222)):=by
  obtain⟨fs,h1,h2⟩:=hf;rw[h1,h2]
 rw[Sem.run_bind,run_eqGuard_agg w _ _ _ _ _ _ (show Tryz.prog.eqGuardType Tryz.prog.depth 222=false by kernel_rfl),Result.andThen_ok,run_eql_struct,run_equalIn_agg w _ _ _ _ hu (by kernel_rfl)];have hF : (Tryz.prog.fieldsOf 222).toList = [{ name := "N", type := 3, offset := 0, embedded := false, tag := "", pkgPath := "", byteOffset := 0 }] := by
  unfold Program.fieldsOf;rw[Tryz.underlying222]
 have p0:∀ (v:Value),(part 3 #[v] 0).run Tryz.prog w=.ok v w:=fun v=>by simp[part,isAgg,under Tryz.underlying3]
 rw[hF];have q1:(Op.equalIn 9999 3 (.int .i64 i) (.int .i64 j)).run Tryz.prog w=.ok (i==j) w:=run_equalIn_int w 9998 _ _ _ _ _ Tryz.underlying3;simp only[Op.eqFields, ne_eq, if_pos (show ¬ ("N" = "_") by decide), Sem.run_bind, p0, Result.andThen_ok, q1]
 by_cases lz:i=j
 ·subst lz;simp
 ·simp[lz]
theorem fix_eq (x y:ByteArray)(o1 o2:Operand)(w:World):
  (do eqGuard .eql 300 o1 o2 (.agg #[.string x]) (.agg #[.string y]);binOp .eql 300 (.agg #[.string x]) (.agg #[.string y]):Sem Value).run Tryz.prog w=.ok (.bool (x.toList==y.toList)) w:=by
 have hf:∃ fs,Tryz.prog.underlying 300=some (.struct fs)/\Tryz.prog.fieldsOf 300=fs:=by
  unfold Program.fieldsOf;rw[Tryz.underlying300];exact⟨_,rfl,rfl⟩
 have hu:Tryz.prog.underlying 300=some (.struct (Tryz.prog.fieldsOf 300)):=by
  obtain⟨fs,h1,h2⟩:=hf;rw[h1,h2]
 rw[Sem.run_bind,run_eqGuard_agg w _ _ _ _ _ _ (show Tryz.prog.eqGuardType Tryz.prog.depth 300=false by kernel_rfl),Result.andThen_ok,run_eql_struct,run_equalIn_agg w _ _ _ _ hu (by kernel_rfl)];have hF : (Tryz.prog.fieldsOf 300).toList = [{ name := "Name", type := 9, offset := 0, embedded := false, tag := "", pkgPath := "", byteOffset := 0 }] := by
  unfold Program.fieldsOf;rw[Tryz.underlying300]
 have p0:∀ (v:Value),(part 9 #[v] 0).run Tryz.prog w=.ok v w:=fun v=>by simp[part,isAgg,under Tryz.underlying9]
 rw[hF];have q1:(Op.equalIn 9999 9 (.string x) (.string y)).run Tryz.prog w=.ok (x.toList==y.toList) w:=run_equalIn_string w 9998 _ _ _ Tryz.underlying9;simp only[Op.eqFields, ne_eq, if_pos (show ¬ ("Name" = "_") by decide), Sem.run_bind, p0, Result.andThen_ok, q1]
 cases x.toList==y.toList<;>simp
theorem HC (o:Ob)(w:World):Ret Tryz.prog 252 #[o.v] w fun r w'=>r=.int .i64 (pn o)/\w=w':=by
 refine c252 o.v w _ ?_;cases o with
 | none=>exact ao.nil rfl (ao.nil rfl (ao.nil rfl (ao.nil rfl (ao.nil rfl (ao.nil rfl ⟨rfl,rfl⟩)))))
 | const n=>exact ao.hit (n,()) rfl ⟨rfl,rfl⟩
 | fix s=>exact ao.aM rfl (by decide) (ao.hit (str s,()) rfl ⟨rfl,rfl⟩)
 | add l r=>exact ao.aM rfl (by decide) (ao.aM rfl (by decide) (ao.hit (l.v,r.v,()) rfl ⟨rfl,rfl⟩))
 | neg x=>exact ao.aM rfl (by decide) (ao.aM rfl (by decide) (ao.aM rfl (by decide) (ao.hit (x.v,()) rfl ⟨rfl,rfl⟩)))
 | mul l r=>exact ao.aM rfl (by decide) (ao.aM rfl (by decide) (ao.aM rfl (by decide) (ao.aM rfl (by decide) (ao.hit (l.v,r.v,()) rfl ⟨rfl,rfl⟩))))
 | max l r=>exact ao.aM rfl (by decide) (ao.aM rfl (by decide) (ao.aM rfl (by decide) (ao.aM rfl (by decide) (ao.aM rfl (by decide) (ao.hit (l.v,r.v,()) rfl ⟨rfl,rfl⟩)))))
def lp {α β:Type}(f:α->β->Bool):List α->List β->Bool
 | [],[]=>true
 | a::l,b::m=>f a b&&lp f l m
 | _,_=>false
theorem HD {α β:Type}(f:α->β->Bool):∀ (l:List α) (m:List β),l.length≠m.length->lp f l m=false
 | [],[],h=>absurd rfl h
 | [],_::_,_=>rfl
 | _::_,[],_=>rfl
 | a::l,b::m,h=>by unfold lp;rw[HD f l m (by simpa using h),Bool.and_false]
theorem HE {α β:Type}(f:α->β->Bool):∀ (l:List α) (m:List β) (i:Nat) (a:α) (b:β),l[i]? = some a->m[i]? = some b->lp f (l.take (i+1)) (m.take (i+1))=(lp f (l.take i) (m.take i)&&f a b)
 | [],_,i,a,b,h,_=>by simp at h
 | x::l,[],i,a,b,_,h=>by simp at h
 | x::l,y::m,0,a,b,h,k=>by simp at h k;subst h k;simp[lp]
 | x::l,y::m,i+1,a,b,h,k=>by
  have:=HE f l m i a b (by simpa using h) (by simpa using k);simp only[List.take_succ_cons,lp];rw[this,Bool.and_assoc]
theorem HF {α β:Type}(f:α->β->Bool):∀ (l:List α) (m:List β) (i:Nat) (a:α) (b:β),l[i]? = some a->m[i]? = some b->f a b=false->lp f l m=false
 | [],_,i,a,b,h,_,_=>by simp at h
 | x::l,[],i,a,b,_,h,_=>by simp at h
 | x::l,y::m,0,a,b,h,k,e=>by simp at h k;subst h k;simp[lp,e]
 | x::l,y::m,i+1,a,b,h,k,e=>by
  have:=HF f l m i a b (by simpa using h) (by simpa using k) e;simp[lp,this]
theorem WM {w:World}{u v:Sl}{l m:List Ob}(hu:lU w u l)(hv:lU w v m)(hl:l.length<=2){cb:Value}(f:Ob->Ob->Bool)
  (B7:∀ a∈l,∀ b∈m,∀ w K,(∀ w',Fr none1 w w'->K (f a b) w')->kQ Tryz.prog cb [a.v,b.v] (.v (.one .bool)) w K) :
  Ret Tryz.prog 253 #[.slice u.1 u.2.1 u.2.2,.slice v.1 v.2.1 v.2.2,cb] w fun r w'=>r=.bool (lp f l m)/\Fr none1 w w':=by
 refine c253 _ _ _ _ _ _ cb w _ ?_;have dk:=hu.len;have cO:=hv.len;refine aa.ne (fun h=>?_) (fun h=>?_)
 ·rw[HD f l m (by omega)];exact⟨rfl,Fr.refl _ _⟩
 refine bC.of (fun s w'=>∃ i:Nat,s.1=i/\i<=l.length/\lp f (l.take i) (m.take i)=true/\Fr none1 w w') (fun s _=>(2 - s.1).toNat) ⟨0,rfl,Nat.zero_le _,rfl,Fr.refl _ _⟩ ?_;rintro _ ⟨i',_⟩ w2 ⟨i,hi,jf,hall,f2⟩;dsimp only at hi ⊢;subst hi;refine aa.dec (fun aU=>?_) (fun eu=>?_)
 ·have fI:i<l.length:=by omega
  have HG:i<m.length:=by omega
  obtain⟨a,ha⟩:∃ a,l[i]? = some a:=⟨_,List.getElem?_eq_getElem fI⟩;obtain⟨b,hb⟩:∃ b,m[i]? = some b:=⟨_,List.getElem?_eq_getElem HG⟩;refine(hu.af f2).ld ha ?_;refine(hv.af f2).ld hb ?_;refine B7 a (List.mem_of_getElem? ha) b (List.mem_of_getElem? hb) _ _ fun w3 f3=>?_;refine aa.not (aa.by (fun e=>?_) (fun e=>?_))
  ·exact⟨⟨i+1,by rw[wI (by omega) (by omega)];omega,by omega,by rw[HE f l m i a b ha hb,hall,e];rfl,f2.trans f3⟩,by rw[wI (by omega) (by omega)];omega⟩
  ·rw[HF f l m i a b ha hb e];exact⟨rfl,f2.trans f3⟩
 ·have:i=l.length:=by omega
  subst this;rw[List.take_length,List.take_of_length_le (by omega)] at hall;rw[hall];exact⟨rfl,f2⟩
theorem WN {w:World}{u v:Sl}{l m:List Tm}(hu:nq w u l)(hv:nq w v m)(hl:l.length<=2){cb:Value}(f:Tm->Tm->Bool)
  (B7:∀ a∈l,∀ b∈m,∀ w K,(∀ w',Fr none1 w w'->K (f a b) w')->kQ Tryz.prog cb [a.v,b.v] (.v (.one .bool)) w K) :
  Ret Tryz.prog 228 #[.slice u.1 u.2.1 u.2.2,.slice v.1 v.2.1 v.2.2,cb] w fun r w'=>r=.bool (lp f l m)/\Fr none1 w w':=by
 refine c228 _ _ _ _ _ _ cb w _ ?_;have dk:=hu.len;have cO:=hv.len;refine aa.ne (fun h=>?_) (fun h=>?_)
 ·rw[HD f l m (by omega)];exact⟨rfl,Fr.refl _ _⟩
 refine bC.of (fun s w'=>∃ i:Nat,s.1=i/\i<=l.length/\lp f (l.take i) (m.take i)=true/\Fr none1 w w') (fun s _=>(2 - s.1).toNat) ⟨0,rfl,Nat.zero_le _,rfl,Fr.refl _ _⟩ ?_;rintro _ ⟨i',_⟩ w2 ⟨i,hi,jf,hall,f2⟩;dsimp only at hi ⊢;subst hi;refine aa.dec (fun aU=>?_) (fun eu=>?_)
 ·have fI:i<l.length:=by omega
  have HG:i<m.length:=by omega
  obtain⟨a,ha⟩:∃ a,l[i]? = some a:=⟨_,List.getElem?_eq_getElem fI⟩;obtain⟨b,hb⟩:∃ b,m[i]? = some b:=⟨_,List.getElem?_eq_getElem HG⟩;refine(hu.af f2).ld ha ?_;refine(hv.af f2).ld hb ?_;refine B7 a (List.mem_of_getElem? ha) b (List.mem_of_getElem? hb) _ _ fun w3 f3=>?_;refine aa.not (aa.by (fun e=>?_) (fun e=>?_))
  ·exact⟨⟨i+1,by rw[wI (by omega) (by omega)];omega,by omega,by rw[HE f l m i a b ha hb,hall,e];rfl,f2.trans f3⟩,by rw[wI (by omega) (by omega)];omega⟩
  ·rw[HF f l m i a b ha hb e];exact⟨rfl,f2.trans f3⟩
 ·have:i=l.length:=by omega
  subst this;rw[List.take_length,List.take_of_length_le (by omega)] at hall;rw[hall];exact⟨rfl,f2⟩
theorem WO (o:Ob):pn o=0↔o=.none:=by cases o<;>simp[pn]
theorem WQ {a b:Ob}(h:pn a≠pn b):jE a b=false:=by cases a<;>cases b<;>simp_all [jE,pn]
theorem WR {a b:Ob}(h0:pn a≠0)(h:pn a=pn b)(hl:(oZ a).1=false):jE a b=lp jE (cT a) (cT b):=by
 cases a<;>cases b<;>simp_all [jE,pn,oZ,cT,lp]
theorem NP (a b:Ob)(w:World):Ret Tryz.prog 227 #[a.v,b.v] w fun r w'=>r=.bool (jE a b)/\Fr none1 w w':=by
 have ih:∀ k∈cT a,∀ b w,Ret Tryz.prog 227 #[k.v,b.v] w fun r w'=>r=.bool (jE k b)/\Fr none1 w w':=fun k hk b w=>NP k b w;refine c227 a.v b.v w _ ?_;refine ab.of (HC a w) ?_;rintro _ _ ⟨rfl,rfl⟩;refine⟨_,rfl,aa.eq (fun h=>?_) (fun h=>?_)⟩
 ·have:=(WO a).1 h
  subst this;exact⟨by cases b<;>rfl,Fr.refl _ _⟩
 refine ab.of (HC a w) ?_;rintro _ _ ⟨rfl,rfl⟩;refine⟨_,rfl,?_⟩;refine ab.of (HC b w) ?_;rintro _ _ ⟨rfl,rfl⟩;refine⟨_,rfl,aa.ne (fun hk=>?_) (fun hk=>?_)⟩
 ·rw[WQ hk];exact⟨rfl,Fr.refl _ _⟩
 have deep:(oZ a).1=false->∀ w2,Fr none1 w w2 ->
   ab Tryz.prog 254 #[a.v] w2 (.v (.one .aj)) (fun(bZ:Option Addr×Nat×Nat) cU=>ab Tryz.prog 254 #[b.v] cU (.v (.one .aj)) (fun(dA:Option Addr×Nat×Nat) gJ=>
   ab Tryz.prog 253 #[.slice bZ.1 bZ.2.1 bZ.2.2,.slice dA.1 dA.2.1 dA.2.2,.func (.func 227) #[] #[]] gJ (.v (.one .bool)) (fun(dv:Bool) dd=>(Value.bool dv)=.bool (jE a b)/\Fr none1 w dd))):=fun hl w2 f2=>by
  refine ab.of (xa a w2) ?_;rintro _ w3 ⟨u,rfl,hu,f3⟩;refine⟨u,rfl,?_⟩;refine ab.of (xa b w3) ?_;rintro _ w4 ⟨v,rfl,hv,f4⟩;refine⟨v,rfl,?_⟩;refine ab.of (WM (hu.af f4) hv (B3 a) jE fun x hx y hy w K hK=>?_) ?_
  ·refine mm (by kernel_rfl) Tryz.func227 (by kernel_rfl) ((ih x hx y w).mono ?_)
   rintro _ w' ⟨rfl,f⟩;exact⟨_,rfl,hK w' f⟩
  ·rintro _ w5 ⟨rfl,f5⟩
   exact⟨_,rfl,by rw[WR h hk hl],((f2.trans f3).trans f4).trans f5⟩
 cases a with
 | none=>exact absurd rfl h
 | const n=>
  cases b<;>simp only[pn] at hk<;>try (exact absurd hk (by decide))
  rename_i m;refine ao.hit (n,()) rfl (cM (zs:=[.int .i64 0]) (vs:=[.int .i64 n]) rfl rfl fun g w1 hg hb f1=>?_);refine aD.of fun w2 _ f2=>?_;refine aq.aE (cks:=[.int .i64]) (x:=(n,())) (f2.af hb) ?_;refine ao.hit (m,()) rfl ?_;exact⟨_,w2,WL n m _ _ w2,rfl,f1.trans f2⟩
 | fix s=>
  cases b<;>simp only[pn] at hk<;>try (exact absurd hk (by decide))
  rename_i t;refine ao.aM rfl (by decide) (mC (zs:=[.int .i64 0]) (vs:=[.int .i64 0]) rfl rfl fun w0 f0=>?_);refine ao.hit (str s,()) rfl (cM (zs:=[.string (⟨#[]⟩:ByteArray)]) (vs:=[.string (str s)]) rfl rfl fun g w1 hg hb f1=>?_);refine aD.of fun w2 _ f2=>?_;refine aq.aE (cks:=[.str]) (x:=(str s,())) (f2.af hb) ?_;refine ao.hit (str t,()) rfl ?_;refine⟨_,w2,fix_eq _ _ _ _ w2,?_,(f0.trans f1).trans f2⟩;show Value.bool _=.bool (s==t);dsimp only;rw[jc]
  by_cases e:s=t<;>simp[e]
 | add l r=>exact ao.aM rfl (by decide) (mC (zs:=[.int .i64 0]) (vs:=[.int .i64 0]) rfl rfl fun w1 f1=>ao.aM rfl (by decide) (mC (zs:=[.string (⟨#[]⟩:ByteArray)]) (vs:=[.string (⟨#[]⟩:ByteArray)]) rfl rfl fun w2 f2=>deep rfl w2 (f1.trans f2)))
 | neg x=>exact ao.aM rfl (by decide) (mC (zs:=[.int .i64 0]) (vs:=[.int .i64 0]) rfl rfl fun w1 f1=>ao.aM rfl (by decide) (mC (zs:=[.string (⟨#[]⟩:ByteArray)]) (vs:=[.string (⟨#[]⟩:ByteArray)]) rfl rfl fun w2 f2=>deep rfl w2 (f1.trans f2)))
 | mul l r=>exact ao.aM rfl (by decide) (mC (zs:=[.int .i64 0]) (vs:=[.int .i64 0]) rfl rfl fun w1 f1=>ao.aM rfl (by decide) (mC (zs:=[.string (⟨#[]⟩:ByteArray)]) (vs:=[.string (⟨#[]⟩:ByteArray)]) rfl rfl fun w2 f2=>deep rfl w2 (f1.trans f2)))
 | max l r=>exact ao.aM rfl (by decide) (mC (zs:=[.int .i64 0]) (vs:=[.int .i64 0]) rfl rfl fun w1 f1=>ao.aM rfl (by decide) (mC (zs:=[.string (⟨#[]⟩:ByteArray)]) (vs:=[.string (⟨#[]⟩:ByteArray)]) rfl rfl fun w2 f2=>deep rfl w2 (f1.trans f2)))
termination_by SizeOf.sizeOf a
decreasing_by exact B1 hk
theorem WS {a b:Tm}(h:jg a≠jg b):iZ a b=false:=by cases a<;>cases b<;>simp_all [iZ,jg]
theorem WU {a b:Tm}(h0:jg a≠0)(h:jg a=jg b):iZ a b=(decide (iz a=iz b)&&((!(fJ a).2||jE (fJ a).1 (fJ b).1)&&lp iZ (dj a) (dj b))):=by
 cases a<;>cases b<;>simp_all [iZ,jg,iz,fJ,dj,lp]<;>(try (rw[Bool.eq_iff_iff];simp))
theorem NQ (a b:Tm)(w:World):Ret Tryz.prog 191 #[a.v,b.v] w fun r w'=>r=.bool (iZ a b)/\Fr none1 w w':=by
 have ih:∀ k∈dj a,∀ b w,Ret Tryz.prog 191 #[k.v,b.v] w fun r w'=>r=.bool (iZ k b)/\Fr none1 w w':=fun k hk b w=>NQ k b w;refine c191 a.v b.v w _ ?_;refine ab.of (rX a w) ?_;rintro _ _ ⟨rfl,rfl⟩;refine⟨_,rfl,aa.eq (fun h=>?_) (fun h=>?_)⟩
 ·have:=(FD a).1 h
  subst this;exact⟨by cases b<;>rfl,Fr.refl _ _⟩
 refine ab.of (rX a w) ?_;rintro _ _ ⟨rfl,rfl⟩;refine⟨_,rfl,?_⟩;refine ab.of (rX b w) ?_;rintro _ _ ⟨rfl,rfl⟩;refine⟨_,rfl,aa.ne (fun hk=>?_) (fun hk=>?_)⟩
 ·rw[WS hk];exact⟨rfl,Fr.refl _ _⟩
 have hP:=WU h hk;refine ab.of (FF a w) ?_;rintro _ w1 ⟨rfl,f1⟩;refine⟨(str (iz a).1,(iz a).2,()),rfl,?_⟩;refine ab.of (FF b w1) ?_;rintro _ w2 ⟨rfl,f2⟩;refine⟨(str (iz b).1,(iz b).2,()),rfl,?_⟩;dsimp only;have f12:=f1.trans f2;rw[jc];refine aa.not (aa.dec (fun h1=>?_) (fun h1=>?_))
 case refine_2=>
  rw[hP,decide_eq_false (fun t=>h1 (by rw[t]))];exact⟨rfl,f12⟩
 refine aa.ne (fun h2=>?_) (fun h2=>?_)
 ·rw[hP,decide_eq_false (fun t=>h2 (by rw[t]))];exact⟨rfl,f12⟩
 rw[decide_eq_true (Prod.ext h1 h2),Bool.true_and] at hP;have deep:∀ w2,Fr none1 w w2->(!(fJ a).2||jE (fJ a).1 (fJ b).1)=true ->
   ab Tryz.prog 229 #[a.v] w2 (.v (.one .aj)) (fun(bZ:Option Addr×Nat×Nat) cU=>ab Tryz.prog 229 #[b.v] cU (.v (.one .aj)) (fun(dA:Option Addr×Nat×Nat) gJ=>
   ab Tryz.prog 228 #[.slice bZ.1 bZ.2.1 bZ.2.2,.slice dA.1 dA.2.1 dA.2.2,.func (.func 191) #[] #[]] gJ (.v (.one .bool)) (fun(dv:Bool) dd=>(Value.bool dv)=.bool (iZ a b)/\Fr none1 w dd))):=fun w2 f2 hn=>by
  refine ab.of (zq a w2) ?_;rintro _ w3 ⟨u,rfl,hu,f3,_⟩;refine⟨u,rfl,?_⟩;refine ab.of (zq b w3) ?_;rintro _ w4 ⟨v,rfl,hv,f4,_⟩;refine⟨v,rfl,?_⟩;refine ab.of (WN (hu.af f4) hv (B4 a) iZ fun x hx y hy w K hK=>?_) ?_
  ·refine mm (by kernel_rfl) Tryz.func191 (by kernel_rfl) ((ih x hx y w).mono ?_)
   rintro _ w' ⟨rfl,f⟩;exact⟨_,rfl,hK w' f⟩
  ·rintro _ w5 ⟨rfl,f5⟩
   exact⟨_,rfl,by rw[hP,hn,Bool.true_and],((f2.trans f3).trans f4).trans f5⟩
 refine ab.of (B9 a w2) ?_;rintro _ w3 ⟨rfl,f3⟩;refine⟨(_,_,()),rfl,aa.by (fun e=>?_) (fun e=>?_)⟩
 ·have e:(fJ a).2=true:=e
  refine ab.of (B9 b w3) ?_;rintro _ w4 ⟨rfl,f4⟩;refine⟨(_,_,()),rfl,?_⟩;refine ab.of (NP (fJ a).1 (fJ b).1 w4) ?_;rintro _ w5 ⟨rfl,f5⟩;refine⟨_,rfl,aa.not (aa.by (fun e2=>?_) (fun e2=>?_))⟩
  ·exact deep w5 (((f12.trans f3).trans f4).trans f5) (by rw[e2];simp)
  ·rw[hP,e,e2];exact⟨rfl,((f12.trans f3).trans f4).trans f5⟩
 ·have e:(fJ a).2=false:=e
  exact deep w3 (f12.trans f3) (by rw[e];rfl)
termination_by SizeOf.sizeOf a
decreasing_by exact B2 hk
def C149 (p0:bE)(p1:bE)(w:World)(K:Value->World->Prop):Prop:=
 ak (.cells ((bT p0).toArray) 36) w (fun g1 w2=>ak (.cells ((bT p1).toArray) 36) w2 (fun g3 w4=>cy (Bool×Unit) (fun J5=>ae .raw ((ad g1).add 7) w4 (fun(x8:Value)=>aA Tryz.prog (do eqGuard .eql 34 (.tmp 7) (.const .nilIface) x8 .nilIface;binOp .eql 34 x8 .nilIface) w4 (.v (.one .bool)) (fun(x9:Bool) aG=>aa x9
 (ae .raw ((ad g3).add 7) aG (fun(aX:Value)=>aA Tryz.prog (do eqGuard .eql 34 (.tmp 11) (.const .nilIface) aX .nilIface;binOp .eql 34 aX .nilIface) aG (.v (.one .bool)) (fun(bx:Bool) aY=>aa bx
 (J5 (true,()) aY)
 (ae .raw ((ad g1).add 7) aY (fun(bg:Value)=>ae .raw ((ad g3).add 7) aY (fun(bn:Value)=>ab Tryz.prog 191 #[bg,bn] aY (.v (.one .bool)) (fun(aS:Bool) cj=>J5 (aS,()) cj)))))))
 (ae .raw ((ad g1).add 7) aG (fun(bB:Value)=>ae .raw ((ad g3).add 7) aG (fun(br:Value)=>ab Tryz.prog 191 #[bB,br] aG (.v (.one .bool)) (fun(cG:Bool) bw=>J5 (cG,()) bw)))))))
 (fun _ s6 w7=>aa s6.1
 (ae (.int .i64) ((ad g1).add 0) w7 (fun(bU:Int)=>ae (.int .i64) ((ad g3).add 0) w7 (fun(cv:Int)=>aa (bU==cv)
 (ae .str ((ad g1).add 1) w7 (fun(cm:ByteArray)=>ae .str ((ad g3).add 1) w7 (fun(bD:ByteArray)=>aa (cm.toList==bD.toList)
 (ae .str ((ad g1).add 2) w7 (fun(dc:ByteArray)=>ae .str ((ad g3).add 2) w7 (fun(cA:ByteArray)=>aa (dc.toList==cA.toList)
 (ae .str ((ad g1).add 3) w7 (fun(eR:ByteArray)=>ae .str ((ad g3).add 3) w7 (fun(cB:ByteArray)=>aa (eR.toList==cB.toList)
 (ae .str ((ad g1).add 4) w7 (fun(eB:ByteArray)=>ae .str ((ad g3).add 4) w7 (fun(bZ:ByteArray)=>aa (eB.toList==bZ.toList)
 (ae (.int .i64) ((ad g1).add 5) w7 (fun(df:Int)=>ae (.int .i64) ((ad g3).add 5) w7 (fun(dA:Int)=>aa (df==dA)
 (ae (.int .i64) ((ad g1).add 6) w7 (fun(dh:Int)=>ae (.int .i64) ((ad g3).add 6) w7 (fun(dv:Int)=>K (.bool (dh==dv)) w7)))
 (K (.bool false) w7))))
 (K (.bool false) w7))))
 (K (.bool false) w7))))
 (K (.bool false) w7))))
 (K (.bool false) w7))))
 (K (.bool false) w7))))
 (K (.bool false) w7))))
def pl149:aB:=(.seq .auto (.join [(5,.one .bool)] .auto .auto))
theorem c149 (p0:bE)(p1:bE)(w:World)(K:Value->World->Prop)(h:C149 p0 p1 w K):Ret Tryz.prog 149 #[.agg (bT p0).toArray,.agg (bT p1).toArray] w K:=aC (by kernel_rfl) Tryz.func149 (p:=pl149) (Eq.mpr (by kernel_rfl) h)
def tP (a b:aT):Bool:=((gR a.t.v&&gR b.t.v)||iZ a.t b.t)&&(a.1==b.1&&(a.2.1==b.2.1&&(a.2.2.1==b.2.2.1&&(a.2.2.2.1==b.2.2.2.1&&(a.2.2.2.2.1==b.2.2.2.2.1&&(a.2.2.2.2.2.1==b.2.2.2.2.2.1&&a.2.2.2.2.2.2.1==b.2.2.2.2.2.2.1))))))
theorem NR (t:Tm):pR t.v:=by cases t<;>first | (exact .inl rfl) | (exact .inr ⟨_,_,rfl⟩)
theorem WV (a b : aT)(w : World): Ret Tryz.prog 149 #[ix a.e, ix b.e] w fun r w' => r = .bool (tP a b) /\ Fr none1 w w' := by
  refine c149 a.e b.e w _ ?_;unfold C149;refine ak.of fun g1 w1 dp au f1 kq => ak.of fun g3 w2 qk aR f2 gw => ?_;have au : w2.heap[g1]? = some (.cells #[.int .i64 a.1, .string (str a.2.1), .string (str a.2.2.1), .string (str a.2.2.2.1), .string (str a.2.2.2.2.1), .int .i64 a.2.2.2.2.2.1, .int .i64 a.2.2.2.2.2.2.1, a.t.v] 36 (0, 0)) := f2.af au;have aR : w2.heap[g3]? = some (.cells #[.int .i64 b.1, .string (str b.2.1), .string (str b.2.2.1), .string (str b.2.2.2.1), .string (str b.2.2.2.2.1), .int .i64 b.2.2.2.2.2.1, .int .i64 b.2.2.2.2.2.2.1, b.t.v] 36 (0, 0)) := aR;have f12 := f1.trans f2;refine cy.of (fun s w' => s.1 = ((gR a.t.v && gR b.t.v) || iZ a.t b.t) /\ Fr none1 w2 w') ?_ ?_
  · have cmp : (gR a.t.v && gR b.t.v) = false -> ae .raw ((⟨g1, 0, none⟩ : Addr).add 7) w2 (fun(bB : Value) => ae .raw ((⟨g3, 0, none⟩ : Addr).add 7) w2 (fun(br : Value) => ab Tryz.prog 191 #[bB, br] w2 (.v (.one .bool)) (fun(cG : Bool) bw =>
        cG = ((gR a.t.v && gR b.t.v) || iZ a.t b.t) /\ Fr none1 w2 bw))) := fun q => by
      refine ae.ah au (x := a.t.v) rfl (ae.ah aR (x := b.t.v) rfl ?_);refine ab.of (NQ a.t b.t w2) ?_;rintro _ w3 ⟨rfl, f3⟩;exact⟨_, rfl, by rw[q]; rfl, f3⟩
    refine ae.ah au (x := a.t.v) rfl ?_;refine⟨gR a.t.v, w2, nil_eq Hk _ (NR _) w2, ?_⟩;refine aa.by (fun q => ?_) (fun q => cmp (by rw[q]; rfl));refine ae.ah aR (x := b.t.v) rfl ?_;refine⟨gR b.t.v, w2, nil_eq Hk _ (NR _) w2, ?_⟩;refine aa.by (fun q' => ?_) (fun q' => cmp (by rw[q, q']; rfl));exact⟨by rw[q, q']; rfl, Fr.refl _ _⟩
  rintro _ ⟨s, _⟩ w3 ⟨hs, f3⟩;dsimp only at hs ⊢;have au := f3.af au;have aR := f3.af aR;have f13 := f12.trans f3;unfold tP;rw[<- hs];refine aa.by (fun q => ?_) (fun q => by rw[q]; exact⟨rfl, f13⟩);rw[q, Bool.true_and];refine ae.ah au (x := a.1) rfl (ae.ah aR (x := b.1) rfl ?_);refine aa.by (fun q => ?_) (fun q => by rw[q]; exact⟨rfl, f13⟩);rw[q, Bool.true_and];refine ae.ah au (x := str a.2.1) rfl (ae.ah aR (x := str b.2.1) rfl ?_);rw[jc, <- Bool.beq_eq_decide_eq];refine aa.by (fun q => ?_) (fun q => by rw[q]; exact⟨rfl, f13⟩);rw[q, Bool.true_and];refine ae.ah au (x := str a.2.2.1) rfl (ae.ah aR (x := str b.2.2.1) rfl ?_);rw[jc, <- Bool.beq_eq_decide_eq];refine aa.by (fun q => ?_) (fun q => by rw[q]; exact⟨rfl, f13⟩);rw[q, Bool.true_and];refine ae.ah au (x := str a.2.2.2.1) rfl (ae.ah aR (x := str b.2.2.2.1) rfl ?_);rw[jc, <- Bool.beq_eq_decide_eq];refine aa.by (fun q => ?_) (fun q => by rw[q]; exact⟨rfl, f13⟩);rw[q, Bool.true_and];refine ae.ah au (x := str a.2.2.2.2.1) rfl (ae.ah aR (x := str b.2.2.2.2.1) rfl ?_);rw[jc, <- Bool.beq_eq_decide_eq];refine aa.by (fun q => ?_) (fun q => by rw[q]; exact⟨rfl, f13⟩);rw[q, Bool.true_and];refine ae.ah au (x := a.2.2.2.2.2.1) rfl (ae.ah aR (x := b.2.2.2.2.2.1) rfl ?_);refine aa.by (fun q => ?_) (fun q => by rw[q]; exact⟨rfl, f13⟩);rw[q, Bool.true_and];refine ae.ah au (x := a.2.2.2.2.2.2.1) rfl (ae.ah aR (x := b.2.2.2.2.2.2.1) rfl ?_);exact⟨rfl, f13⟩
theorem WW {t:Tm}(h:jR t=0):cJ t=true:=by
 unfold jR at h
 repeat' split at h
 all_goals first | (exact absurd h (by decide)) | skip
 rename_i h1 h2 h3 _;simpa using h1
theorem WX {m:aT}{bs:List UInt8}(h:dw m=(bs,0)):tP m m=true:=by
 obtain⟨hc,_⟩:=ME h;obtain⟨hk,ho,_,_,_,_,ht⟩:=Ct hc;have key:((gR m.t.v&&gR m.t.v)||iZ m.t m.t)=true:=by
  by_cases h2:m.e.1=2
  ·have hw:jR m.t=0:=by
    have:=ht h2;unfold bp at this;split at this
    ·rename_i c;exact(c this).elim
    ·rename_i c;exact Classical.not_not.1 c
   rw[WK m.t (WW hw),Bool.or_true]
  ·have hn:cS m.e.1 84=false:=by
    unfold cS fZ;rw[if_neg h2]
    repeat' split
    all_goals decide
   unfold nn at ho;rw[hn] at ho;simp only[Bool.or_false,Bool.and_eq_true] at ho;have hh:gR m.t.v=true:=ho.2.2;rw[hh];rfl
 unfold tP;rw[key];simp
abbrev fw:=aT×Bool
def gD (x:fw):List UInt8×Int:=tK x.1.e (bp x.1.t).1 (bp x.1.t).2 x.2
def fX (kb:List UInt8)(h:Int)(x:fw):Int×Int:=if(gD x).2≠0 then(0,(gD x).2) else(nC kb (gL h++(gD x).1),0)
def po (f:ct):Int:=kH f.f (bp f.m.t).2
structure PeerM where
 kb:List UInt8
 side:Int
 es:List fw
 hs:List Int
 cq:cH
 off:aT×Bool
 aW:aT×Bool
 wanted:Bool
 bG:Bool
 refused:Int
structure bX where
 da:Bool
 cQ:Bool
 bm:fw
 bN:aT
 drop:Bool
 wanted:Bool
 bG:Bool
 calm:Bool
 bO:List ct
def bH:bX:=⟨false,false,(bb,false),bb,false,false,false,false,[]⟩
def vD:aT:=(1,[],[],[],[],0,0,.none)
def mK (kb:List UInt8)(side:Int):PeerM:=⟨kb,if side=0 then 0 else 1,[],[0],xz,(bb,false),(bb,false),false,false,0⟩
namespace PeerM
variable (p:PeerM)
def len:Int:=p.es.length
def head:Int:=p.hs.getD p.es.length 0
def at_ (n:Int):Int×Bool:=if n<0\/(p.hs.length:Int)<=n then(0,false) else(p.hs.getD n.toNat 0,true)
def owner (n:Int):Int:=if n % 2=0 then 0 else 1
def full:Bool:=decide (64<=p.es.length)
def fr (kind slot head:Int)(flag:Bool)(m:aT):ct:=(0,0,0,kind,slot,head,flag,m)
def eT (kind:Int)(flag:Bool)(m:aT):ct:=fr kind p.len p.head flag m
def offer (m:aT):PeerM×Int:=
 if p.bG=true then(p,13) else if p.off.2=true\/(p.aW.2=true/\p.aW.1.kind≠1) then(p,9) else if p.full=true then(p,5) else
 if jU p.cq m p.side≠0 then(p,jU p.cq m p.side) else({ p with off:=(m,true) },0)
def kJ (m:aT):bX:=if jU p.cq m p.side≠0 then{ bH with drop:=true } else{ bH with cQ:=true,bN:=m,bO:=[p.eT 1 false m] }
def tick:bX:=
 if p.bG=true then{ bH with bO:=[p.eT 4 true bb] } else if p.full=true then bH else
 if p.aW.2=true then{ bH with bO:=[p.eT 1 false p.aW.1] } else
 if owner p.len=p.side/\p.off.2=true then p.kJ p.off.1 else if owner p.len=p.side/\p.wanted=true then p.kJ vD else
 if owner p.len≠p.side/\p.off.2=true then{ bH with bO:=[p.eT 3 false bb] } else bH
def qp (n head:Int):Bool:=((p.at_ n).2&&(p.at_ n).1 != head)||decide (p.len+1<n)
def lI (f:ct):bX:=
 { bH with bG:=p.qp f.2.2.2.2.1 f.2.2.2.2.2.1,calm:=!p.qp f.2.2.2.2.1 f.2.2.2.2.2.1&&(f.2.2.2.2.1==p.len&&p.bG),bO:=if f.2.2.2.2.2.2.1=true then[p.eT 4 false bb] else[] }
def want (f:ct):bX:=if p.qp f.2.2.2.2.1 f.2.2.2.2.2.1=true then{ bH with bG:=true } else{ bH with wanted:=f.2.2.2.2.1==p.len&&owner f.2.2.2.2.1==p.side }
def gM (m:aT):Bool:=jU p.cq m (1 - p.side) != 0||(p.refused / 2 ^ m.kind.toNat) % 2==1
def oB (f:ct):bX:=
 if owner f.2.2.2.2.1=p.side\/p.qp f.2.2.2.2.1 f.2.2.2.2.2.1=true then{ bH with bG:=true } else
 if f.2.2.2.2.1<p.len then{ bH with bO:=[fr 2 f.2.2.2.2.1 (p.at_ (f.2.2.2.2.1+1)).1 (p.es.getD f.2.2.2.2.1.toNat (bb,false)).2 bb] } else
 if p.len<f.2.2.2.2.1\/p.full=true then bH else
 if(fX p.kb p.head (f.m,p.gM f.m)).2≠0 then bH else
 { bH with da:=true,bm:=(f.m,p.gM f.m),bO:=[fr 2 f.2.2.2.2.1 (fX p.kb p.head (f.m,p.gM f.m)).1 (p.gM f.m) bb] }
def pq (f:ct):bX:=
 if owner f.2.2.2.2.1≠p.side\/p.len<f.2.2.2.2.1 then{ bH with bG:=true } else
 if f.2.2.2.2.1<p.len then{ bH with bG:=(p.at_ (f.2.2.2.2.1+1)).1 != f.2.2.2.2.2.1 } else
 if p.aW.2=false then{ bH with bG:=true } else
 if(fX p.kb p.head (p.aW.1,f.2.2.2.2.2.2.1)).2≠0\/(fX p.kb p.head (p.aW.1,f.2.2.2.2.2.2.1)).1≠f.2.2.2.2.2.1 then{ bH with bG:=true } else
 { bH with da:=true,bm:=(p.aW.1,f.2.2.2.2.2.2.1) }
def take (f:ct):bX:=
 if po f≠0\/f.1=p.side then bH else if f.2.2.2.1=4 then p.lI f else if p.bG=true then bH else
 if f.2.2.2.1=3 then p.want f else if f.2.2.2.1=1 then p.oB f else p.pq f
def entry (x:fw):PeerM×Int:=
 if 64<=p.es.length then(p,5) else if(fX p.kb p.head x).2≠0 then(p,(fX p.kb p.head x).2) else
 if x.2=false/\(iQ p.cq x.1 (owner p.len)).2≠0 then(p,(iQ p.cq x.1 (owner p.len)).2) else
 ({ p with es:=p.es++[x],hs:=p.hs++[(fX p.kb p.head x).1],cq:=if x.2=true then p.cq else(iQ p.cq x.1 (owner p.len)).1,aW:=(bb,false),wanted:=false },0)
def lq (a:bX):PeerM:=if a.cQ=true then{ p with aW:=(a.bN,true) } else p
def pv (a:bX):Bool:=a.drop||(a.cQ&&(p.off.2&&tP p.off.1 a.bN))
def ended (a:bX):PeerM:=
 { p.lq a with off:=if p.pv a=true then(bb,false) else p.off,wanted:=p.wanted||a.wanted,bG:=(p.bG||a.bG)&&!a.calm }
def bR (a:bX):PeerM×Int:=if a.da=true then(if(p.entry a.bm).2≠0 then(p,(p.entry a.bm).2) else((p.entry a.bm).1.ended a,0)) else(p.ended a,0)
end PeerM
def C8 (p0:Int)(w:World)(K:Value->World->Prop):Prop:=
 ak (.cells #[.slice none 0 0,.int .i64 (if 65536<(if 0 > p0 then 0 else p0) then 65536 else(if 0 > p0 then 0 else p0)),.int .i64 0,.bool false,.int .i64 0,.bool false] 96) w (fun g1 w2=>K (.pointer (some (ad g1))) w2)
def pl8:aB:=.auto
theorem c8 (p0:Int)(w:World)(K:Value->World->Prop)(h:C8 p0 w K):Ret Tryz.prog 8 #[.int .i64 p0] w K:=aC (by kernel_rfl) Tryz.func8 (p:=pl8) (Eq.mpr (by kernel_rfl) h)
def C17 (p0:Addr)(w:World)(K:Value->World->Prop):Prop:=
 ae .aj (p0.add 0) w (fun(x1:an)=>ab Tryz.prog 54 #[.slice x1.1 x1.2.1 x1.2.2] w (.v (.one .aj)) (fun(x2:an) w3=>K (.slice x2.1 x2.2.1 x2.2.2) w3))
def pl17:aB:=.auto
theorem c17 (p0:Addr)(w:World)(K:Value->World->Prop)(h:C17 p0 w K):Ret Tryz.prog 17 #[.pointer (some p0)] w K:=aC (by kernel_rfl) Tryz.func17 (p:=pl17) (Eq.mpr (by kernel_rfl) h)
def C86 (p0:Addr)(w:World)(K:Value->World->Prop):Prop:=
 ae .bool (p0.add 5) w (fun(x1:Bool)=>K (.bool x1) w)
def pl86:aB:=.auto
theorem c86 (p0:Addr)(w:World)(K:Value->World->Prop)(h:C86 p0 w K):Ret Tryz.prog 86 #[.pointer (some p0)] w K:=aC (by kernel_rfl) Tryz.func86 (p:=pl86) (Eq.mpr (by kernel_rfl) h)
def C146 (p0:Addr)(w:World)(K:Value->World->Prop):Prop:=
 ae .bool (p0.add 3) w (fun(x1:Bool)=>aa x1
 (ae (.int .i64) (p0.add 4) w (fun(x2:Int)=>aa (x2==0)
 (az (p0.add 5) (.bool true) w (fun w3=>K (.bool false) w3))
 (ae (.int .i64) (p0.add 4) w (fun(x4:Int)=>az (p0.add 4) (.int .i64 (IntKind.i64.wrap (x4 - 1))) w (fun w5=>K (.bool true) w5)))))
 (ae (.int .i64) (p0.add 4) w (fun(x6:Int)=>az (p0.add 4) (.int .i64 (IntKind.i64.wrap (x6 - 1))) w (fun w7=>K (.bool true) w7))))
def pl146:aB:=.auto
theorem c146 (p0:Addr)(w:World)(K:Value->World->Prop)(h:C146 p0 w K):Ret Tryz.prog 146 #[.pointer (some p0)] w K:=aC (by kernel_rfl) Tryz.func146 (p:=pl146) (Eq.mpr (by kernel_rfl) h)
def C94 (p0:Addr)(p1:Option Addr)(cw cN:Nat)(w:World)(K:Value->World->Prop):Prop:=
 ae .bool (p0.add 5) w (fun(x1:Bool)=>aa x1
 (K (.int .i64 11) w)
 (aD w (fun w2=>ae (.int .i64) (p0.add 1) w2 (fun(x3:Int)=>ae .aj (p0.add 0) w2 (fun(x4:an)=>aa (decide ((cw:Int) > (IntKind.i64.wrap (x3 - (x4.2.1:Int)))))
 (K (.int .i64 10) w2)
 (ab Tryz.prog 146 #[.pointer (some p0)] w2 (.v (.one .bool)) (fun(x5:Bool) w6=>aa (!x5)
 (K (.int .i64 11) w6)
 (ae .aj (p0.add 0) w6 (fun(x7:an)=>ab Tryz.prog 54 #[.slice x7.1 x7.2.1 x7.2.2] w6 (.v (.one .aj)) (fun(x8:an) w9=>aA Tryz.prog (Builtin.append_ #[22,22] 22 #[.slice x8.1 x8.2.1 x8.2.2,.slice p1 cw cN]) w9 (.v (.one .aj)) (fun(aQ:an) aO=>az (p0.add 0) (.slice aQ.1 aQ.2.1 aQ.2.2) aO (fun aL=>K (.int .i64 0) aL))))))))))))
def pl94:aB:=(.seq .auto (.seq (.block (.seq .auto (.cond .auto (.seq .still .auto)))) .auto))
theorem c94 (p0:Addr)(p1:Option Addr)(cw cN:Nat)(w:World)(K:Value->World->Prop)(h:C94 p0 p1 cw cN w K):Ret Tryz.prog 94 #[.pointer (some p0),.slice p1 cw cN] w K:=aC (by kernel_rfl) Tryz.func94 (p:=pl94) (Eq.mpr (by kernel_rfl) h)
def C96 (p0:Addr)(w:World)(K:Value->World->Prop):Prop:=
 ae .bool (p0.add 5) w (fun(x1:Bool)=>aa x1
 (K (.int .i64 11) w)
 (ab Tryz.prog 146 #[.pointer (some p0)] w (.v (.one .bool)) (fun(x2:Bool) w3=>aa (!x2)
 (K (.int .i64 11) w3)
 (ae .aj (p0.add 0) w3 (fun(x4:an)=>az (p0.add 2) (.int .i64 (x4.2.1:Int)) w3 (fun w5=>K (.int .i64 0) w5))))))
def pl96:aB:=.auto
theorem c96 (p0:Addr)(w:World)(K:Value->World->Prop)(h:C96 p0 w K):Ret Tryz.prog 96 #[.pointer (some p0)] w K:=aC (by kernel_rfl) Tryz.func96 (p:=pl96) (Eq.mpr (by kernel_rfl) h)
def C88 (p0:Addr)(p1:Int)(w:World)(K:Value->World->Prop):Prop:=
 ae .bool (p0.add 5) w (fun(x1:Bool)=>aa x1
 (K (.int .i64 11) w)
 (aa (decide (p1<0))
 (K (.int .i64 1) w)
 (ae .aj (p0.add 0) w (fun(x2:an)=>aa (decide (p1 > (x2.2.1:Int)))
 (K (.int .i64 1) w)
 (ab Tryz.prog 146 #[.pointer (some p0)] w (.v (.one .bool)) (fun(x3:Bool) w4=>aa (!x3)
 (K (.int .i64 11) w4)
 (ae .aj (p0.add 0) w4 (fun(x5:an)=>eX x5.1 x5.2.2 0 p1 x5.2.2 1 (fun a6 l7 c8=>ab Tryz.prog 54 #[.slice a6 l7 c8] w4 (.v (.one .aj)) (fun(x9:an) aG=>az (p0.add 0) (.slice x9.1 x9.2.1 x9.2.2) aG (fun aO=>az (p0.add 2) (.int .i64 p1) aO (fun aL=>K (.int .i64 0) aL))))))))))))
def pl88:aB:=.auto
theorem c88 (p0:Addr)(p1:Int)(w:World)(K:Value->World->Prop)(h:C88 p0 p1 w K):Ret Tryz.prog 88 #[.pointer (some p0),.int .i64 p1] w K:=aC (by kernel_rfl) Tryz.func88 (p:=pl88) (Eq.mpr (by kernel_rfl) h)
def C30 (p0:Addr)(p1:Int)(w:World)(K:Value->World->Prop):Prop:=
 az (p0.add 3) (.bool true) w (fun w1=>az (p0.add 4) (.int .i64 (if p1 > 0 then p1 else 0)) w1 (fun w2=>K (.tuple #[]) w2))
def pl30:aB:=.auto
theorem c30 (p0:Addr)(p1:Int)(w:World)(K:Value->World->Prop)(h:C30 p0 p1 w K):Ret Tryz.prog 30 #[.pointer (some p0),.int .i64 p1] w K:=aC (by kernel_rfl) Tryz.func30 (p:=pl30) (Eq.mpr (by kernel_rfl) h)
def C15 (p0:Addr)(p1:Int)(p2:Int)(w:World)(K:Value->World->Prop):Prop:=
 aD w (fun w1=>ae (.int .i64) (p0.add 2) w1 (fun(x2:Int)=>ae .aj (p0.add 0) w1 (fun(x3:an)=>ae (.int .i64) (p0.add 2) w1 (fun(x4:Int)=>ae .aj (p0.add 0) w1 (fun(x5:an)=>eX x5.1 x5.2.2 0 (IntKind.i64.wrap (x2+(if IntKind.i64.wrap ((x3.2.1:Int) - x4)<(if p1 > 0 then p1 else 0) then IntKind.i64.wrap ((x3.2.1:Int) - x4) else(if p1 > 0 then p1 else 0)))) x5.2.2 1 (fun a6 l7 c8=>ab Tryz.prog 54 #[.slice a6 l7 c8] w1 (.v (.one .aj)) (fun(x9:an) aG=>ae (.int .i64) (p0.add 2) aG (fun(aX:Int)=>aa (decide ((IntKind.i64.wrap (x2+(if IntKind.i64.wrap ((x3.2.1:Int) - x4)<(if p1 > 0 then p1 else 0) then IntKind.i64.wrap ((x3.2.1:Int) - x4) else(if p1 > 0 then p1 else 0)))) > aX))
 (bQ x9.1 x9.2.1 (IntKind.i64.wrap ((IntKind.i64.wrap (x2+(if IntKind.i64.wrap ((x3.2.1:Int) - x4)<(if p1 > 0 then p1 else 0) then IntKind.i64.wrap ((x3.2.1:Int) - x4) else(if p1 > 0 then p1 else 0)))) - 1)) 1 (fun a12=>ae (.int .u8) a12 aG (fun(bz:Int)=>bQ x9.1 x9.2.1 (IntKind.i64.wrap ((IntKind.i64.wrap (x2+(if IntKind.i64.wrap ((x3.2.1:Int) - x4)<(if p1 > 0 then p1 else 0) then IntKind.i64.wrap ((x3.2.1:Int) - x4) else(if p1 > 0 then p1 else 0)))) - 1)) 1 (fun yV=>az yV (.int .u8 (IntKind.u8.wrap ((BitVec.ofInt 8 bz ^^^ BitVec.ofInt 8 p2).toNat:Int))) aG (fun bM=>az (p0.add 0) (.slice x9.1 x9.2.1 x9.2.2) bM (fun bj=>az (p0.add 2) (.int .i64 (IntKind.i64.wrap (x2+(if IntKind.i64.wrap ((x3.2.1:Int) - x4)<(if p1 > 0 then p1 else 0) then IntKind.i64.wrap ((x3.2.1:Int) - x4) else(if p1 > 0 then p1 else 0))))) bj (fun cj=>az (p0.add 5) (.bool false) cj (fun bt=>az (p0.add 3) (.bool false) bt (fun bu=>az (p0.add 4) (.int .i64 0) bu (fun bh=>K (.tuple #[]) bh))))))))))
 (az (p0.add 0) (.slice x9.1 x9.2.1 x9.2.2) aG (fun bw=>az (p0.add 2) (.int .i64 (IntKind.i64.wrap (x2+(if IntKind.i64.wrap ((x3.2.1:Int) - x4)<(if p1 > 0 then p1 else 0) then IntKind.i64.wrap ((x3.2.1:Int) - x4) else(if p1 > 0 then p1 else 0))))) bw (fun bJ=>az (p0.add 5) (.bool false) bJ (fun cL=>az (p0.add 3) (.bool false) cL (fun cg=>az (p0.add 4) (.int .i64 0) cg (fun di=>K (.tuple #[]) di))))))))))))))
def pl15:aB:=(.seq .still .auto)
theorem c15 (p0:Addr)(p1:Int)(p2:Int)(w:World)(K:Value->World->Prop)(h:C15 p0 p1 p2 w K):Ret Tryz.prog 15 #[.pointer (some p0),.int .i64 p1,.int .u8 p2] w K:=aC (by kernel_rfl) Tryz.func15 (p:=pl15) (Eq.mpr (by kernel_rfl) h)
def C54 (p0:Option Addr)(aJ aP:Nat)(w:World)(K:Value->World->Prop):Prop:=
 aa (Option.isNone p0)
 (K (.slice none 0 0) w)
 (aA Tryz.prog (Instr.buildSlice 22 0 #[]) w (.v (.one .aj)) (fun(x1:an) w2=>aA Tryz.prog (Builtin.append_ #[22,22] 22 #[.slice x1.1 x1.2.1 x1.2.2,.slice p0 aJ aP]) w2 (.v (.one .aj)) (fun(x3:an) w4=>K (.slice x3.1 x3.2.1 x3.2.2) w4)))
def pl54:aB:=.auto
theorem c54 (p0:Option Addr)(aJ aP:Nat)(w:World)(K:Value->World->Prop)(h:C54 p0 aJ aP w K):Ret Tryz.prog 54 #[.slice p0 aJ aP] w K:=aC (by kernel_rfl) Tryz.func54 (p:=pl54) (Eq.mpr (by kernel_rfl) h)
theorem An {w:World}{v:Sl}{bs:List UInt8}(h:bd w v bs)(hl:bs.length<=100000000):
  Ret Tryz.prog 54 #[.slice v.1 v.2.1 v.2.2] w fun r w'=>∃ u:Sl,r=.slice u.1 u.2.1 u.2.2/\cd w' u bs/\Fr none1 w w'/\∀ k,aw u k->w.heap.size<=k:=by
 refine c54 v.1 v.2.1 v.2.2 w _ ?_;refine aa.by (fun hn=>?_) (fun hn=>?_)
 ·obtain⟨_,_,he⟩:=h.2.1 (by simpa using hn)
  exact⟨(none,0,0),rfl,.inl ⟨rfl,he⟩,Fr.refl _ _,fun k ⟨a,ha,_⟩=>(by cases ha)⟩
 ·obtain⟨x,w1,hr,hx,kW,f1,hf⟩:=rN (P:=Tryz.prog) (w:=w) mZ [] (by simp) (by simp)
  refine⟨x,w1,hr,?_⟩;have cO:=h.len;obtain⟨u,w2,gq,hu,f2,pN⟩:=rO (xs:=[]) hx (h.af f1) (by simp;omega);refine⟨u,w2,gq,u,rfl,hu,f1.comp f2 (fun k hk t=>?_),fun k hk=>?_⟩
  ·have:=hf k t;omega
  ·rcases pN k hk with t | t
   ·exact hf k t
   ·exact Nat.le_trans f1.size t
structure bI where
 b:List UInt8
 cr:Int
 synced:Int
 lit:Bool
 iT:Int
 dead:Bool
structure bI.Ok (s:bI):Prop where
 len:s.b.length<=65536
 q0:0<=s.cr
 q1:s.cr<=65536
 s0:0<=s.synced
 s1:s.synced<=s.b.length
structure gN (w:World)(b g:Nat)(s:bI):Prop where
 out:∃ sl:Sl,w.heap[b]? = some (.cells #[.slice sl.1 sl.2.1 sl.2.2,.int .i64 s.cr,.int .i64 s.synced,.bool s.lit,.int .i64 s.iT,.bool s.dead] 96 (0,0))/\cd w sl s.b/\∀ k,aw sl k->k=g/\k≠b
 qq:g<w.heap.size
 ok:s.Ok
theorem gN.ag {w w':World}{b g:Nat}{s:bI}(h:gN w b g s){S:Nat->Prop}(f:Fr S w w')(h1:¬ S b)(h2:¬ S g):gN w' b g s:=by
 obtain⟨⟨sl,hb,hs,hg⟩,gl,ok⟩:=h;exact⟨⟨sl,f.ag hb h1,hs.ag f (fun k hk=>by rw[(hg k hk).1];exact h2),hg⟩,Nat.lt_of_lt_of_le gl f.size,ok⟩
theorem gN.af {w w':World}{b g:Nat}{s:bI}(h:gN w b g s)(f:Fr none1 w w'):gN w' b g s:=h.ag f (fun t=>t) (fun t=>t)
theorem gN.lt {w:World}{b g:Nat}{s:bI}(h:gN w b g s):b<w.heap.size:=by
 obtain⟨⟨sl,hb,_⟩,_⟩:=h;exact bL hb
def jW (w:World)(b g:Nat)(s':bI)(w':World):Prop:=Fr (only b) w w'/\∃ g',(g'=b\/g'=g\/w.heap.size<=g')/\gN w' b g' s'
theorem jW.pre {w0 w w':World}{b g:Nat}{s':bI}(f:Fr none1 w0 w)(h:jW w b g s' w'):jW w0 b g s' w':=by
 obtain⟨a,g',h1,h2⟩:=h;refine⟨f.eL a,g',?_,h2⟩
 rcases h1 with h | h | h
 ·exact .inl h
 ·exact .inr (.inl h)
 ·exact .inr (.inr (Nat.le_trans f.size h))
theorem jW.same {w w':World}{b g:Nat}{s:bI}(h:gN w b g s)(f:Fr none1 w w'):jW w b g s w':=⟨f.mono fun _ _ t=>t.elim,g,.inr (.inl rfl),h.af f⟩
theorem HI {w':World}{b n:Nat}{y:Sl}{bs:List UInt8}(aU:b<w'.heap.size)(uJ:cd w' y bs)(hy:∀ k,aw y k->n<=k/\k≠b):∃ g',(g'=b\/n<=g')/\g'<w'.heap.size/\∀ k,aw y k->k=g'/\k≠b:=by
 cases CU:y.1 with
 | none=>exact⟨b,.inl rfl,aU,fun k ⟨a,ha,_⟩=>(by rw[CU] at ha;cases ha)⟩
 | some a=>
  have hk:aw y a.block:=⟨a,CU,rfl⟩;refine⟨a.block,.inr (hy _ hk).1,aF.lt uJ hk,fun k hk=>⟨?_,(hy k hk).2⟩⟩;obtain⟨a',ha,rfl⟩:=hk;rw[CU] at ha;injection ha with ha;rw[ha]
def rj (q:Int):bI:={ b:=[],cr:=if 65536<(if 0 > q then 0 else q) then 65536 else(if 0 > q then 0 else q),synced:=0,lit:=false,iT:=0,dead:=false }
theorem NS (q:Int):(rj q).Ok:=by
 unfold rj;refine⟨by simp,?_,?_,by simp,by simp⟩<;>dsimp only<;>repeat' split
 all_goals omega
theorem NT (q:Int)(w:World):Ret Tryz.prog 8 #[.int .i64 q] w fun r w'=>∃ b,r=.pointer (some ⟨b,0,none⟩)/\w.heap.size<=b/\Fr none1 w w'/\gN w' b b (rj q):=by
 refine c8 q w _ (ak.of fun b w1 hg hb f hs=>⟨b,rfl,by omega,f,⟨⟨(none,0,0),hb,.inl ⟨rfl,rfl⟩,fun k ⟨a,ha,_⟩=>(by cases ha)⟩,by omega,NS q⟩⟩)
theorem NU {w:World}{b g:Nat}{s:bI}(h:gN w b g s):Ret Tryz.prog 86 #[.pointer (some ⟨b,0,none⟩)] w fun r w'=>r=.bool s.dead/\w=w':=by
 obtain⟨⟨sl,hb,_⟩,_⟩:=h;exact c86 _ w _ (ae.ah hb rfl ⟨rfl,rfl⟩)
theorem WY {w:World}{b g:Nat}{s:bI}(h:gN w b g s):Ret Tryz.prog 17 #[.pointer (some ⟨b,0,none⟩)] w fun r w'=>
  ∃ u:Sl,r=.slice u.1 u.2.1 u.2.2/\cd w' u s.b/\Fr none1 w w'/\∀ k,aw u k->w.heap.size<=k:=by
 obtain⟨⟨sl,hb,hs,_⟩,_,ok⟩:=h;refine c17 _ w _ ?_;refine ae.ah hb (x:=sl) rfl ?_;refine ab.of (An hs.rd (by have:=ok.len;omega)) ?_;rintro _ w' ⟨u,rfl,hu,f,hf⟩;exact⟨u,rfl,u,rfl,hu,f,hf⟩
def cW (s:bI):bI×Bool:=if s.lit&&s.iT==0 then({ s with dead:=true },false) else({ s with iT:=IntKind.i64.wrap (s.iT - 1) },true)
theorem WZ {s:bI}(h:s.Ok):(cW s).1.Ok:=by
 unfold cW;split<;>exact⟨h.len,h.q0,h.q1,h.s0,h.s1⟩
theorem pw (s:bI):(cW s).1.b=s.b/\(cW s).1.cr=s.cr/\(cW s).1.synced=s.synced:=by
 unfold cW;split<;>exact⟨rfl,rfl,rfl⟩
theorem HJ {w:World}{b g:Nat}{s:bI}(h:gN w b g s):Ret Tryz.prog 146 #[.pointer (some ⟨b,0,none⟩)] w fun r w'=>r=.bool (cW s).2/\Fr (only b) w w'/\gN w' b g (cW s).1:=by
 obtain⟨⟨sl,hb,hs,hg⟩,gl,ok⟩:=h;have CV:=WZ ok;refine c146 _ w _ ?_;unfold cW at *;refine ae.ah hb rfl ?_;have ag:∀ w',Fr (only b) w w'->cd w' sl s.b:=fun w' f=>hs.ag f (fun k hk t=>(hg k hk).2 t);have run:(s.lit&&s.iT==0)=false->ae (.int .i64) ((⟨b,0,none⟩:Addr).add 4) w (fun(x4:Int)=>az ((⟨b,0,none⟩:Addr).add 4) (.int .i64 (IntKind.i64.wrap (x4 - 1))) w (fun w5=>
   (.bool true:Value)=.bool (if s.lit&&s.iT==0 then({ s with dead:=true },false) else({ s with iT:=IntKind.i64.wrap (s.iT - 1) },true)).2/\Fr (only b) w w5/\gN w5 b g (if s.lit&&s.iT==0 then({ s with dead:=true },false) else({ s with iT:=IntKind.i64.wrap (s.iT - 1) },true)).1)):=fun hc=>by
  rw[hc] at CV ⊢;refine ae.ah hb rfl ?_;refine az.ah hb (by simp) rfl fun w1 au f1 _=>?_;exact⟨rfl,f1,⟨sl,au,ag w1 f1,hg⟩,Nat.lt_of_lt_of_le gl f1.size,CV⟩
 refine aa.by (fun hl=>?_) (fun hl=>run (by rw[hl];rfl));refine ae.ah hb rfl ?_;refine aa.eq (fun hf=>?_) (fun hf=>run (by rw[hl];simpa using hf));have hc:(s.lit&&s.iT==0)=true:=by rw[hl,hf];rfl
 rw[hc] at CV ⊢;refine az.ah hb (by simp) rfl fun w1 au f1 _=>?_;exact⟨rfl,f1,⟨sl,au,ag w1 f1,hg⟩,Nat.lt_of_lt_of_le gl f1.size,CV⟩
def eU (s:bI)(x:List UInt8):bI×Int:=
 if s.dead then(s,11) else if(x.length:Int) > s.cr - s.b.length then(s,10) else
 if(cW s).2 then({ (cW s).1 with b:=s.b++x },0) else((cW s).1,11)
theorem W4 {w:World}{b g:Nat}{s:bI}{v:Sl}{x:List UInt8}(h:gN w b g s)(hv:bd w v x)(sr:¬ aw v b):Ret Tryz.prog 94 #[.pointer (some ⟨b,0,none⟩),.slice v.1 v.2.1 v.2.2] w fun r w'=>
  r=.int .i64 (eU s x).2/\jW w b g (eU s x).1 w':=by
 have h0:=h;obtain⟨⟨sl,hb,hs,hg⟩,gl,ok⟩:=h;obtain⟨k1,k2,k3,k4,k5⟩:=ok;have jh:=hs.len;have cO:=hv.len;refine c94 _ v.1 v.2.1 v.2.2 w _ ?_;unfold eU;refine ae.ah hb rfl ?_;refine aa.by (fun hd=>?_) (fun hd=>?_)
 ·rw[if_pos hd];exact⟨rfl,jW.same h0 (Fr.refl _ _)⟩
 rw[if_neg (by simp[hd])];refine aD.of fun w1 tb f1=>?_;have au:=f1.af hb;refine ae.ah au rfl ?_;refine ae.ah au (x:=sl) rfl ?_;rw[jh,wI (x:=s.cr - (s.b.length:Int)) (by omega) (by omega)];have fx:Fr (only b) w w1:=f1.mono fun _ _ t=>t.elim;refine aa.dec (fun hq=>?_) (fun hq=>?_)
 ·rw[if_pos (by rw[<- cO];exact hq)];exact⟨rfl,jW.same h0 f1⟩
 rw[if_neg (by rw[<- cO];exact hq)];refine ab.of (HJ (h0.af f1)) ?_;rintro _ w2 ⟨rfl,f2,h2⟩;refine⟨_,rfl,?_⟩;refine aa.by (fun dD=>?_) (fun dD=>?_)
 ·have qt:(cW s).2=false:=by simpa using dD
  rw[qt];exact⟨rfl,fx.trans f2,g,.inr (.inl rfl),h2⟩
 ·have qt:(cW s).2=true:=by simpa using dD
  rw[qt,if_pos rfl];obtain⟨⟨tQ,aI,gw,mF⟩,CW,Ao⟩:=h2;obtain⟨e1,e2,e3⟩:=pw s;refine ae.ah aI (x:=tQ) rfl ?_;refine ab.of (An gw.rd (by rw[e1];omega)) ?_;rintro _ w3 ⟨u,rfl,hu,f3,mL⟩;refine⟨u,rfl,?_⟩;have dk:=hu.len;rw[e1] at dk hu;have qR:bd w3 v x:=((hv.af f1).ag f2 (fun k hk t=>sr (by have:k=b:=t;rw[<- this];exact hk))).af f3;obtain⟨y,w4,hr,hy,f4,W5⟩:=rO hu qR (by omega);refine⟨y,w4,hr,?_⟩;have W6:w.heap.size<=w2.heap.size:=(fx.trans f2).size;have lA:=bL hb;have dy:=f4.ag (f3.af aI) (fun t=>by have:=mL b t;omega);refine az.ah dy (by simp) rfl fun w5 cY f5 _=>?_;have CX:∀ k,aw y k->w2.heap.size<=k:=fun k hk=>by
   rcases W5 k hk with t | t
   ·exact mL k t
   ·exact Nat.le_trans f3.size t
  have fr:Fr (only b) w w5:=(((fx.trans f2).dq f3).comp f4 (fun k hk t=>by have:=mL k t;omega)).trans f5;have NV:cd w5 y (s.b++x):=hy.ag f5 (fun k hk t=>by have:=CX k hk;have:k=b:=t;omega);obtain⟨gy,Ap,l0,Aq⟩:=HI (b:=b) (n:=w.heap.size) (bL cY) NV (fun k hk=>by have:=CX k hk;omega);refine⟨rfl,fr,gy,Ap.imp id .inr,⟨y,cY,NV,Aq⟩,l0,?_⟩;refine⟨?_,?_,?_,?_,?_⟩<;>dsimp only
  ·simp only[List.length_append];omega
  ·rw[e2];exact k2
  ·rw[e2];exact k3
  ·rw[e3];exact k4
  ·rw[e3];simp only[List.length_append];omega
def iq (s:bI):bI×Int:=if s.dead then(s,11) else if(cW s).2 then({ (cW s).1 with synced:=s.b.length },0) else((cW s).1,11)
theorem W7 {w:World}{b g:Nat}{s:bI}(h:gN w b g s):Ret Tryz.prog 96 #[.pointer (some ⟨b,0,none⟩)] w fun r w'=>r=.int .i64 (iq s).2/\jW w b g (iq s).1 w':=by
 have h0:=h;obtain⟨⟨sl,hb,hs,hg⟩,gl,ok⟩:=h;refine c96 _ w _ ?_;unfold iq;refine ae.ah hb rfl ?_;refine aa.by (fun hd=>?_) (fun hd=>?_)
 ·rw[if_pos hd];exact⟨rfl,jW.same h0 (Fr.refl _ _)⟩
 rw[if_neg (by simp[hd])];refine ab.of (HJ h0) ?_;rintro _ w2 ⟨rfl,f2,h2⟩;refine⟨_,rfl,?_⟩;refine aa.by (fun dD=>?_) (fun dD=>?_)
 ·have qt:(cW s).2=false:=by simpa using dD
  rw[qt];exact⟨rfl,f2,g,.inr (.inl rfl),h2⟩
 ·have qt:(cW s).2=true:=by simpa using dD
  rw[qt,if_pos rfl];obtain⟨⟨tQ,aI,gw,mF⟩,CW,Ao⟩:=h2;obtain⟨e1,e2,e3⟩:=pw s;refine ae.ah aI (x:=tQ) rfl ?_;rw[gw.len,e1];refine az.ah aI (by simp) rfl fun w5 cY f5 _=>?_;refine⟨rfl,f2.trans f5,g,.inr (.inl rfl),⟨tQ,cY,gw.ag f5 (fun k hk t=>(mF k hk).2 t),mF⟩,Nat.lt_of_lt_of_le CW f5.size,?_⟩;obtain⟨k1,k2,k3,k4,k5⟩:=Ao;refine⟨k1,k2,k3,?_,?_⟩<;>dsimp only
  ·omega
  ·rw[e1];omega
def lJ (s:bI)(n:Int):bI×Int:=if s.dead then(s,11) else if n<0 then(s,1) else if n > s.b.length then(s,1) else
 if(cW s).2 then({ (cW s).1 with b:=s.b.take n.toNat,synced:=n },0) else((cW s).1,11)
theorem W8 {w:World}{b g:Nat}{s:bI}(h:gN w b g s)(n:Int):Ret Tryz.prog 88 #[.pointer (some ⟨b,0,none⟩),.int .i64 n] w fun r w'=>r=.int .i64 (lJ s n).2/\jW w b g (lJ s n).1 w':=by
 have h0:=h;obtain⟨⟨sl,hb,hs,hg⟩,gl,ok⟩:=h;refine c88 _ n w _ ?_;unfold lJ;refine ae.ah hb rfl ?_;refine aa.by (fun hd=>?_) (fun hd=>?_)
 ·rw[if_pos hd];exact⟨rfl,jW.same h0 (Fr.refl _ _)⟩
 rw[if_neg (by simp[hd])];refine aa.dec (fun hq=>?_) (fun hq=>?_)
 ·rw[if_pos hq];exact⟨rfl,jW.same h0 (Fr.refl _ _)⟩
 rw[if_neg hq];refine ae.ah hb (x:=sl) rfl ?_;rw[hs.len];refine aa.dec (fun oS=>?_) (fun oS=>?_)
 ·rw[if_pos oS];exact⟨rfl,jW.same h0 (Fr.refl _ _)⟩
 rw[if_neg oS];refine ab.of (HJ h0) ?_;rintro _ w2 ⟨rfl,f2,h2⟩;refine⟨_,rfl,?_⟩;refine aa.by (fun dD=>?_) (fun dD=>?_)
 ·have qt:(cW s).2=false:=by simpa using dD
  rw[qt];exact⟨rfl,f2,g,.inr (.inl rfl),h2⟩
 ·have qt:(cW s).2=true:=by simpa using dD
  rw[qt,if_pos rfl];obtain⟨⟨tQ,aI,gw,mF⟩,CW,Ao⟩:=h2;obtain⟨e1,e2,e3⟩:=pw s;refine ae.ah aI (x:=tQ) rfl ?_;have qO:=gw.len;rw[e1] at qO;refine bd.sub gw.rd (by omega) (by omega) gw.cap fun hu=>?_;rw[e1] at hu;have kk:=Ao.len;rw[e1] at kk;refine ab.of (An (v:=(tQ.1,n.toNat,tQ.2.2)) hu (by simp only[List.length_take];omega)) ?_;rintro _ w3 ⟨u,rfl,hu,f3,mL⟩;refine⟨u,rfl,?_⟩;refine az.ah (f3.af aI) (by simp) rfl fun w5 cY f5 _=>?_;refine az.ah cY (by simp) rfl fun w6 fq f6 _=>?_;have lA:=bL aI;have NW:cd w6 u (s.b.take n.toNat):=(hu.ag f5 (fun k hk t=>by have:=mL k hk;have:k=b:=t;omega)).ag f6 (fun k hk t=>by have:=mL k hk;have:k=b:=t;omega);have W9:Fr (only b) w2 w6:=(f3.eL f5).trans f6;obtain⟨gy,Ap,l0,Aq⟩:=HI (b:=b) (n:=w2.heap.size) (bL fq) NW (fun k hk=>by have:=mL k hk;omega);refine⟨rfl,f2.trans W9,gy,Ap.imp id (fun t=>.inr (Nat.le_trans f2.size t)),⟨u,fq,NW,Aq⟩,l0,?_⟩;obtain⟨k1,k2,k3,k4,k5⟩:=Ao;refine⟨?_,k2,k3,by dsimp only;omega,?_⟩<;>dsimp only<;>simp only[List.length_take]<;>omega
def HK (s:bI)(n:Int):bI:={ s with lit:=true,iT:=if n > 0 then n else 0 }
theorem Xa {w:World}{b g:Nat}{s:bI}(h:gN w b g s)(n:Int):Ret Tryz.prog 30 #[.pointer (some ⟨b,0,none⟩),.int .i64 n] w fun r w'=>r=.tuple #[]/\jW w b g (HK s n) w':=by
 obtain⟨⟨sl,hb,hs,hg⟩,gl,ok⟩:=h;refine c30 _ n w _ ?_;refine az.ah hb (by simp) rfl fun w1 au f1 _=>?_;refine az.ah au (by simp) rfl fun w2 aI f2 _=>?_;exact⟨rfl,f1.trans f2,g,.inr (.inl rfl),⟨sl,aI,hs.ag (f1.trans f2) (fun k hk t=>(hg k hk).2 t),hg⟩,Nat.lt_of_lt_of_le gl (f1.trans f2).size,ok.len,ok.q0,ok.q1,ok.s0,ok.s1⟩
def sF (x:UInt8)(p:Int):UInt8:=UInt8.ofNat (BitVec.ofInt 8 (x.toNat:Int) ^^^ BitVec.ofInt 8 p).toNat
theorem NX (x:UInt8)(p:Int):Value.int .u8 (IntKind.u8.wrap ((BitVec.ofInt 8 (x.toNat:Int) ^^^ BitVec.ofInt 8 p).toNat:Int))=bc (sF x p):=by
 have h:=(BitVec.ofInt 8 (x.toNat:Int) ^^^ BitVec.ofInt 8 p).isLt;rw[wB (by omega) (by omega)];unfold bc sF;rw[UInt8.toNat_ofNat',Nat.mod_eq_of_lt h]
def jn (s:bI)(ag:Int):Int:=s.synced+(if(s.b.length:Int) - s.synced<(if ag > 0 then ag else 0) then(s.b.length:Int) - s.synced else(if ag > 0 then ag else 0))
def tR (s:bI)(k p:Int):List UInt8:=if k > s.synced then(s.b.take k.toNat).set (k - 1).toNat (sF (s.b.getD (k - 1).toNat 0) p) else s.b.take k.toNat
def mM (s:bI)(ag p:Int):bI:={ s with b:=tR s (jn s ag) p,synced:=jn s ag,dead:=false,lit:=false,iT:=0 }
theorem Xb {w:World}{b g:Nat}{s:bI}(h:gN w b g s)(n p:Int):Ret Tryz.prog 15 #[.pointer (some ⟨b,0,none⟩),.int .i64 n,.int .u8 p] w fun r w'=>r=.tuple #[]/\jW w b g (mM s n p) w':=by
 have h0:=h;obtain⟨⟨sl,hb,hs,hg⟩,gl,ok⟩:=h;obtain⟨k1,k2,k3,k4,k5⟩:=ok;have jh:=hs.len;refine c15 _ n p w _ ?_;unfold C15 mM;refine aD.of fun w1 tb f1=>?_;have au:=f1.af hb;refine ae.ah au rfl ?_;refine ae.ah au (x:=sl) rfl ?_;refine ae.ah au rfl ?_;refine ae.ah au (x:=sl) rfl ?_;dsimp only;have jv:s.synced<=jn s n:=by unfold jn;(repeat' split);all_goals omega
 have q7:jn s n<=s.b.length:=by unfold jn;(repeat' split);all_goals omega
 have ek:IntKind.i64.wrap (s.synced+(if IntKind.i64.wrap ((sl.2.1:Int) - s.synced)<(if n > 0 then n else 0) then IntKind.i64.wrap ((sl.2.1:Int) - s.synced) else(if n > 0 then n else 0)))=jn s n:=by
  rw[jh,wI (x:=(s.b.length:Int) - s.synced) (by omega) (by omega)];exact wI (x:=jn s n) (by omega) (by omega)
 rw[ek];generalize jn s n=k at *;refine bd.sub (hs.rd.af f1) (by omega) (by omega) hs.cap fun hu=>?_;refine ab.of (An (v:=(sl.1,k.toNat,sl.2.2)) hu (by simp only[List.length_take];omega)) ?_;rintro _ w3 ⟨u,rfl,hu,f3,mL⟩;refine⟨u,rfl,?_⟩;have aR:=f3.af au;have lA:=bL au;have dk:=hu.len;rw[List.length_take] at dk;refine ae.ah aR rfl ?_;have fin:∀ (K:World->Prop) (w5:World) (bs:List UInt8),bs.length=k.toNat->Fr (aw u) w3 w5->cd w5 u bs->(∀ w',jW w b g { s with b:=bs,synced:=k,dead:=false,lit:=false,iT:=0 } w'->K w')->az ((⟨b,0,none⟩:Addr).add 0) (.slice u.1 u.2.1 u.2.2) w5 (fun bw=>az ((⟨b,0,none⟩:Addr).add 2) (.int .i64 k) bw (fun bJ=>az ((⟨b,0,none⟩:Addr).add 5) (.bool false) bJ (fun cL=>az ((⟨b,0,none⟩:Addr).add 3) (.bool false) cL (fun cg=>az ((⟨b,0,none⟩:Addr).add 4) (.int .i64 0) cg K)))):=fun K w5 bs Xc f5 nr hK=>by
  have mH:¬ aw u b:=fun t=>by have:=mL b t;omega
  refine az.ah (f5.ag aR mH) (by simp) rfl fun w6 fq f6 _=>?_;refine az.ah fq (by simp) rfl fun w7 gC f7 _=>?_;refine az.ah gC (by simp) rfl fun w8 jB f8 _=>?_;refine az.ah jB (by simp) rfl fun w9 lG f9 _=>?_;refine az.ah lG (by simp) rfl fun aG lK f10 _=>?_;have ft:Fr (only b) w5 aG:=(((f6.trans f7).trans f8).trans f9).trans f10;have hy:cd aG u bs:=nr.ag ft (fun k hk t=>mH (by have:k=b:=t;rw[<- this];exact hk));have fr:Fr (only b) w aG:=((f1.trans f3).comp f5 (fun x hx t=>by have:=mL x t;have:=f1.size;omega)).eL ft;obtain⟨gy,Ap,l0,Aq⟩:=HI (b:=b) (n:=w.heap.size) (bL lK) hy (fun k hk=>⟨Nat.le_trans f1.size (mL k hk),fun t=>mH (t ▸ hk)⟩);refine hK _ ⟨fr,gy,Ap.imp id .inr,⟨u,lK,hy,Aq⟩,l0,?_⟩;refine⟨?_,k2,k3,?_,?_⟩<;>dsimp only<;>omega
 unfold tR;refine aa.dec (fun hq=>?_) (fun hq=>?_)
 ·rw[if_pos hq,wI (x:=k - 1) (by omega) (by omega)]
  have hx:(s.b.take k.toNat)[(k - 1).toNat]? = some (s.b.getD (k - 1).toNat 0):=by
   rw[List.getElem?_take_of_lt (by omega),List.getD_eq_getElem?_getD,List.getElem?_eq_getElem (by omega)];rfl
  refine aF.ld hu (by omega) (by omega) (x:=((s.b.getD (k - 1).toNat 0).toNat:Int)) (by rw[List.getElem?_map,hx];rfl) ?_;rw[NX];refine aF.st hu (by omega) (by omega) rfl fun w5 nr f5 _=>?_;refine fin _ w5 ((s.b.take k.toNat).set (k - 1).toNat (sF (s.b.getD (k - 1).toNat 0) p)) (by simp;omega) f5 (by unfold cd;rw[List.map_set];exact nr) fun w' xM=>⟨rfl,xM⟩
 ·rw[if_neg hq]
  exact fin _ w3 (s.b.take k.toNat) (by simp;omega) (Fr.refl _ _) hu fun w' xM=>⟨rfl,xM⟩
def C41  (w:World) (K:Value->World->Prop):Prop:=
 ak (.cells #[.int .i64 (-1),.int .i64 (-1),.int .u64 0] 187) w (fun g1 w2=>K (.pointer (some (ad g1))) w2)
def pl41:aB:=.auto
theorem c41  (w:World) (K:Value->World->Prop) (h:C41  w K):Ret Tryz.prog 41 #[] w K:=aC (by kernel_rfl) Tryz.func41 (p:=pl41) (Eq.mpr (by kernel_rfl) h)
def C55 (p0:Addr)(p1:Int)(p2:Int)(w:World)(K:Value->World->Prop):Prop:=
 aa (decide (p1<0))
 (K (.bool false) w)
 (aa (decide (p2<0))
 (K (.bool false) w)
 (ae (.int .i64) (p0.add 0) w (fun(x1:Int)=>aa (decide (p1<x1))
 (K (.bool false) w)
 (ae (.int .i64) (p0.add 0) w (fun(x2:Int)=>aa (decide (p1 > x2))
 (az (p0.add 0) (.int .i64 p1) w (fun w3=>az (p0.add 1) (.int .i64 p2) w3 (fun w4=>az (p0.add 2) (.int .u64 1) w4 (fun w5=>K (.bool true) w5))))
 (ae (.int .i64) (p0.add 1) w (fun(x6:Int)=>aa (decide (p2 > x6))
 (ae (.int .i64) (p0.add 1) w (fun(x7:Int)=>az (p0.add 1) (.int .i64 p2) w (fun w8=>aa (decide ((IntKind.i64.wrap (p2 - x7)) >= 64))
 (az (p0.add 2) (.int .u64 0) w8 (fun w9=>ae (.int .u64) (p0.add 2) w9 (fun(aQ:Int)=>jJ (if 63<IntKind.i64.wrap (p2 - x7) then 63 else IntKind.i64.wrap (p2 - x7)) (az (p0.add 2) (.int .u64 (IntKind.u64.wrap ((BitVec.ofInt 64 (IntKind.u64.wrap (aQ * 2 ^ (min (Int.toNat (if 63<IntKind.i64.wrap (p2 - x7) then 63 else IntKind.i64.wrap (p2 - x7))) 64))) ||| BitVec.ofInt 64 1).toNat:Int))) w9 (fun aO=>K (.bool true) aO)))))
 (ae (.int .u64) (p0.add 2) w8 (fun(bx:Int)=>jJ (if 63<IntKind.i64.wrap (p2 - x7) then 63 else IntKind.i64.wrap (p2 - x7)) (az (p0.add 2) (.int .u64 (IntKind.u64.wrap ((BitVec.ofInt 64 (IntKind.u64.wrap (bx * 2 ^ (min (Int.toNat (if 63<IntKind.i64.wrap (p2 - x7) then 63 else IntKind.i64.wrap (p2 - x7))) 64))) ||| BitVec.ofInt 64 1).toNat:Int))) w8 (fun aY=>K (.bool true) aY)))))))
 (ae (.int .i64) (p0.add 1) w (fun(bg:Int)=>aa (decide ((IntKind.i64.wrap (bg - p2)) >= 64))
 (K (.bool false) w)
 (ae (.int .u64) (p0.add 2) w (fun(bn:Int)=>jJ (IntKind.i64.wrap (bg - p2)) (aa ((IntKind.u64.wrap ((BitVec.ofInt 64 (Int.fdiv bn (2 ^ (min (Int.toNat (IntKind.i64.wrap (bg - p2))) 64))) &&& BitVec.ofInt 64 1).toNat:Int))==1)
 (K (.bool false) w)
 (aD w (fun bj=>ae (.int .u64) (p0.add 2) bj (fun(ba:Int)=>jJ (IntKind.i64.wrap (bg - p2)) (az (p0.add 2) (.int .u64 (IntKind.u64.wrap ((BitVec.ofInt 64 ba ||| BitVec.ofInt 64 (IntKind.u64.wrap (1 * 2 ^ (min (Int.toNat (IntKind.i64.wrap (bg - p2))) 64)))).toNat:Int))) bj (fun bt=>K (.bool true) bt)))))))))))))))))
def pl55:aB:=(.seq .auto (.seq .auto (.seq .auto (.seq .auto (.seq (.tail 10) .auto)))))
theorem c55 (p0:Addr)(p1:Int)(p2:Int)(w:World)(K:Value->World->Prop)(h:C55 p0 p1 p2 w K):Ret Tryz.prog 55 #[.pointer (some p0),.int .i64 p1,.int .i64 p2] w K:=aC (by kernel_rfl) Tryz.func55 (p:=pl55) (Eq.mpr (by kernel_rfl) h)
def oC (w:World)(b:Nat)(e h:Int)(S:Int->Bool):Prop:=
 ∃ x:Nat,w.heap[b]? = some (.cells #[.int .i64 e,.int .i64 h,.int .u64 (x:Int)] 187 (0,0))/\x<2 ^ 64 /\
  -1<=e/\-1<=h/\(0<=e->0<=h)/\e<=9223372036854775807/\h<=9223372036854775807/\(∀ i:Nat,i<64->x.testBit i=S (h - i))/\∀ m,h<m->S m=false
theorem oC.ag {w w':World}{b:Nat}{e h:Int}{S:Int->Bool}(hw:oC w b e h S){T:Nat->Prop}(f:Fr T w w')(hn:¬ T b):oC w' b e h S:=by
 obtain⟨x,hb,r⟩:=hw;exact⟨x,f.ag hb hn,r⟩
theorem oC.lt {w:World}{b:Nat}{e h:Int}{S:Int->Bool}(hw:oC w b e h S):b<w.heap.size:=by
 obtain⟨x,hb,r⟩:=hw;exact bL hb
theorem oC.ne {w:World}{b:Nat}{e h:Int}{S:Int->Bool}(hw:oC w b e h S){c:Nat}{o:Obj}(hc:w.heap[c]? = some o)(ho:∀ cs fr,o≠.cells cs 187 fr):b≠c:=by
 obtain⟨x,hb,r⟩:=hw;intro e;subst e;rw[hb] at hc;exact ho _ _ (Option.some.inj hc).symm
theorem Xd (w:World):Ret Tryz.prog 41 #[] w fun r w'=>∃ b,w.heap.size<=b/\r=.pointer (some ⟨b,0,none⟩)/\Fr none1 w w'/\oC w' b (-1) (-1) (fun _=>false):=by
 refine c41 w _ (ak.of fun g w1 hg hb hf hs=>⟨g,by omega,rfl,hf,0,hb,by decide,by omega,by omega,by omega,by omega,by omega,fun i _=>by simp,fun _ _=>rfl⟩)
def jF (e h:Int)(S:Int->Bool)(ep n:Int):Bool:=
 if ep<0\/n<0\/ep<e then false else if e<ep then true else decide (h - 64<n)&&!S n
def tS (e ep:Int)(r:Bool):Int:=if r then(if e<ep then ep else e) else e
def rk (e h ep n:Int)(r:Bool):Int:=if r then(if e<ep then n else if h<n then n else h) else h
def tT (e ep n:Int)(S:Int->Bool)(r:Bool):Int->Bool:=fun m=>if r then(if e<ep then m==n else S m||m==n) else S m
theorem Xe {e ep:Int}(hl:e<ep):tS e ep true=ep:=by simp[tS,hl]
theorem Xf {e h ep n:Int}(hl:e<ep):rk e h ep n true=n:=by simp[rk,hl]
theorem Xg {e ep n:Int}{S:Int->Bool}(hl:e<ep):tT e ep n S true=fun m=>m==n:=by funext m;simp[tT,hl]
theorem NY (e:Int):tS e e true=e:=by simp[tS]
theorem Xh {e h n:Int}(hl:h<n):rk e h e n true=n:=by simp[rk,hl]
theorem Xi {e h n:Int}(hl:¬ h<n):rk e h e n true=h:=by simp[rk,hl]
theorem NZ (e n:Int)(S:Int->Bool):tT e e n S true=fun m=>S m||m==n:=by funext m;simp[tT]
theorem N0 (n:Int)(i:Nat):Nat.testBit 1 i=(n - (i:Int)==n):=by
 rw[show(1:Nat)=2 ^ 0 by decide,Nat.testBit_two_pow]
 by_cases h:i=0
 ·subst h;simp
 ·have h1:(n - (i:Int)==n)=false:=by simp;omega
  have h2:decide (0=i)=false:=by simp;omega
  rw[h1,h2]
theorem Xj (x k:Nat)(hx:x<18446744073709551616)(hk:k<64):
  (IntKind.u64.wrap ((BitVec.ofInt 64 (Int.fdiv (x:Int) (2 ^ (min k 64))) &&& BitVec.ofInt 64 1).toNat:Int)==1)=x.testBit k:=by
 have h2:x / 2 ^ k<=x:=Nat.div_le_self _ _;rw[BQ x k hk,wM,BitVec.toNat_and,yM,show(BitVec.ofInt 64 1).toNat=1 by decide,Nat.mod_eq_of_lt (by omega:x / 2 ^ k<_),Nat.and_one_is_mod];have h3:x / 2 ^ k % 2<2:=Nat.mod_lt _ (by decide);rw[Nat.mod_eq_of_lt (by omega:x / 2 ^ k % 2<18446744073709551616)];rw[Nat.testBit_eq_decide_div_mod_eq]
 rcases (by omega:x / 2 ^ k % 2=0\/x / 2 ^ k % 2=1) with h | h<;>rw[h]<;>rfl
theorem Xk (k:Nat)(hk:k<64):2 ^ k<18446744073709551616:=Nat.pow_lt_pow_right (a:=2) (by decide) hk
theorem Xl (x k i:Nat)(hi:i<64):(x * 2 ^ k % 18446744073709551616 ||| 1).testBit i=(decide (i=0)||(decide (k<=i)&&x.testBit (i - k))):=by
 rw[Nat.testBit_or,show(18446744073709551616:Nat)=2 ^ 64 by decide,Nat.testBit_mod_two_pow,Nat.testBit_mul_two_pow];have h1:Nat.testBit 1 i=decide (i=0):=by
  rw[show(1:Nat)=2 ^ 0 by decide,Nat.testBit_two_pow]
  by_cases h:i=0<;>simp[h,eq_comm]
 rw[h1];simp only[hi,decide_true,Bool.true_and];rw[Bool.or_comm]
theorem Xm (x k i:Nat):(x ||| 2 ^ k).testBit i=(x.testBit i||decide (i=k)):=by
 rw[Nat.testBit_or,Nat.testBit_two_pow]
 congr 1
 by_cases h:i=k
 ·simp[h]
 ·simp[h,Ne.symm h]
theorem Xn {w:World}{b:Nat}{e h:Int}{S:Int->Bool}(ep n:Int)(hw:oC w b e h S)(he:ep<=9223372036854775807)(hn:n<=9223372036854775807):
  Ret Tryz.prog 55 #[.pointer (some ⟨b,0,none⟩),.int .i64 ep,.int .i64 n] w fun r w'=>
   r=.bool (jF e h S ep n)/\Fr (only b) w w'/\oC w' b (tS e ep (jF e h S ep n)) (rk e h ep n (jF e h S ep n)) (tT e ep n S (jF e h S ep n)):=by
 have HM:=hw;obtain⟨x,hb,hx,h1,h2,h3,h4,h5,hS,hH⟩:=hw;have uW:x<18446744073709551616:=hx;refine c55 _ ep n w _ ?_;unfold C55;have no:jF e h S ep n=false->(.bool false:Value)=.bool (jF e h S ep n)/\Fr (only b) w w/\oC w b (tS e ep (jF e h S ep n)) (rk e h ep n (jF e h S ep n)) (tT e ep n S (jF e h S ep n)):=fun hr=>by
  rw[hr];exact⟨rfl,Fr.refl _ _,HM⟩
 refine aa.dec (fun c1=>no (by simp[jF,c1])) (fun c1=>?_);refine aa.dec (fun c2=>no (by simp[jF,c2])) (fun c2=>?_);refine ae.ah hb rfl ?_;refine aa.dec (fun c3=>no (by simp[jF,c3])) (fun c3=>?_);refine ae.ah hb rfl ?_;refine aa.dec (fun c4=>?_) (fun c4=>?_)
 ·have hr:jF e h S ep n=true:=by unfold jF;rw[if_neg (by omega),if_pos (by omega)]
  refine az.ah hb (by simp) rfl fun w1 au f1 _=>?_;refine az.ah au (by simp) rfl fun w2 aI f2 _=>?_;refine az.ah aI (by simp) rfl fun w3 aR f3 _=>?_;have HN:e<ep:=c4;rw[hr,Xe HN,Xf HN,Xg HN];refine⟨rfl,(f1.trans f2).trans f3,1,?_⟩;refine⟨aR,by decide,by omega,by omega,by omega,by omega,by omega,fun i hi=>?_,fun m hm=>by simp;omega⟩;exact N0 n i
 ·have GG:ep=e:=by omega
  subst GG;have hh0:0<=h:=h3 (by omega);refine ae.ah hb rfl ?_;refine aa.dec (fun c5=>?_) (fun c5=>?_)
  ·have hr:jF ep h S ep n=true:=by
    unfold jF;rw[if_neg (by omega),if_neg (by omega),hH n c5];simp;omega
   have aU:¬ ep<ep:=by omega
   have Xo:h<n:=c5;rw[hr,NY,Xh Xo,NZ];refine ae.ah hb rfl ?_;refine az.ah hb (by simp) rfl fun w1 au f1 _=>?_;have e1:IntKind.i64.wrap (n - h)=n - h:=wI (by omega) (by omega);rw[e1];obtain⟨k,hk⟩:∃ k:Nat,n - h=k:=⟨(n - h).toNat,by omega⟩;rw[hk];refine aa.dec (fun c6=>?_) (fun c6=>?_)
   ·refine az.ah au (by simp) rfl fun w2 aI f2 _=>?_
    refine ae.ah aI (x:=(0:Int)) rfl ?_;rw[if_pos (by omega)];refine⟨by omega,?_⟩;refine az.ah aI (by simp) rfl fun w3 aR f3 _=>?_;refine⟨rfl,(f1.trans f2).trans f3,1,?_⟩;refine⟨?_,by decide,by omega,by omega,by omega,by omega,by omega,fun i hi=>?_,fun m hm=>by have:=hH m (by omega);simp[this];omega⟩
    ·have ee:(IntKind.u64.wrap ((BitVec.ofInt 64 (IntKind.u64.wrap (0 * 2 ^ (min (Int.toNat 63) 64))) ||| BitVec.ofInt 64 1).toNat:Int))=((1:Nat):Int):=by decide
     rw[ee] at aR;exact aR
    ·rw[N0 n i]
     by_cases xG:i=0
     ·subst xG;simp
     ·have u2:=hH (n - i) (by omega)
      simp[u2]
   ·refine ae.ah au (x:=(x:Int)) rfl ?_
    have Xp:¬ (63:Int)<k:=by omega
    rw[if_neg Xp];refine⟨by omega,?_⟩;refine az.ah au (by simp) rfl fun w3 aR f3 _=>?_;refine⟨rfl,f1.trans f3,(x * 2 ^ k % 18446744073709551616 ||| 1),?_⟩;have l1:x * 2 ^ k % 18446744073709551616<18446744073709551616:=Nat.mod_lt _ (by decide);refine⟨?_,Nat.or_lt_two_pow (n:=64) l1 (by decide),by omega,by omega,by omega,by omega,by omega,fun i hi=>?_,fun m hm=>by have:=hH m (by omega);simp[this];omega⟩
    ·rw[Int.toNat_natCast,yN x k (by omega),show(1:Int)=((1:Nat):Int) by rfl,yO _ 1 l1 (by decide)] at aR
     exact aR
    ·rw[Xl x k i hi]
     by_cases xG:i=0
     ·subst xG;simp
     ·have u1:¬ (n - (i:Int)=n):=by omega
      simp only[xG,decide_false,Bool.false_or]
      by_cases wv:k<=i
      ·rw[hS (i - k) (by omega)]
       have:h - ((i - k:Nat):Int)=n - i:=by omega
       rw[this];simp[wv,u1]
      ·have:=hH (n - i) (by omega)
       simp[wv,this,u1]
  ·have e1:IntKind.i64.wrap (h - n)=h - n:=wI (by omega) (by omega)
   refine ae.ah hb rfl ?_;rw[e1];obtain⟨k,hk⟩:∃ k:Nat,h - n=k:=⟨(h - n).toNat,by omega⟩;rw[hk];refine aa.dec (fun c6=>no ?_) (fun c6=>?_)
   ·unfold jF;rw[if_neg (by omega),if_neg (by omega)];simp;omega
   ·have og:h - (k:Int)=n:=by omega
    refine ae.ah hb rfl ⟨by omega,?_⟩;rw[Int.toNat_natCast,Xj x k uW (by omega)];refine aa.by (fun c7=>no ?_) (fun c7=>?_)
    ·rw[hS k (by omega),og] at c7
     unfold jF;rw[if_neg (by omega),if_neg (by omega),c7];simp
    ·rw[hS k (by omega),og] at c7
     have hr:jF ep h S ep n=true:=by
      unfold jF;rw[if_neg (by omega),if_neg (by omega),c7];simp;omega
     have aU:¬ ep<ep:=by omega
     have oD:¬ h<n:=by omega
     rw[hr,NY,Xi oD,NZ];refine aD.of fun w0 HM f0=>?_;rw[<- HM] at hb;refine ae.ah hb rfl ⟨by omega,?_⟩;refine az.ah hb (by simp) rfl fun w3 aR f3 _=>?_;refine⟨rfl,f0.eL f3,(x ||| 2 ^ k),?_⟩;have l1:=Xk k (by omega);refine⟨?_,Nat.or_lt_two_pow (n:=64) uW l1,by omega,by omega,by omega,by omega,by omega,fun i hi=>?_,fun m hm=>by have:=hH m hm;simp[this];omega⟩
     ·have ee:=yN 1 k (by omega)
      rw[Nat.one_mul,Nat.mod_eq_of_lt l1] at ee;have Xq:IntKind.u64.wrap (1 * 2 ^ (min k 64))=((2 ^ k:Nat):Int):=ee;rw[Xq,yO _ _ uW l1] at aR;exact aR
     ·rw[Xm,hS i hi]
      by_cases N1:i=k
      ·subst N1;simp[og]
      ·have:¬ (h - (i:Int)=n):=by omega
       simp[N1,this]
theorem Xr {s:bI}{x:List UInt8}(hl:s.lit=false)(hd:s.dead=false)(h:(x.length:Int)<=s.cr - s.b.length):(eU s x).2=0/\(eU s x).1.b=s.b++x/\(eU s x).1.cr=s.cr/\(eU s x).1.synced=s.synced/\(eU s x).1.lit=false/\(eU s x).1.dead=false:=by
 unfold eU cW;rw[hl,hd];simp only[Bool.false_and,Bool.false_eq_true,if_false,if_true];rw[if_neg (by omega)];exact⟨rfl,rfl,rfl,rfl,rfl,rfl⟩
theorem Xs {s:bI}(hl:s.lit=false)(hd:s.dead=false):(iq s).2=0/\(iq s).1.b=s.b/\(iq s).1.cr=s.cr/\(iq s).1.synced=s.b.length/\(iq s).1.lit=false/\(iq s).1.dead=false:=by
 unfold iq cW;rw[hl,hd];refine⟨rfl,rfl,rfl,rfl,rfl,rfl⟩
theorem tU (D:Nat->Bool)(i:Nat):sT D i i=true:=by unfold sT;simp
theorem fA (D:Nat->Bool){i j:Nat}(h:j≠i):sT D i j=D j:=by
 unfold sT;have:Nat.beq j i=false:=by rw[<- Bool.not_eq_true];intro t;exact h (Nat.eq_of_beq_eq_true t)
 rw[this]
theorem HO {z:Int}(h0:0<=z)(h1:z<=255):Value.int .u8 z=bc (toByte z):=by
 unfold bc toByte;rw[UInt8.toNat_ofNat',Nat.mod_eq_of_lt (by omega)]
 congr 1;omega
def N2 (w:World)(v:Sl):Prop:=v.2.2<=9223372036854775807/\∃ cs:List UInt8,cd w (v.1,v.2.2,v.2.2) cs
theorem Xt {w:World}{x y:Sl}{ys:List UInt8}(Ag:x.2.1=0)(tN:x.2.2=0)(hx:cd w x [])(hy:bd w y ys)(hl:ys.length<=100000000):
  ∃ (v:Sl) (w':World),(Builtin.append_ #[22,22] 22 #[.slice x.1 x.2.1 x.2.2,.slice y.1 y.2.1 y.2.2]).run Tryz.prog w=.ok (.slice v.1 v.2.1 v.2.2) w'/\cd w' v ys/\Fr none1 w w' /\
   (∀ k,aw v k->aw x k\/w.heap.size<=k)/\N2 w' v:=by
 obtain⟨hu,⟨i,hi,hs,hz,qN⟩,hc,oT⟩:=mZ;have iH:=hy.len;unfold Builtin.append_;have mv:∀ w,(sizeOf 5).run Tryz.prog w=.ok 1 w:=fun w=>by rw[ko hi,hs]
 have hlen:∀ w,(Builtin.lenOf (.slice y.1 y.2.1 y.2.2)).run Tryz.prog w=.ok y.2.1 w:=fun w=>rfl;simp only[Sem.run_bind,under hu,Result.andThen_ok,mv,List.getElem?_toArray,List.getElem?_cons_zero,List.getElem?_cons_succ,Sem.run_pure,Bool.false_eq_true,if_false,hlen]
 by_cases th:x.2.1+y.2.1<=x.2.2
 ·rw[if_pos th]
  have uI:y.2.1=0:=by omega
  have uJ:ys=[]:=by rw[uI] at iH;exact List.eq_nil_of_length_eq_zero iH.symm
  subst uJ;simp only[Bool.not_false,if_true,Sem.run_bind,du.first hy,Result.andThen_ok]
  have tf:N2 w x:=⟨by omega,[],by
   rcases hx with⟨rfl,_⟩ | ⟨g,off,cs,h1,h2,h3,h4,h5,h6⟩
   ·exact .inl ⟨rfl,rfl⟩
   ·exact .inr ⟨g,off,cs,h1,h2,Nat.le_refl _,h4,by simp[tN],h6⟩⟩
  rcases N3:x.1 with _ | a
  ·refine⟨x,w,?_,hx,Fr.refl _ _,fun k hk=>.inl hk,tf⟩
   have:(x.2.1+y.2.1)=0:=by omega
   simp[N3,Ag,uI,tN]
  ·refine⟨x,w,?_,hx,Fr.refl _ _,fun k hk=>.inl hk,tf⟩
   simp only[List.map_nil,Sem.run_bind];rw[show(storeCells (a.add (x.2.1 * 1)) (([]:List Value).toArray).toList 0).run Tryz.prog w=.ok () w from rfl];simp only[Result.andThen_ok,Sem.run_pure,N3,uI,Nat.add_zero]
 ·rw[if_neg th]
  have nZ:∀ w,(typeInfo 5).run Tryz.prog w=.ok i w:=fun w=>by simp[typeInfo,hi]
  have wJ:Builtin.nextslicecap (x.2.1+y.2.1) x.2.2 * i.bytes<=2 ^ 48:=by
   rw[qN];have:=KG (n:=x.2.1+y.2.1) (c:=x.2.2) (by omega);omega
  have kU:¬ (((x.2.1+y.2.1:Nat):Int) > IntKind.i64.max/\(False\/i.bytes=0)):=by
   rintro⟨_,h | h⟩
   ·exact h
   ·omega
  simp only[Sem.run_bind,nZ,Result.andThen_ok,Sem.run_ite];rw[if_neg kU,if_neg (show ¬ (Builtin.nextslicecap (x.2.1+y.2.1) x.2.2 * i.bytes > 2 ^ 48) by omega)];simp only[run_choose,Question.forced,Bool.false_eq_true,if_false,Result.andThen_ok,run_askRoom];generalize uK:(Question.appendCap (x.2.1+y.2.1) x.2.2 5).cut _=nc;have eu:x.2.1+y.2.1<=nc:=by rw[<- uK];simp[Question.cut]
  have hle:nc<=9223372036854775807:=by
   rw[<- uK];simp only[Question.cut];have:=Nat.mod_lt (w.tape w.drawn (Question.appendCap (x.2.1+y.2.1) x.2.2 5)) (show 2 ^ 63 - (x.2.1+y.2.1) > 0 by omega);omega
  have f1:=wE w;rw[aF.first (hx.af f1)]
  simp only[Result.andThen_ok,Bool.not_false,if_true];rw[du.first (hy.af f1)]
  simp only[Result.andThen_ok,qG hi hz,newRow,Sem.run_bind,run_newObj,Sem.run_pure];have uL:Builtin.zeroCells (Value.int .u8 0).cells (nc - (x.2.1+y.2.1))=((List.replicate (nc - (x.2.1+y.2.1)) (0:UInt8)).map bc).toArray:=by
   unfold Builtin.zeroCells;apply Array.ext
   ·simp[Value.cells]
   ·intro j h1 h2
    simp[Value.cells,Nat.mod_one,bc]
  have vq:∀ (h:Array Obj) (o:Obj),(h.push o)[h.size]? = some o:=fun h o=>Array.getElem?_push_size ..;have hcs:(([]:List UInt8).map bc).toArray++(ys.map bc).toArray++Builtin.zeroCells (Value.int .u8 0).cells (nc - (x.2.1+y.2.1))=((ys++List.replicate (nc - (x.2.1+y.2.1)) (0:UInt8)).map bc).toArray:=by rw[uL];simp
  refine⟨(some ⟨w.heap.size,0,none⟩,x.2.1+y.2.1,nc),_,rfl,.inr ⟨w.heap.size,0,_,rfl,vq _ _,eu,?_,by simp;omega,fun j hj=>?_⟩,
   ((f1.trans (mu _ _)).mono fun _ _ t=>t.elim),fun k ⟨a,ha,hk⟩=>.inr (by injection ha with ha;subst ha;subst hk;exact Nat.le_refl _),
   hle,ys++List.replicate (nc - (x.2.1+y.2.1)) 0,.inr ⟨w.heap.size,0,_,rfl,vq _ _,Nat.le_refl _,?_,by simp;omega,fun j hj=>?_⟩⟩
  ·rw[hcs];simp;omega
  ·rw[hcs,Nat.zero_add]
   simp only[List.length_map] at hj;simp[List.getElem?_append,hj]
  ·rw[hcs];simp;omega
  ·rw[hcs,Nat.zero_add];simp
theorem Xu (w:World):∃ w',(Instr.buildSlice 22 0 #[]).run Tryz.prog w=.ok (.slice (some ⟨w.heap.size,0,none⟩) 0 0) w'/\w'.heap[w.heap.size]? = some (.cells #[] 5 (0,0))/\Fr none1 w w':=by
 obtain⟨hu,⟨i,hi,hs,hz,qN⟩,hc,oT⟩:=mZ;have mv:∀ w,(sizeOf 5).run Tryz.prog w=.ok 1 w:=fun w=>by rw[ko hi,hs]
 unfold Instr.buildSlice;simp only[Sem.run_bind,under hu,Result.andThen_ok,mv];rw[if_neg (by omega)];simp only[Nat.zero_mul,if_true,Sem.run_bind,Sem.run_pure,Result.andThen_ok];simp only[Instr.fill,newRow,Sem.run_bind,run_newObj,Result.andThen_ok,Sem.run_pure];exact⟨_,rfl,by simp,mu _ _⟩
def C145 (p0:Option Addr)(aJ aP:Nat)(w:World)(K:Value->World->Prop):Prop:=
 bC (Int×Int×Unit) (fun _ s1 w2 gO=>aa (decide (s1.2.1<(aJ:Int)))
 (bQ p0 aJ s1.2.1 1 (fun a4=>ae (.int .u8) a4 w2 (fun(x5:Int)=>gO (IntKind.u8.wrap ((BitVec.ofInt 8 s1.1 ^^^ BitVec.ofInt 8 x5).toNat:Int),IntKind.i64.wrap (s1.2.1+1),()) w2)))
 (K (.int .u8 s1.1) w2))
 (150,0,()) w
def pl145:aB:=(.seq .auto (.seq .auto (.seq (.seq .auto (.block (.loop [(3,.one (.int .u8)),(8,.one (.int .i64))] .auto))) .auto)))
theorem c145 (p0:Option Addr)(aJ aP:Nat)(w:World)(K:Value->World->Prop)(h:C145 p0 aJ aP w K):Ret Tryz.prog 145 #[.slice p0 aJ aP] w K:=aC (by kernel_rfl) Tryz.func145 (p:=pl145) (Eq.mpr (by kernel_rfl) h)
def C95 (p0:Option Addr)(aJ aP:Nat)(w:World)(K:Value->World->Prop):Prop:=
 jJ 8 (aA Tryz.prog (Instr.buildSlice 22 2 #[(0,.int .u8 (IntKind.u8.wrap (Int.fdiv (aJ:Int) (2 ^ (min (Int.toNat 8) 64))))),(1,.int .u8 (IntKind.u8.wrap (aJ:Int)))]) w (.v (.one .aj)) (fun(x1:an) w2=>aA Tryz.prog (Builtin.append_ #[22,22] 22 #[.slice x1.1 x1.2.1 x1.2.2,.slice p0 aJ aP]) w2 (.v (.one .aj)) (fun(x3:an) w4=>ab Tryz.prog 145 #[.slice x3.1 x3.2.1 x3.2.2] w4 (.v (.one (.int .u8))) (fun(x5:Int) w6=>aA Tryz.prog (Instr.buildSlice 22 1 #[(0,.int .u8 x5)]) w6 (.v (.one .aj)) (fun(x7:an) w8=>aA Tryz.prog (Builtin.append_ #[22,22] 22 #[.slice x3.1 x3.2.1 x3.2.2,.slice x7.1 x7.2.1 x7.2.2]) w8 (.v (.one .aj)) (fun(x9:an) aG=>K (.slice x9.1 x9.2.1 x9.2.2) aG))))))
def pl95:aB:=.auto
theorem c95 (p0:Option Addr)(aJ aP:Nat)(w:World)(K:Value->World->Prop)(h:C95 p0 aJ aP w K):Ret Tryz.prog 95 #[.slice p0 aJ aP] w K:=aC (by kernel_rfl) Tryz.func95 (p:=pl95) (Eq.mpr (by kernel_rfl) h)
def C87 (p0:Option Addr)(aJ aP:Nat)(w:World)(K:Value->World->Prop):Prop:=
 aa (decide ((aJ:Int)<2))
 (K (.tuple #[.slice none 0 0,.slice p0 aJ aP,.bool false]) w)
 (oN w (fun C1=>bQ p0 aJ 0 1 (fun a2=>gn C1 2 [] (.v (.one (.int .u8))) (fun w4 k5=>ae (.int .u8) a2 w4 (fun(x6:Int)=>k5 (.int .u8 x6) w4))
 (fun(x3:Int)=>gn C1 3 [2] (.v (.one (.int .i64))) (fun w8 k9=>k9 (.int .i64 (IntKind.i64.wrap x3)) w8)
 (fun(x7:Int)=>jJ 8 (bQ p0 aJ 1 1 (fun pY=>gn C1 7 [] (.v (.one (.int .u8))) (fun aL Xv=>ae (.int .u8) pY aL (fun(bg:Int)=>Xv (.int .u8 bg) aL))
 (fun(aX:Int)=>gn C1 8 [7] (.v (.one (.int .i64))) (fun bj Xw=>Xw (.int .i64 (IntKind.i64.wrap aX)) bj)
 (fun(bn:Int)=>(∀ bt,C1 (mem [2,3,7,8]) bt->oN bt (fun C19=>aa (decide ((IntKind.i64.wrap ((BitVec.ofInt 64 (IntKind.i64.wrap (x7 * 2 ^ (min (Int.toNat 8) 64))) ||| BitVec.ofInt 64 bn).toNat:Int)) > 4000))
 (sU C19 15 (sU C19 20 ((∀ bh,C19 (mem [15,20]) bh->K (.tuple #[.slice none 0 0,.slice p0 aJ aP,.bool false]) bh))))
 (aa (decide ((aJ:Int)<(IntKind.i64.wrap ((IntKind.i64.wrap (2+(IntKind.i64.wrap ((BitVec.ofInt 64 (IntKind.i64.wrap (x7 * 2 ^ (min (Int.toNat 8) 64))) ||| BitVec.ofInt 64 bn).toNat:Int))))+1))))
 (sU C19 15 (sU C19 20 ((∀ bw,C19 (mem [15,20]) bw->K (.tuple #[.slice none 0 0,.slice p0 aJ aP,.bool false]) bw))))
 (bQ p0 aJ (IntKind.i64.wrap (2+(IntKind.i64.wrap ((BitVec.ofInt 64 (IntKind.i64.wrap (x7 * 2 ^ (min (Int.toNat 8) 64))) ||| BitVec.ofInt 64 bn).toNat:Int)))) 1 (fun G3=>gn C19 15 [] (.v (.one (.int .u8))) (fun cg Xx=>ae (.int .u8) G3 cg (fun(dc:Int)=>Xx (.int .u8 dc) cg))
 (fun(cv:Int)=>eX p0 aP 0 (IntKind.i64.wrap (2+(IntKind.i64.wrap ((BitVec.ofInt 64 (IntKind.i64.wrap (x7 * 2 ^ (min (Int.toNat 8) 64))) ||| BitVec.ofInt 64 bn).toNat:Int)))) aP 1 (fun zZ Aa c29=>gn C19 20 [] (.v (.one (.int .u8))) (fun fo Xy=>ab Tryz.prog 145 #[.slice zZ Aa c29] fo (.v (.one (.int .u8))) (fun(dA:Int) gJ=>Xy (.int .u8 dA) gJ))
 (fun(eB:Int)=>(∀ dL,C19 (mem [15,20]) dL->aa (cv != eB)
 (K (.tuple #[.slice none 0 0,.slice p0 aJ aP,.bool false]) dL)
 (oN dL (fun C36=>eX p0 aP 2 (IntKind.i64.wrap (2+(IntKind.i64.wrap ((BitVec.ofInt 64 (IntKind.i64.wrap (x7 * 2 ^ (min (Int.toNat 8) 64))) ||| BitVec.ofInt 64 bn).toNat:Int)))) aP 1 (fun a37 Xz c39=>gn C36 4 [] (.v (.one .aj)) (fun kA XA=>ab Tryz.prog 54 #[.slice a37 Xz c39] kA (.v (.one .aj)) (fun(jw:an) gd=>XA (.slice jw.1 jw.2.1 jw.2.2) gd))
 (fun(iK:an)=>eX p0 aP (IntKind.i64.wrap ((IntKind.i64.wrap (2+(IntKind.i64.wrap ((BitVec.ofInt 64 (IntKind.i64.wrap (x7 * 2 ^ (min (Int.toNat 8) 64))) ||| BitVec.ofInt 64 bn).toNat:Int))))+1)) aJ aP 1 (fun XB XC c47=>(∀ gF,C36 (mem [4]) gF->K (.tuple #[.slice iK.1 iK.2.1 iK.2.2,.slice XB XC c47,.bool true]) gF))))))))))))))))))))))))
def pl87:aB:=(.seq .auto (.seq .auto (.seq (.any [(2,.v (.one (.int .u8))),(3,.v (.one (.int .i64))),(7,.v (.one (.int .u8))),(8,.v (.one (.int .i64)))]) (.seq (.seq (.any [(15,.v (.one (.int .u8))),(20,.v (.one (.int .u8)))]) .auto) (.seq (.any [(4,.v (.one .aj))]) .auto)))))
theorem c87 (p0:Option Addr)(aJ aP:Nat)(w:World)(K:Value->World->Prop)(h:C87 p0 aJ aP w K):Ret Tryz.prog 87 #[.slice p0 aJ aP] w K:=aC (by kernel_rfl) Tryz.func87 (p:=pl87) (Eq.mpr (by kernel_rfl) h)
def C39 (p0:Addr)(w:World)(K:Value->World->Prop):Prop:=
 ab Tryz.prog 86 #[.pointer (some p0)] w (.v (.one .bool)) (fun(x1:Bool) w2=>aa x1
 (K (.tuple #[.pointer none,.int .i64 11]) w2)
 (ak (.cells #[.pointer (some p0),.slice none 0 0,.bool false] 181) w2 (fun g3 w4=>ab Tryz.prog 17 #[.pointer (some p0)] w4 (.v (.one .aj)) (fun(x5:an) w6=>bC (an×Unit) (fun _ s7 w8 FC=>ab Tryz.prog 87 #[.slice s7.1.1 s7.1.2.1 s7.1.2.2] w8 (.aN [.one .aj,.one .aj,.one .bool]) (fun(aQ:an×an×Bool×Unit) aO=>aa (!aQ.2.2.1)
 (aa (decide ((s7.1.2.1:Int) > 0))
 (ab Tryz.prog 88 #[.pointer (some p0),.int .i64 (IntKind.i64.wrap ((x5.2.1:Int) - (s7.1.2.1:Int)))] aO (.v (.one (.int .i64))) (fun(bx:Int) aY=>aa (bx != 0)
 (K (.tuple #[.pointer none,.int .i64 bx]) aY)
 (K (.tuple #[.pointer (some (ad g3)),.int .i64 0]) aY)))
 (K (.tuple #[.pointer (some (ad g3)),.int .i64 0]) aO))
 (ae .aj ((ad g3).add 1) aO (fun(bg:an)=>aA Tryz.prog (Instr.buildSlice 37 1 #[(0,.slice aQ.1.1 aQ.1.2.1 aQ.1.2.2)]) aO (.v (.one .aj)) (fun(bn:an) bj=>aA Tryz.prog (Builtin.append_ #[37,37] 37 #[.slice bg.1 bg.2.1 bg.2.2,.slice bn.1 bn.2.1 bn.2.2]) bj (.v (.one .aj)) (fun(ba:an) bt=>az ((ad g3).add 1) (.slice ba.1 ba.2.1 ba.2.2) bt (fun bu=>FC ((aQ.2.1.1,aQ.2.1.2.1,aQ.2.1.2.2),()) bu)))))))
 ((x5.1,x5.2.1,x5.2.2),()) w6))))
def pl39:aB:=(.seq .auto (.seq .auto (.seq .auto (.seq .auto (.seq .auto (.seq (.block (.loop [(6,.one .aj)] .auto)) .auto))))))
theorem c39 (p0:Addr)(w:World)(K:Value->World->Prop)(h:C39 p0 w K):Ret Tryz.prog 39 #[.pointer (some p0)] w K:=aC (by kernel_rfl) Tryz.func39 (p:=pl39) (Eq.mpr (by kernel_rfl) h)
def C67 (p0:Addr)(w:World)(K:Value->World->Prop):Prop:=
 ae .bool (p0.add 2) w (fun(x1:Bool)=>K (.bool x1) w)
def pl67:aB:=.auto
theorem c67 (p0:Addr)(w:World)(K:Value->World->Prop)(h:C67 p0 w K):Ret Tryz.prog 67 #[.pointer (some p0)] w K:=aC (by kernel_rfl) Tryz.func67 (p:=pl67) (Eq.mpr (by kernel_rfl) h)
def C44 (p0:Addr)(p1:Option Addr)(cw cN:Nat)(w:World)(K:Value->World->Prop):Prop:=
 cy (Unit) (fun J1=>ae .bool (p0.add 2) w (fun(x4:Bool)=>aa x4
 (az (p0.add 2) (.bool true) w (fun w5=>J1 (()) w5))
 (ae .ptr (p0.add 0) w (fun(x6:Option Addr)=>ab Tryz.prog 86 #[.pointer x6] w (.v (.one .bool)) (fun(x7:Bool) w8=>az (p0.add 2) (.bool x7) w8 (fun w9=>J1 (()) w9))))))
 (fun _ s2 w3=>ae .bool (p0.add 2) w3 (fun(aQ:Bool)=>aa aQ
 (K (.int .i64 11) w3)
 (aa (decide ((cw:Int) > 4000))
 (K (.int .i64 5) w3)
 (oN w3 (fun C11=>gn C11 3 [] (.v (.one .ptr)) (fun aY XD=>ae .ptr (p0.add 0) aY (fun(bn:Option Addr)=>XD (.pointer bn) aY))
 (fun(bx:Option Addr)=>gn C11 5 [] (.v (.one .aj)) (fun cj XE=>ab Tryz.prog 95 #[.slice p1 cw cN] cj (.v (.one .aj)) (fun(br:an) bh=>XE (.slice br.1 br.2.1 br.2.2) bh))
 (fun(aS:an)=>gn C11 6 [3,5] (.v (.one (.int .i64))) (fun bJ XF=>ab Tryz.prog 94 #[.pointer bx,.slice aS.1 aS.2.1 aS.2.2] bJ (.v (.one (.int .i64))) (fun(cm:Int) di=>XF (.int .i64 cm) di))
 (fun(bY:Int)=>(∀ cn,C11 (mem [3,5,6]) cn->aa (bY==0)
 (ae .ptr (p0.add 0) cn (fun(cA:Option Addr)=>ab Tryz.prog 96 #[.pointer cA] cn (.v (.one (.int .i64))) (fun(eR:Int) eD=>aa (eR != 0)
 (az (p0.add 2) (.bool (eR==11)) eD (fun bS=>K (.int .i64 eR) bS))
 (oN eD (fun C31=>gn C31 4 [] (.v (.one .aj)) (fun dE XG=>ae .aj (p0.add 1) dE (fun(dv:an)=>XG (.slice dv.1 dv.2.1 dv.2.2) dE))
 (fun(df:an)=>gn C31 6 [] (.v (.one .aj)) (fun dz XH=>ab Tryz.prog 54 #[.slice p1 cw cN] dz (.v (.one .aj)) (fun(fk:an) dP=>XH (.slice fk.1 fk.2.1 fk.2.2) dP))
 (fun(eg:an)=>gn C31 7 [6] (.v (.one .aj)) (fun gx XI=>aA Tryz.prog (Instr.buildSlice 37 1 #[(0,.slice eg.1 eg.2.1 eg.2.2)]) gx (.v (.one .aj)) (fun(iY:an) gr=>XI (.slice iY.1 iY.2.1 iY.2.2) gr))
 (fun(eM:an)=>gn C31 8 [4,6,7] (.v (.one .aj)) (fun gI XJ=>aA Tryz.prog (Builtin.append_ #[37,37] 37 #[.slice df.1 df.2.1 df.2.2,.slice eM.1 eM.2.1 eM.2.2]) gI (.v (.one .aj)) (fun(fD:an) mG=>XJ (.slice fD.1 fD.2.1 fD.2.2) mG))
 (fun(kx:an)=>gn C31 11 [4,6,7,8] (.aN []) (fun fh XK=>az (p0.add 1) (.slice kx.1 kx.2.1 kx.2.2) fh (fun gW=>XK undef gW))
 (fun(jx:Unit)=>(∀ gQ,C31 (mem [4,6,7,8,11]) gQ->K (.int .i64 0) gQ)))))))))))
 (aa (bY != 0)
 (az (p0.add 2) (.bool (bY==11)) cn (fun rV=>K (.int .i64 bY) rV))
 (oN cn (fun C57=>gn C57 4 [] (.v (.one .aj)) (fun lV XL=>ae .aj (p0.add 1) lV (fun(l8:an)=>XL (.slice l8.1 l8.2.1 l8.2.2) lV))
 (fun(oh:an)=>gn C57 6 [] (.v (.one .aj)) (fun tw XM=>ab Tryz.prog 54 #[.slice p1 cw cN] tw (.v (.one .aj)) (fun(o7:an) vE=>XM (.slice o7.1 o7.2.1 o7.2.2) vE))
 (fun(yX:an)=>gn C57 7 [6] (.v (.one .aj)) (fun tV XN=>aA Tryz.prog (Instr.buildSlice 37 1 #[(0,.slice yX.1 yX.2.1 yX.2.2)]) tV (.v (.one .aj)) (fun(rZ:an) r6=>XN (.slice rZ.1 rZ.2.1 rZ.2.2) r6))
 (fun(o6:an)=>gn C57 8 [4,6,7] (.v (.one .aj)) (fun qV XO=>aA Tryz.prog (Builtin.append_ #[37,37] 37 #[.slice oh.1 oh.2.1 oh.2.2,.slice o6.1 o6.2.1 o6.2.2]) qV (.v (.one .aj)) (fun(sG:an) qW=>XO (.slice sG.1 sG.2.1 sG.2.2) qW))
 (fun(qa:an)=>gn C57 11 [4,6,7,8] (.aN []) (fun mE XP=>az (p0.add 1) (.slice qa.1 qa.2.1 qa.2.2) mE (fun HP=>XP undef HP))
 (fun(vF:Unit)=>(∀ CY,C57 (mem [4,6,7,8,11]) CY->K (.int .i64 0) CY))))))))))))))))))
def pl44:aB:=(.seq .auto (.join [] .auto (.seq .auto (.seq (.any [(3,.v (.one .ptr)),(5,.v (.one .aj)),(6,.v (.one (.int .i64)))]) (.seq .auto (.seq .auto (.seq (.any [(4,.v (.one .aj)),(6,.v (.one .aj)),(7,.v (.one .aj)),(8,.v (.one .aj)),(11,.aN [])]) .auto)))))))
theorem c44 (p0:Addr)(p1:Option Addr)(cw cN:Nat)(w:World)(K:Value->World->Prop)(h:C44 p0 p1 cw cN w K):Ret Tryz.prog 44 #[.pointer (some p0),.slice p1 cw cN] w K:=aC (by kernel_rfl) Tryz.func44 (p:=pl44) (Eq.mpr (by kernel_rfl) h)
def C42 (p0:Addr)(w:World)(K:Value->World->Prop):Prop:=
 ae .aj (p0.add 1) w (fun(x1:an)=>bC (an×Int×Unit) (fun _ s2 w3 HR=>aa (decide (s2.2.1<(x1.2.1:Int)))
 (bQ x1.1 x1.2.1 s2.2.1 1 (fun a5=>ae .aj a5 w3 (fun(x6:an)=>ab Tryz.prog 54 #[.slice x6.1 x6.2.1 x6.2.2] w3 (.v (.one .aj)) (fun(x7:an) w8=>aA Tryz.prog (Instr.buildSlice 37 1 #[(0,.slice x7.1 x7.2.1 x7.2.2)]) w8 (.v (.one .aj)) (fun(x9:an) aG=>aA Tryz.prog (Builtin.append_ #[37,37] 37 #[.slice s2.1.1 s2.1.2.1 s2.1.2.2,.slice x9.1 x9.2.1 x9.2.2]) aG (.v (.one .aj)) (fun(aX:an) aL=>HR ((aX.1,aX.2.1,aX.2.2),IntKind.i64.wrap (s2.2.1+1),()) aL))))))
 (K (.slice s2.1.1 s2.1.2.1 s2.1.2.2) w3))
 ((none,0,0),0,()) w)
def pl42:aB:=(.seq .auto (.seq .auto (.seq (.seq .auto (.block (.loop [(3,.one .aj),(11,.one (.int .i64))] .auto))) .auto)))
theorem c42 (p0:Addr)(w:World)(K:Value->World->Prop)(h:C42 p0 w K):Ret Tryz.prog 42 #[.pointer (some p0)] w K:=aC (by kernel_rfl) Tryz.func42 (p:=pl42) (Eq.mpr (by kernel_rfl) h)
theorem N4:iw Tryz.prog 37 22 1 (.slice none 0 0) 24:=⟨Tryz.underlying37,⟨Tryz.t22,by kernel_rfl,rfl,rfl,rfl⟩,rfl,by decide⟩
def HS (u:Sl):Value:=.slice u.1 u.2.1 u.2.2
def Ar:Sl:=(none,0,0)
structure ja (w:World)(S:Nat->Prop)(v:Sl)(rs:List (List UInt8)):Prop where
 out:∃ us:List Sl,aF w 22 1 v (us.map HS)/\us.length=rs.length/\(∀ i,i<us.length->bd w (us.getD i Ar) (rs.getD i []))/\∀ u∈us,(∀ k,aw u k->S k/\¬ aw v k)/\u.2.1<=u.2.2
 own:∀ k,aw v k->S k
 lt:∀ k,S k->k<w.heap.size
theorem ja.ag {w w':World}{S:Nat->Prop}{v:Sl}{rs:List (List UInt8)}(h:ja w S v rs){T:Nat->Prop}(f:Fr T w w')(hT:∀ k,S k->¬ T k):ja w' S v rs:=by
 obtain⟨⟨us,a,b,c,d⟩,o,l⟩:=h;refine⟨⟨us,a.ag f (fun k hk=>hT k (o k hk)),b,fun i hi=>(c i hi).ag f (fun k hk=>?_),d⟩,o,fun k hk=>Nat.lt_of_lt_of_le (l k hk) f.size⟩;rw[List.getD_eq_getElem?_getD,List.getElem?_eq_getElem hi] at hk;exact hT k ((d _ (List.getElem_mem hi)).1 k hk).1
theorem ja.af {w w':World}{S:Nat->Prop}{v:Sl}{rs:List (List UInt8)}(h:ja w S v rs)(f:Fr none1 w w'):ja w' S v rs:=h.ag f (fun _ _ t=>t)
theorem ja.len {w:World}{S:Nat->Prop}{v:Sl}{rs:List (List UInt8)}(h:ja w S v rs):v.2.1=rs.length:=by
 obtain⟨⟨us,a,b,_⟩,_⟩:=h;have:=a.len;simp at this;omega
theorem As (w:World)(S:Nat->Prop)(hS:∀ k,S k->k<w.heap.size):ja w S (none,0,0) []:=
 ⟨⟨[],.inl ⟨rfl,rfl⟩,rfl,fun i hi=>by simp at hi,fun u hu=>by simp at hu⟩,(fun k ⟨a,ha,_⟩=>by cases ha),hS⟩
theorem ja.snoc {w:World}{S:Nat->Prop}{v u:Sl}{rs:List (List UInt8)}{b:List UInt8}(h:ja w S v rs)(hu:bd w u b)(Au:u.2.1<=u.2.2)(dk:∀ k,aw u k->k<w.heap.size/\¬ S k)(hl:rs.length<=1000000):
  ∃ (y:Sl) (w2:World) (z:Sl) (w3:World),(Instr.buildSlice 37 1 #[(0,.slice u.1 u.2.1 u.2.2)]).run Tryz.prog w=.ok (.slice y.1 y.2.1 y.2.2) w2/\Fr none1 w w2 /\
   (Builtin.append_ #[37,37] 37 #[.slice v.1 v.2.1 v.2.2,.slice y.1 y.2.1 y.2.2]).run Tryz.prog w2=.ok (.slice z.1 z.2.1 z.2.2) w3 /\
   Fr (aw v) w w3/\∃ S',(∀ k,S' k->S k\/aw u k\/w.heap.size<=k)/\ja w3 S' z (rs++[b]):=by
 have cO:=h.len;obtain⟨⟨us,a1,a2,a3,a4⟩,o,l⟩:=h;obtain⟨y,w2,hr,hy,iH,f1,hf⟩:=lR (P:=Tryz.prog) (w:=w) N4 (HS u) rfl;obtain⟨z,w3,gq,hz,hzl,f2,pN⟩:=gE N4 37 (a1.af f1) hy.rd (by simp[HS,bK]) (by rw[iH,cO];omega);have f3:Fr (aw v) w w3:=f1.eL f2;refine⟨y,w2,z,w3,hr,f1,gq,f3,fun k=>S k\/aw u k\/aw z k,fun k hk=>?_,?_⟩
 ·rcases hk with t | t | t
  ·exact .inl t
  ·exact .inr (.inl t)
  ·rcases pN k t with t | t
   ·exact .inl (o k t)
   ·exact .inr (.inr (Nat.le_trans f1.size t))
 ·refine⟨⟨us++[u],?_,by simp[a2],fun i hi=>?_,fun x hx=>⟨fun k hk=>?_,?_⟩⟩,fun k hk=>.inr (.inr hk),fun k hk=>?_⟩
  ·rw[List.map_append];exact hz
  ·by_cases CZ:i<us.length
   ·rw[G1 _ _ _ CZ,G1 _ _ _ (by omega)]
    refine(a3 i CZ).ag f3 (fun k hk=>?_);rw[List.getD_eq_getElem?_getD,List.getElem?_eq_getElem CZ] at hk;exact((a4 _ (List.getElem_mem CZ)).1 k hk).2
   ·have:i=us.length:=by simp at hi;omega
    subst this;rw[Na,a2,Na];exact hu.ag f3 (fun k hk t=>(dk k hk).2 (o k t))
  ·rcases List.mem_append.1 hx with hx | hx
   ·obtain⟨t1,t2⟩:=(a4 x hx).1 k hk
    refine⟨.inl t1,fun t=>?_⟩
    rcases pN k t with t | t
    ·exact t2 t
    ·have:=l k t1;have:=f1.size;omega
   ·simp at hx;subst hx
    refine⟨.inr (.inl hk),fun t=>?_⟩
    rcases pN k t with t | t
    ·exact(dk k hk).2 (o k t)
    ·have:=(dk k hk).1;have:=f1.size;omega
  ·rcases List.mem_append.1 hx with hx | hx
   ·exact(a4 x hx).2
   ·simp at hx;subst hx;exact Au
  ·have s3:=f3.size
   rcases hk with t | t | t
   ·have:=l k t;omega
   ·have:=(dk k t).1;omega
   ·exact aF.lt hz t
theorem N5 {w:World}{v:Sl}{bs:List UInt8}(h:bd w v bs)(hl:bs.length<=100000000):
  ∃ (u:Sl) (w1:World),Ret Tryz.prog 54 #[.slice v.1 v.2.1 v.2.2] w (fun r w'=>r=.slice u.1 u.2.1 u.2.2/\w1=w')/\cd w1 u bs/\Fr none1 w w1/\∀ k,aw u k->w.heap.size<=k:=by
 cases hn:v.1 with
 | none=>
  obtain⟨_,_,he⟩:=h.2.1 hn;refine⟨(none,0,0),w,?_,.inl ⟨rfl,he⟩,Fr.refl _ _,fun k ⟨a,ha,_⟩=>(by cases ha)⟩;refine c54 none v.2.1 v.2.2 w _ ?_;exact aa.t rfl ⟨rfl,rfl⟩
 | some a=>
  obtain⟨w1,hr,au,f1⟩:=Xu w;have hx:cd w1 (some ⟨w.heap.size,0,none⟩,0,0) []:=.inr ⟨w.heap.size,0,#[],rfl,au,Nat.le_refl _,by simp,by simp,fun i hi=>by simp at hi⟩;obtain⟨u,w2,gq,hu,f2,pN,hq⟩:=Xt rfl rfl hx (h.af f1) hl;refine⟨u,w2,?_,hu,f1.trans f2,fun k hk=>?_⟩
  ·refine c54 (some a) v.2.1 v.2.2 w _ ?_
   refine aa.f rfl ?_;rw[hn] at gq;exact⟨(some ⟨w.heap.size,0,none⟩,0,0),w1,hr,u,w2,gq,rfl,rfl⟩
  ·rcases pN k hk with⟨a,ha,hk⟩ | t
   ·injection ha with ha;subst ha;subst hk;exact Nat.le_refl _
   ·exact Nat.le_trans f1.size t
theorem XQ (x:UInt8)(p:Int):IntKind.u8.wrap ((BitVec.ofInt 8 (x.toNat:Int) ^^^ BitVec.ofInt 8 p).toNat:Int)=((sF x p).toNat:Int):=by
 have:=NX x p;unfold bc at this;injection this
def kj (x:UInt8)(bs:List UInt8):UInt8:=bs.foldl (fun a c=>sF a (c.toNat:Int)) x
theorem N6 {w:World}{v:Sl}{bs:List UInt8}(h:bd w v bs)(hl:bs.length<=100000000):Ret Tryz.prog 145 #[.slice v.1 v.2.1 v.2.2] w fun r w'=>r=.int .u8 ((kj 150 bs).toNat:Int)/\w=w':=by
 refine c145 v.1 v.2.1 v.2.2 w _ ?_;have cO:=h.len;refine bC.of (fun s w'=>w=w'/\0<=s.2.1/\s.2.1<=v.2.1/\s.1=((kj 150 (bs.take s.2.1.toNat)).toNat:Int)) (fun s _=>(v.2.1 - s.2.1).toNat) ⟨rfl,by dsimp only;omega,by dsimp only;omega,rfl⟩ ?_;rintro _ ⟨x,i,_⟩ _ ⟨rfl,i0,i1,hx⟩;dsimp only at i0 i1 hx ⊢;refine aa.dec (fun aU=>?_) (fun eu=>?_)
 ·refine bd.at h i0 aU ?_
  rw[wI (by omega) (by omega),hx,XQ];refine⟨⟨rfl,by omega,by omega,?_⟩,by omega⟩;rw[show(i+1).toNat=i.toNat+1 by omega,List.take_succ_eq_append_getElem (by omega)];unfold kj;rw[List.foldl_append,List.getD_eq_getElem?_getD,List.getElem?_eq_getElem (by omega)];rfl
 ·rw[List.take_of_length_le (by omega)] at hx
  rw[hx];exact⟨rfl,rfl⟩
def qu (bs:List UInt8):List UInt8:=[toByte ((bs.length:Int) / 256),toByte ((bs.length:Int) % 256)]
def bP (bs:List UInt8):List UInt8:=qu bs++bs++[kj 150 (qu bs++bs)]
theorem oE (bs:List UInt8):(bP bs).length=bs.length+3:=by unfold bP qu;simp
theorem XR {w:World}{v:Sl}{bs:List UInt8}(h:bd w v bs)(hl:bs.length<=4000):
  ∃ (u:Sl) (w1:World),Ret Tryz.prog 95 #[.slice v.1 v.2.1 v.2.2] w (fun r w'=>r=.slice u.1 u.2.1 u.2.2/\w1=w')/\cd w1 u (bP bs)/\Fr none1 w w1/\∀ k,aw u k->w.heap.size<=k:=by
 have cO:=h.len;obtain⟨x,w1,r1,hx,kW,f1,xf⟩:=rN (P:=Tryz.prog) (w:=w) mZ ((qu bs).map bc) (by intro v hv;obtain⟨x,_,rfl⟩:=List.mem_map.1 hv;rfl) (by simp[qu]);have uW:cd w1 x (qu bs):=hx;obtain⟨y,w2,r2,hy,f2,yf⟩:=rO uW (h.af f1) (by simp[qu];omega);obtain⟨z,w3,r3,hz,hzl,f3,zf⟩:=lR (P:=Tryz.prog) (w:=w2) mZ (bc (kj 150 (qu bs++bs))) rfl;have GH:bd w3 z [kj 150 (qu bs++bs)]:=hz.rd;have XS:=hy.af f3;obtain⟨u,w4,r4,hu,f4,uf⟩:=rO XS GH (by simp[qu];omega);have N7:∀ k,aw y k->w.heap.size<=k:=fun k hk=>by
  rcases yf k hk with t | t
  ·exact xf k t
  ·exact Nat.le_trans f1.size t
 have f12:Fr none1 w w2:=f1.comp f2 (fun k hk t=>by have:=xf k t;omega);refine⟨u,w4,?_,hu,(f12.trans f3).comp f4 (fun k hk t=>by have:=N7 k t;omega),fun k hk=>?_⟩
 ·refine c95 v.1 v.2.1 v.2.2 w _ ?_
  refine⟨by omega,x,w1,?_,y,w2,r2,?_⟩
  ·refine Eq.trans ?_ r1
   have e1:IntKind.u8.wrap (Int.fdiv (v.2.1:Int) (2 ^ (min (Int.toNat 8) 64)))=(bs.length:Int) / 256:=by
    rw[show(2:Int) ^ (min (Int.toNat 8) 64)=256 from rfl,Int.fdiv_eq_ediv_of_nonneg _ (by omega),cO,wB (by omega) (by omega)]
   have e2:IntKind.u8.wrap (v.2.1:Int)=(bs.length:Int) % 256:=by rw[IntKind.wrap_u8,cO]
   rw[e1,e2,HO (z:=(bs.length:Int) / 256) (by omega) (by omega),HO (z:=(bs.length:Int) % 256) (by omega) (by omega)];rfl
  ·refine ab.of (N6 hy.rd (by simp[qu];omega)) ?_
   rintro _ _ ⟨rfl,rfl⟩;exact⟨_,rfl,z,w3,r3,u,w4,r4,rfl,rfl⟩
 ·rcases uf k hk with t | t
  ·exact N7 k t
  ·exact Nat.le_trans (f12.trans f3).size t
structure iD (w:World)(S:Nat->Prop)(p b g:Nat)(s:bI)(d:Bool)(rs:List (List UInt8)):Prop where
 file:gN w b g s
 out:∃ jl:Sl,w.heap[p]? = some (.cells #[.pointer (some ⟨b,0,none⟩),.slice jl.1 jl.2.1 jl.2.2,.bool d] 181 (0,0))/\ja w S jl rs
 ne:p≠b/\p≠g
 off:∀ k,S k->k≠p/\k≠b/\k≠g
theorem iD.ag {w w':World}{S:Nat->Prop}{p b g:Nat}{s:bI}{d:Bool}{rs:List (List UInt8)}(h:iD w S p b g s d rs){T:Nat->Prop}(f:Fr T w w')(h1:¬ T p)(h2:¬ T b)(h3:¬ T g)(h4:∀ k,S k->¬ T k):iD w' S p b g s d rs:=by
 obtain⟨a,⟨jl,b1,b2⟩,c,d⟩:=h;exact⟨a.ag f h2 h3,⟨jl,f.ag b1 h1,b2.ag f h4⟩,c,d⟩
theorem iD.af {w w':World}{S:Nat->Prop}{p b g:Nat}{s:bI}{d:Bool}{rs:List (List UInt8)}(h:iD w S p b g s d rs)(f:Fr none1 w w'):iD w' S p b g s d rs:=h.ag f (fun t=>t) (fun t=>t) (fun t=>t) (fun _ _ t=>t)
theorem iD.Av {w:World}{S:Nat->Prop}{p b g:Nat}{s:bI}{d:Bool}{rs:List (List UInt8)}(h:iD w S p b g s d rs):p<w.heap.size:=by
 obtain⟨_,⟨jl,b1,_⟩,_⟩:=h;exact bL b1
theorem iD.slt {w:World}{S:Nat->Prop}{p b g:Nat}{s:bI}{d:Bool}{rs:List (List UInt8)}(h:iD w S p b g s d rs):∀ k,S k->k<w.heap.size:=by
 obtain⟨_,⟨jl,_,b2⟩,_⟩:=h;exact b2.lt
def tW (S:Nat->Prop)(p b:Nat):Nat->Prop:=fun k=>k=p\/k=b\/S k
def HT (w:World)(S:Nat->Prop)(p b g:Nat)(s':bI)(d':Bool)(XT:List (List UInt8))(w':World):Prop:=
 Fr (tW S p b) w w'/\∃ S' g',(∀ k,S' k->S k\/w.heap.size<=k)/\(g'=b\/g'=g\/w.heap.size<=g')/\iD w' S' p b g' s' d' XT
theorem iD.xN {w w':World}{S:Nat->Prop}{p b g:Nat}{s s':bI}{d:Bool}{rs:List (List UInt8)}(h:iD w S p b g s d rs)(t:jW w b g s' w'):∃ g',(g'=b\/g'=g\/w.heap.size<=g')/\iD w' S p b g' s' d rs:=by
 obtain⟨f,g',hg,i⟩:=t;have hp:=h.Av;have hs:=h.slt;obtain⟨a,⟨jl,b1,b2⟩,c,o⟩:=h;refine⟨g',hg,i,⟨jl,f.ag b1 (fun t=>c.1 t),b2.ag f (fun k hk t=>(o k hk).2.1 t)⟩,⟨c.1,?_⟩,fun k hk=>⟨(o k hk).1,(o k hk).2.1,?_⟩⟩
 ·rcases hg with t | t | t
  ·rw[t];exact c.1
  ·rw[t];exact c.2
  ·omega
 ·have:=hs k hk
  rcases hg with t | t | t
  ·rw[t];exact(o k hk).2.1
  ·rw[t];exact(o k hk).2.2
  ·omega
theorem XU {w:World}{S:Nat->Prop}{p b g:Nat}{s:bI}{d:Bool}{rs:List (List UInt8)}(h:iD w S p b g s d rs):Ret Tryz.prog 67 #[.pointer (some ⟨p,0,none⟩)] w fun r w'=>r=.bool d/\w=w':=by
 obtain⟨_,⟨jl,hp,_⟩,_⟩:=h;exact c67 _ w _ (ae.ah hp rfl ⟨rfl,rfl⟩)
theorem XV {w:World}{S:Nat->Prop}{p b g:Nat}{s:bI}{d:Bool}{rs:List (List UInt8)}(h:iD w S p b g s d rs)(hl:rs.length<=1000000)(hr:∀ r∈rs,r.length<=100000000):
  Ret Tryz.prog 42 #[.pointer (some ⟨p,0,none⟩)] w fun r w'=>∃ (v:Sl) (S':Nat->Prop),r=.slice v.1 v.2.1 v.2.2/\ja w' S' v rs/\Fr none1 w w'/\∀ k,S' k->w.heap.size<=k:=by
 obtain⟨_,⟨jl,hp,hj⟩,_⟩:=h;have C0:=hj.len;refine c42 _ w _ ?_;refine ae.ah hp (x:=jl) rfl ?_;refine bC.of (fun q w'=>0<=q.2.1/\q.2.1<=jl.2.1/\Fr none1 w w'/\∃ S',ja w' S' q.1 (rs.take q.2.1.toNat)/\∀ k,S' k->w.heap.size<=k) (fun q _=>(jl.2.1 - q.2.1).toNat)
  ⟨by dsimp only;omega,by dsimp only;omega,Fr.refl _ _,fun _=>False,As _ _ (fun k t=>t.elim),fun k t=>t.elim⟩ ?_
 rintro _ ⟨v,i,_⟩ w1 ⟨i0,i1,f1,S',hv,hS⟩;dsimp only at i0 i1 hv ⊢;refine aa.dec (fun aU=>?_) (fun eu=>?_)
 ·obtain⟨⟨us,a1,a2,a3,a4⟩,o,l⟩:=hj.af f1
  have hi:i.toNat<us.length:=by omega
  have XW:=a3 i.toNat hi;refine aF.ld a1 i0 aU (x:=us.getD i.toNat Ar) (by rw[List.getElem?_map,List.getD_eq_getElem?_getD,List.getElem?_eq_getElem hi];rfl) ?_;have Ac:(rs.getD i.toNat []).length<=100000000:=by
   rw[List.getD_eq_getElem?_getD,List.getElem?_eq_getElem (by omega)];exact hr _ (List.getElem_mem _)
  refine ab.of (An XW Ac) ?_;rintro _ w2 ⟨u,rfl,hu,f2,tX⟩;refine⟨u,rfl,?_⟩;have uG:=hv.af f2;obtain⟨y,w3,z,w4,r1,f3,r2,f4,S2,rl,hz⟩:=uG.snoc hu.rd hu.cap (fun k hk=>⟨aF.lt hu hk,fun t=>by have:=hv.lt k t;have:=tX k hk;omega⟩) (by simp only[List.length_take];omega);refine⟨y,w3,r1,z,w4,r2,?_⟩;rw[wI (by omega) (by omega)];refine⟨⟨by omega,by omega,(f1.trans f2).comp f4 (fun k hk t=>by have:=hS k (hv.own k t);omega),S2,?_,fun k hk=>?_⟩,by omega⟩
  ·rw[show(i+1).toNat=i.toNat+1 by omega,List.take_succ_eq_append_getElem (by omega)]
   rw[List.getD_eq_getElem?_getD,List.getElem?_eq_getElem (by omega)] at hz;exact hz
  ·have:=f1.size
   have:=f2.size
   rcases rl k hk with t | t | t
   ·exact hS k t
   ·have:=tX k t;omega
   ·omega
 ·rw[List.take_of_length_le (by omega)] at hv
  exact⟨v,S',rfl,hv,f1,hS⟩
end Go.Proofs.YtmkehncgjnhhcaaGreatDoor
