/-
  Texts of this claim, put together: CashSpec, CCloneG, CChainG, ChainSpec, CLedG, LedSpec, LedSpec2, LedSpec3, ChainAdd.
  Conditions: those of each theorem.
-/
import Derived.Test.YtmkehncgjnhhcaaGreatDoorQNF22x0
import Derived.Test.YtmkehncgjnhhcaaGreatDoorQNF22x2
import Derived.Test.YtmkehncgjnhhcaaGreatDoorQNF22x3
import Derived.Test.YtmkehncgjnhhcaaGreatDoorQNF22x4
import Derived.KernelRfl
import Derived.Test.YtmkehncgjnhhcaaGreatDoorProg
set_option linter.unusedVariables false
set_option maxRecDepth 100000
namespace Go.Proofs.YtmkehncgjnhhcaaGreatDoor
open Vc
theorem xX {α:Type}{s:Nat}:∀ {vs:List (List α)},(∀ l∈vs,l.length=s)->vs.flatten.length=vs.length * s
 | [],_=>by simp
 | l::vs,h=>by
  rw[List.flatten_cons,List.length_append,h l (by simp),xX (fun x hx=>h x (by simp[hx])),List.length_cons,Nat.succ_mul];omega
theorem xY {w:World}{v:Sl}{vs:List (List Value)}{s:Nat}(h:dr w s v vs.flatten)(qI:0<s)(hs:∀ l∈vs,l.length=s){cks:List Ck}{x:Cs cks}{i:Nat}(hx:vs[i]? = some (Cs.vals cks x)){K:Cs cks->Prop}(k:K x):
  bK v.1 v.2.1 (i:Int) s fun a=>aq cks a w K:=by
 have hl:=xX hs;rw[h.1] at hl;have hl:=Nat.eq_of_mul_eq_mul_right qI hl;have hi:=(List.getElem?_eq_some_iff.1 hx).1;cases hv:v.1 with
 | none=>have:=(h.2.1 hv).1;omega
 | some p=>exact⟨p,rfl,by omega,by omega,by rw[Int.toNat_natCast];exact h.q8 hs hx (by omega) k hv⟩
theorem mI {P:Program}{w:World}{t E s bytes:Nat}{z:Value}(he:il P t E s z bytes)(vs:List Value)(hl:vs.length=s)(hs:s<=2 ^ 24):
  ∃ (y:Sl) (w':World),(Instr.buildSlice t 1 #[(0,.agg vs.toArray)]).run P w=.ok (.slice y.1 y.2.1 y.2.2) w'/\aF w' E s y vs/\y.2.1=1/\Fr none1 w w'/\(∀ k,aw y k->w.heap.size<=k):=by
 obtain⟨y,w',a,b,c,d⟩:=Mr (w:=w) he [vs] (by simpa using hl) (by simpa using hs);rw[List.flatten_cons,List.flatten_nil,List.append_nil] at b;exact⟨y,w',a,b,c,d⟩
abbrev tY:List Ck:=[.bool,.str,.str,.int .i64,.int .i64]
abbrev O9:List Ck:=[.int .i64,.str,.int .i64]
abbrev qt (x:gx):Cs tY:=(x.1,str x.2.1,str x.2.2.1,x.2.2.2.1,x.2.2.2.2,())
abbrev ZC (x:lq):Cs O9:=(x.1,str x.2.1,x.2.2,())
def mJ (x:gx):List Value:=[.bool x.1,.string (str x.2.1),.string (str x.2.2.1),.int .i64 x.2.2.2.1,.int .i64 x.2.2.2.2]
def tZ (x:lq):List Value:=[.int .i64 x.1,.string (str x.2.1),.int .i64 x.2.2]
def jQ (l:List gx):List Value:=(l.map mJ).flatten
def lC (l:List lq):List Value:=(l.map tZ).flatten
theorem C4 (l:List gx):∀ x∈l.map mJ,x.length=5:=by intro x hx;obtain⟨y,_,rfl⟩:=List.mem_map.1 hx;rfl
theorem Pa (l:List lq):∀ x∈l.map tZ,x.length=3:=by intro x hx;obtain⟨y,_,rfl⟩:=List.mem_map.1 hx;rfl
theorem xZ (l:List gx):(jQ l).length=l.length * 5:=by unfold jQ;rw[xX (C4 l),List.length_map]
theorem C6 (l:List lq):(lC l).length=l.length * 3:=by unfold lC;rw[xX (Pa l),List.length_map]
theorem ZD (l:List gx)(x:gx):jQ (l++[x])=jQ l++mJ x:=by unfold jQ;simp
theorem ZE (l:List lq)(x:lq):lC (l++[x])=lC l++tZ x:=by unfold lC;simp
theorem ZF (l m:List gx):jQ (l++m)=jQ l++jQ m:=by unfold jQ;simp
theorem ZG (l m:List lq):lC (l++m)=lC l++lC m:=by unfold lC;simp
theorem Pb (x:gx):∀ v∈mJ x,bI v=true:=by intro v hv;simp[mJ] at hv;rcases hv with rfl | rfl | rfl | rfl | rfl<;>rfl
theorem Pc (x:lq):∀ v∈tZ x,bI v=true:=by intro v hv;simp[tZ] at hv;rcases hv with rfl | rfl | rfl<;>rfl
theorem ZH (l:List gx):∀ v∈jQ l,bI v=true:=by intro v hv;unfold jQ at hv;obtain⟨x,hx,hv⟩:=List.mem_flatten.1 hv;obtain⟨y,_,rfl⟩:=List.mem_map.1 hx;exact Pb y v hv
theorem ZI (l:List lq):∀ v∈lC l,bI v=true:=by intro v hv;unfold lC at hv;obtain⟨x,hx,hv⟩:=List.mem_flatten.1 hv;obtain⟨y,_,rfl⟩:=List.mem_map.1 hx;exact Pc y v hv
theorem H9:il Tryz.prog 151 154 5 (.agg #[.bool false,.string ⟨#[]⟩,.string ⟨#[]⟩,.int .i64 0,.int .i64 0]) 56:=⟨Tryz.underlying151,⟨Tryz.t154,by kernel_rfl,rfl,rfl,rfl⟩,rfl,by decide⟩
theorem Ia:il Tryz.prog 163 219 3 (.agg #[.int .i64 0,.string ⟨#[]⟩,.int .i64 0]) 32:=⟨Tryz.underlying163,⟨Tryz.t219,by kernel_rfl,rfl,rfl,rfl⟩,rfl,by decide⟩
def x0 (x:gx):List Pv:=[.b x.1,.s x.2.1,.s x.2.2.1,.i x.2.2.2.1,.i x.2.2.2.2]
theorem ZJ {x y:gx}(h:x0 x=x0 y):x=y:=by
 obtain⟨a,b,c,d,e⟩:=x;obtain⟨a',b',c',d',e'⟩:=y;simp only[x0,List.cons.injEq,Pv.b.injEq,Pv.s.injEq,Pv.i.injEq,and_true] at h;obtain⟨rfl,rfl,rfl,rfl,rfl⟩:=h;rfl
theorem Pd (a:gx):vH Tryz.prog 154 (x0 a):=by
 have hf:∃ fs,Tryz.prog.underlying 154=some (.struct fs)/\Tryz.prog.fieldsOf 154=fs:=by
  unfold Program.fieldsOf;rw[Tryz.underlying154];exact⟨_,rfl,rfl⟩
 refine⟨by obtain⟨fs,h1,h2⟩:=hf;rw[h1,h2],by kernel_rfl,by kernel_rfl,?_⟩;unfold Program.fieldsOf;rw[Tryz.underlying154];exact⟨by decide,rfl,Tryz.underlying4,by decide,rfl,Tryz.underlying9,by decide,rfl,Tryz.underlying9,by decide,rfl,Tryz.underlying3,by decide,rfl,Tryz.underlying3,trivial⟩
theorem ZK {w:World}{v:Sl}{l:List gx}(h:dr w 5 v (jQ l))(hl:l.length<=100000000)(y:gx):
  Ret Tryz.prog 358 #[.slice v.1 v.2.1 v.2.2,.agg (mJ y).toArray] w fun r w'=>(∃ i:Int,r=.int .i64 i/\decide (i >= 0)=decide (y∈l))/\Fr none1 w w':=by
 have hlen:v.2.1=l.length:=by have:=h.1;rw[xZ] at this;omega
 refine c358 v.1 v.2.1 v.2.2 (qt y) w _ ?_;refine ak.of fun g w1 hg hb f1 _=>?_;refine bw.of (fun st w'=>∃ i:Nat,st.1=i/\i<=l.length/\y ∉ l.take i/\Fr none1 w1 w') (fun st _=>(v.2.1 - st.1).toNat) ⟨0,rfl,Nat.zero_le _,by simp,Fr.refl _ _⟩ ?_;rintro _ ⟨i',_⟩ w2 ⟨i,hi,ja,gS,f2⟩;dsimp only at hi ⊢;subst hi;refine aa.dec (fun aS=>?_) (fun dQ=>?_)
 ·have fB:i<l.length:=by omega
  obtain⟨x,hx⟩:∃ x,l[i]? = some x:=⟨_,List.getElem?_eq_getElem fB⟩;refine aD.of fun w3 _ f3=>aq.aE (cks:=tY) (x:=qt y) (f3.af (f2.af hb)) ?_;have h3:=((h.af f1).af f2).af f3;refine xY (cks:=tY) (x:=qt x) h3 (by decide) (C4 l) (by rw[List.getElem?_map,hx];rfl) ?_;have he:=Y9 (Pd y) (Pd x) (.tmp 11) (.tmp 15) w3;refine⟨decide (x0 y=x0 x),w3,he,aa.dec (fun he=>?_) (fun ay=>?_)⟩
  ·have:=ZJ he
   subst this;refine⟨⟨(i:Int),rfl,?_⟩,(f1.trans f2).trans f3⟩;rw[decide_eq_true (by omega),decide_eq_true (List.mem_of_getElem? hx)]
  ·refine⟨⟨i+1,by rw[wI (by omega) (by omega)];omega,by omega,?_,f2.trans f3⟩,by rw[wI (by omega) (by omega)];omega⟩
   rw[List.take_add_one,hx];simp only[Option.toList_some,List.mem_append,List.mem_singleton];rintro(t | t)
   ·exact gS t
   ·exact ay (by rw[t])
 ·refine⟨⟨-1,rfl,?_⟩,f1.trans f2⟩
  rw[List.take_of_length_le (by omega)] at gS;rw[decide_eq_false gS];rfl
theorem ZL {w:World}{v:Sl}{l:List gx}(h:dr w 5 v (jQ l))(hl:l.length<=100000000)(y:gx):
  Ret Tryz.prog 340 #[.slice v.1 v.2.1 v.2.2,.agg (mJ y).toArray] w fun r w'=>r=.bool (decide (y∈l))/\Fr none1 w w':=by
 refine c340 v.1 v.2.1 v.2.2 (qt y) w _ ?_;refine ak.of fun g w1 hg hb f1 _=>aq.aE (cks:=tY) (x:=qt y) hb ?_;refine ab.of (ZK (h.af f1) hl y) ?_;rintro _ w2 ⟨⟨i,rfl,hi⟩,f2⟩;exact⟨i,rfl,by rw[hi],f1.trans f2⟩
structure nE (w:World)(B g b:Nat)(F:Nat->Prop)(id:List UInt8)(m:da)(x:iF)(fl wl:Sl):Prop where
 aE:w.heap[g]? = some (.cells #[.string (str id),.pointer (some ⟨b,0,none⟩),.slice fl.1 fl.2.1 fl.2.2,.slice wl.1 wl.2.1 wl.2.2] 413 (0,0))
 ya:aF w 219 3 fl (lC x.1)
 waits:aF w 154 5 wl (jQ x.2)
 ox:∀ k,aw fl k->B<=k/\k≠g
 k8:∀ k,aw wl k->B<=k/\k≠g/\¬ aw fl k
 wr:ig w F b m
 low:∀ k,F k->k<B
 mem:B<=g
theorem nE.af {w w':World}{B g b:Nat}{F:Nat->Prop}{id:List UInt8}{m:da}{x:iF}{fl wl:Sl}(h:nE w B g b F id m x fl wl)(f:Fr none1 w w'):nE w' B g b F id m x fl wl:=
 ⟨f.af h.aE,h.ya.af f,h.waits.af f,h.ox,h.k8,h.wr.af f,h.low,h.mem⟩
def mK (w:World)(B g b:Nat)(F:Nat->Prop)(id:List UInt8)(m:da)(x:iF):Prop:=∃ fl wl,nE w B g b F id m x fl wl
theorem mK.af {w w':World}{B g b:Nat}{F:Nat->Prop}{id:List UInt8}{m:da}{x:iF}(h:mK w B g b F id m x)(f:Fr none1 w w'):mK w' B g b F id m x:=by
 obtain⟨fl,wl,h⟩:=h;exact⟨fl,wl,h.af f⟩
def sJ (B:Nat):Nat->Prop:=fun k=>B<=k
theorem Vc.Fr.oy {B:Nat}{w w':World}(f:Fr none1 w w'):Fr (sJ B) w w':=f.mono fun _ _ t=>t.elim
def pn (g:Nat)(wl:Sl):Nat->Prop:=fun k=>k=g\/aw wl k
theorem nE.pn {w:World}{B g b:Nat}{F:Nat->Prop}{id:List UInt8}{m:da}{x:iF}{fl wl:Sl}(h:nE w B g b F id m x fl wl){k:Nat}(q:pn g wl k):B<=k/\k<w.heap.size:=by
 rcases q with rfl | q
 ·exact⟨h.mem,bQ h.aE⟩
 ·exact⟨(h.k8 k q).1,aF.lt h.waits q⟩
theorem Ib {w:World}{B g b:Nat}{F:Nat->Prop}{id:List UInt8}{m:da}{x:iF}{fl wl:Sl}(h:nE w B g b F id m x fl wl)(y:gx)(hl:x.2.length<=10000000){S:Nat->Prop}{K:World->Prop}
  (k:∀ w' yc,nE w' B g b F id m (x.1,x.2++[y]) fl yc->(∀ k,aw yc k->aw wl k\/w.heap.size<=k)->Fr (pn g wl) w w'->K w') :
  az Tryz.prog (Instr.buildSlice 151 1 #[(0,.agg (mJ y).toArray)]) w (.v (.one .aj)) fun(u:Option Addr×Nat×Nat) w1=>ai S w w1 (az Tryz.prog (Builtin.append_ #[151,151] 151 #[.slice wl.1 wl.2.1 wl.2.2,.slice u.1 u.2.1 u.2.2]) w1 (.v (.one .aj)) fun(v:Option Addr×Nat×Nat) w2=>
   aA ((⟨g,0,none⟩:Addr).add 3) (.slice v.1 v.2.1 v.2.2) w2 fun w3=>K w3):=by
 obtain⟨u,w1,hr,hu,dm,f1,uf⟩:=mI (P:=Tryz.prog) (w:=w) H9 (mJ y) rfl (by decide);refine⟨u,w1,hr,ai.of f1 ?_⟩;have nF:=h.waits.len;rw[xZ] at nF;obtain⟨v,w2,gb,hv,cM,f2,vf⟩:=gA H9 151 (h.waits.af f1) hu.rd (Pb y) (by rw[dm];omega);refine⟨v,w2,gb,?_⟩;have vk:¬ aw wl g:=fun q=>(h.k8 g q).2.1 rfl;have aK:=f2.ag (f1.af h.aE) vk;refine aA.ah aK (show 3<4 by decide) rfl fun w3 aU f3 _=>?_;have gl:=bQ h.aE;have s1:=f1.size;have s2:=f2.size;have iC:∀ k,aw v k->aw wl k\/w.heap.size<=k:=fun k U=>(vf k U).imp_right fun q=>Nat.le_trans s1 q;have vM:∀ k,aw v k->B<=k/\k≠g/\¬ aw fl k:=fun k U=>by
  rcases iC k U with q | q
  ·exact h.k8 k q
  ·exact⟨by have:=h.mem;omega,by omega,fun t=>by have:=aF.lt h.ya t;omega⟩
 refine k w3 v ⟨aU,((h.ya.af f1).ag f2 fun k U q=>(h.k8 k q).2.2 U).ag f3 (fun k U q=>(h.ox k U).2 q),?_,h.ox,vM,((h.wr.af f1).ag f2 fun k U q=>by have:=h.low k U;have:=(h.k8 k q).1;omega).ag f3 (fun k U q=>by have:=h.low k U;have:=h.mem;have:k=g:=q;omega),h.low,h.mem⟩ iC ?_
 ·dsimp only
  rw[ZD];exact hv.ag f3 fun k U q=>(vM k U).2.1 q
 ·refine((f1.mono fun _ _ t=>t.elim).comp f2 fun k _ q=>.inr q).comp f3 fun k _ q=>.inl q
theorem ZM {w:World}{B g b:Nat}{F:Nat->Prop}{id:List UInt8}{m:da}{x:iF}{fl wl:Sl}(h:nE w B g b F id m x fl wl)(y:lq)(hl:x.1.length<=10000000){S:Nat->Prop}{K:World->Prop}
  (k:∀ w' ZN,nE w' B g b F id m (x.1++[y],x.2) ZN wl->Fr (sJ B) w w'->K w') :
  az Tryz.prog (Instr.buildSlice 163 1 #[(0,.agg (tZ y).toArray)]) w (.v (.one .aj)) fun(u:Option Addr×Nat×Nat) w1=>ai S w w1 (az Tryz.prog (Builtin.append_ #[163,163] 163 #[.slice fl.1 fl.2.1 fl.2.2,.slice u.1 u.2.1 u.2.2]) w1 (.v (.one .aj)) fun(v:Option Addr×Nat×Nat) w2=>
   aA ((⟨g,0,none⟩:Addr).add 2) (.slice v.1 v.2.1 v.2.2) w2 fun w3=>K w3):=by
 obtain⟨u,w1,hr,hu,dm,f1,uf⟩:=mI (P:=Tryz.prog) (w:=w) Ia (tZ y) rfl (by decide);refine⟨u,w1,hr,ai.of f1 ?_⟩;have nF:=h.ya.len;rw[C6] at nF;obtain⟨v,w2,gb,hv,cM,f2,vf⟩:=gA Ia 163 (h.ya.af f1) hu.rd (Pc y) (by rw[dm];omega);refine⟨v,w2,gb,?_⟩;have vk:¬ aw fl g:=fun q=>(h.ox g q).2 rfl;have aK:=f2.ag (f1.af h.aE) vk;refine aA.ah aK (show 2<4 by decide) rfl fun w3 aU f3 _=>?_;have gl:=bQ h.aE;have s1:=f1.size;have s2:=f2.size;have vM:∀ k,aw v k->B<=k/\k≠g/\¬ aw wl k:=fun k U=>by
  rcases vf k U with q | q
  ·exact⟨(h.ox k q).1,(h.ox k q).2,fun t=>(h.k8 k t).2.2 q⟩
  ·exact⟨by have:=h.mem;omega,by omega,fun t=>by have:=aF.lt h.waits t;omega⟩
 refine k w3 v ⟨aU,?_,((h.waits.af f1).ag f2 fun k U q=>(h.k8 k U).2.2 q).ag f3 (fun k U q=>(h.k8 k U).2.1 q),fun k U=>⟨(vM k U).1,(vM k U).2.1⟩,fun k U=>⟨(h.k8 k U).1,(h.k8 k U).2.1,fun t=>(vM k t).2.2 U⟩,((h.wr.af f1).ag f2 fun k U q=>by have:=h.low k U;have:=(h.ox k q).1;omega).ag f3 (fun k U q=>by have:=h.low k U;have:=h.mem;have:k=g:=q;omega),h.low,h.mem⟩ ?_
 ·dsimp only
  rw[ZE];exact hv.ag f3 fun k U q=>(vM k U).2.1 q
 ·refine((f1.mono fun _ _ t=>t.elim).comp f2 fun k _ q=>(h.ox k q).1).comp f3 fun k _ q=>by have:k=g:=q;rw[this];exact h.mem
theorem ZO {w:World}{B g b:Nat}{F:Nat->Prop}{id:List UInt8}{m:da}{x:iF}{fl wl:Sl}(h:nE w B g b F id m x fl wl)(d:Int){v:Sl}{l:List (List UInt8)}(hv:gE w v l)(Pe:∀ k,aw v k->k≠g/\¬ aw wl k)(hl:x.2.length+l.length<=1000000):
  Ret Tryz.prog 323 #[.pointer (some ⟨g,0,none⟩),.int .i64 d,.slice v.1 v.2.1 v.2.2] w fun r w'=>r=.tuple #[]/\mK w' B g b F id m (x.1,lr d l x.2)/\Fr (pn g wl) w w':=by
 refine c323 _ d v.1 v.2.1 v.2.2 w _ ?_;have hlen:=hv.len;refine bw.of (fun st w'=>∃ (i:Nat) (yc:Sl),st.1=i/\i<=l.length/\nE w' B g b F id m (x.1,lr d (l.take i) x.2) fl yc/\(∀ k,aw v k->¬ aw yc k)/\gE w' v l/\Fr (pn g wl) w w'/\(∀ k,aw yc k->aw wl k\/w.heap.size<=k)) (fun st _=>(v.2.1 - st.1).toNat)
  ⟨0,wl,rfl,Nat.zero_le _,h,fun k U=>(Pe k U).2,hv,Fr.refl _ _,fun k U=>.inl U⟩ ?_
 rintro _ ⟨i',_⟩ w1 ⟨i,Ic,hi,ja,h1,C3,tv,f1,Ie⟩;dsimp only at hi ⊢;subst hi;refine aa.dec (fun aS=>?_) (fun dQ=>?_)
 rotate_left
 ·rw[List.take_of_length_le (by omega)] at h1
  exact⟨rfl,⟨_,_,h1⟩,f1⟩
 have fB:i<l.length:=by omega
 obtain⟨s,hs⟩:∃ s,l[i]? = some s:=⟨_,List.getElem?_eq_getElem fB⟩;have ku:lr d (l.take (i+1)) x.2=if(false,s,[],d,0)∈lr d (l.take i) x.2 then lr d (l.take i) x.2 else lr d (l.take i) x.2++[(false,s,[],d,0)]:=AD _ _ _ hs _;have EP:(lr d (l.take i) x.2).length<=x.2.length+l.length:=by
  obtain⟨new,e,hn⟩:=An d (l.take i) x.2;rw[e,List.length_append];rw[List.length_take] at hn;omega
 generalize lr d (l.take i) x.2=ws at *;refine tv.ld hs ?_;refine cK (zs:=[.bool false,.string (⟨#[]⟩:ByteArray),.string (⟨#[]⟩:ByteArray),.int .i64 0,.int .i64 0]) (vs:=mJ (false,s,[],d,0)) rfl rfl fun g6 w2 HJ fI f2=>?_;refine aD.of fun w3 _ f3=>?_;have f23:=f2.trans f3;have h3:=h1.af f23;refine ae.ah h3.aE (x:=Ic) rfl (aq.aE (cks:=tY) (x:=qt (false,s,[],d,0)) (f3.af fI) ?_);refine ab.of (ZL (aF.rd h3.waits) (by dsimp only;omega) (false,s,[],d,0)) ?_;rintro _ w4 ⟨rfl,f4⟩;have f24:=f23.trans f4;have h4:=h3.af f4;refine⟨_,rfl,aa.not (aa.dec (fun hm=>?_) (fun hm=>?_))⟩
 ·rw[if_pos hm] at ku
  exact⟨⟨i+1,Ic,by rw[wI (by omega) (by omega)];omega,by omega,by rw[ku];exact h4,C3,tv.af f24,f1.dh f24,Ie⟩,by rw[wI (by omega) (by omega)];omega⟩
 rw[if_neg hm] at ku;refine aD.of fun w5 _ f5=>aV.of (fun k=>k=g\/k=g6) ?_;have f25:=f24.trans f5;have h5:=h4.af f5;refine⟨by rw[dP];exact .inl rfl,ae.ah h5.aE (x:=Ic) rfl ⟨.inr rfl,aq.aE (cks:=tY) (x:=qt (false,s,[],d,0)) ((f4.trans f5).af (f3.af fI)) ?_⟩⟩;refine Ib h5 (false,s,[],d,0) (by dsimp only;omega) fun w6 ZP h6 Pf f6=>?_;refine⟨⟨i+1,ZP,by rw[wI (by omega) (by omega)];omega,by omega,by rw[ku];exact h6,fun k U q=>?_,?_,(f1.dh f25).comp f6 fun k aS q=>?_,fun k U=>?_⟩,by rw[wI (by omega) (by omega)];omega⟩
 ·rcases Pf k q with t | t
  ·exact C3 k U t
  ·have:=aF.lt (tv.af f25) U;omega
 ·refine aF.ag (tv.af f25) f6 fun k U q=>?_
  rcases q with rfl | q
  ·exact(Pe _ U).1 rfl
  ·exact C3 k U q
 ·rcases q with rfl | q
  ·exact .inl rfl
  ·rcases Ie k q with t | t
   ·exact .inr t
   ·omega
 ·rcases Pf k U with t | t
  ·exact Ie k t
  ·have:=f1.size;have:=f25.size;exact .inr (by omega)
theorem Pg (d:Int)(o:Ob)(hn:bA o<=1000000){w:World}{B g b:Nat}{F:Nat->Prop}{id:List UInt8}{m:da}{x:iF}{fl wl:Sl}(h:nE w B g b F id m x fl wl)(hl:x.2.length+bA o<=1000000):
  Ret Tryz.prog 306 #[.pointer (some ⟨g,0,none⟩),o.v,.int .i64 d] w fun r w'=>r=.tuple #[.int .i64 (fj m d o).1,.bool (fj m d o).2.1,.int .i64 (fj m d o).2.2] /\
   mK w' B g b F id m (if(fj m d o).2.2=0/\(fj m d o).2.1=false then(x.1,lr d (np m d o) x.2) else x)/\Fr (pn g wl) w w':=by
 refine c306 _ o.v d w _ ?_;refine ae.ah h.aE (x:=some ⟨b,0,none⟩) rfl ?_;refine ab.of (Zt d o hn h.wr) ?_;rintro _ w1 ⟨rfl,f1⟩;have ay:=HC m d o;generalize fj m d o=X;refine⟨(X.1,X.2.1,X.2.2,()),rfl,?_⟩;have h1:=h.af f1;refine aa.eq (fun he=>aa.not (aa.by (fun U=>?_) (fun U=>?_))) (fun he=>?_)
 ·have U:X.2.1=true:=U
  rw[if_neg (by rw[U];simp)];exact⟨rfl,⟨_,_,h1⟩,f1.mono fun _ _ t=>t.elim⟩
 ·have U:X.2.1=false:=U
  have he:X.2.2=0:=he;rw[if_pos ⟨he,U⟩];refine ae.ah h1.aE (x:=some ⟨b,0,none⟩) rfl ?_;refine ab.of (ZB d o hn h1.wr) ?_;rintro _ w2 ⟨v,rfl,hv,f2,vf⟩;refine⟨v,rfl,?_⟩;have h2:=h1.af f2;refine ab.of (ZO h2 d hv (fun k U=>⟨fun e=>?_,fun q=>?_⟩) (by omega)) ?_
  ·have:=vf k U;have:=bQ h1.aE;omega
  ·have:=vf k U;have:=aF.lt h1.waits q;omega
  rintro _ w3 ⟨rfl,h3,f3⟩;exact⟨(),rfl,rfl,h3,(f1.trans f2).eL f3⟩
 ·have he:¬ X.2.2=0:=he
  rw[if_neg (fun t=>he t.1)];exact⟨rfl,⟨_,_,h1⟩,f1.mono fun _ _ t=>t.elim⟩
def ua (id:List UInt8)(m:da)(t:Tm):Prop:=
 ∀ {w:World} {B g b:Nat} {F:Nat->Prop} {x:iF} (d k:Int),mK w B g b F id m x->cH k=true->aJ t<=100000->x.1.length+aJ t<=1000000->x.2.length+aJ t<=1000000 ->
  Ret Tryz.prog 258 #[.pointer (some ⟨g,0,none⟩),t.v,.int .i64 d,.int .i64 k] w fun r w'=>r=.int .i64 (cB id m t d k x).2/\mK w' B g b F id m (cB id m t d k x).1/\Fr (sJ B) w w'
theorem ZQ {id:List UInt8}{m:da}{l r:Tm}(hl:ua id m l)(hr:ua id m r){w:World}{B g b:Nat}{F:Nat->Prop}{x:iF}(d k:Int)(h:mK w B g b F id m x)(U:cH k=true)(hn:aJ l+aJ r<=100000)
  (h1:x.1.length+(aJ l+aJ r)<=1000000) (h2:x.2.length+(aJ l+aJ r)<=1000000) :
  Ret Tryz.prog 282 #[.pointer (some ⟨g,0,none⟩),l.v,r.v,.int .i64 d,.int .i64 k] w fun r' w'=>r'=.int .i64 (cB id m (.and l r) d k x).2/\mK w' B g b F id m (cB id m (.and l r) d k x).1/\Fr (sJ B) w w':=by
 refine c282 _ l.v r.v d k w _ ?_;unfold C282;refine ab.of (hl d k h U (by omega) (by omega) (by omega)) ?_;obtain⟨fs,ws,e1,e2,e3,_⟩:=N1 id m l d k x;have e:cB id m (.and l r) d k x=if(cB id m l d k x).2≠0 then cB id m l d k x else cB id m r d k (cB id m l d k x).1:=by conv=>lhs;unfold cB
 rw[e];clear e;have l1:(cB id m l d k x).1.1.length<=x.1.length+aJ l:=by rw[e1];simp;omega
 have l2:(cB id m l d k x).1.2.length<=x.2.length+aJ l:=by rw[e1];simp;omega
 clear e1;generalize cB id m l d k x=X at *;rintro _ w1 ⟨rfl,h3,f1⟩;refine⟨X.2,rfl,aa.ne (fun ay=>?_) (fun he=>?_)⟩
 ·rw[if_pos ay];exact⟨rfl,h3,f1⟩
 rw[if_neg (fun t=>t he)];refine ab.of (hr d k h3 U (by omega) (by omega) (by omega)) ?_;rintro _ w2 ⟨rfl,h4,f2⟩;exact⟨_,rfl,rfl,h4,f1.trans f2⟩
theorem ZR {id:List UInt8}{m:da}(o:Ob){t:Tm}(ht:ua id m t){w:World}{B g b:Nat}{F:Nat->Prop}{x:iF}(d k:Int)(h:mK w B g b F id m x)(hn:bA o+aJ t<=100000)
  (h1:x.1.length+(bA o+aJ t)<=1000000) (h2:x.2.length+(bA o+aJ t)<=1000000) :
  Ret Tryz.prog 283 #[.pointer (some ⟨g,0,none⟩),.agg #[o.v,t.v],.int .i64 d,.int .i64 k] w fun r' w'=>r'=.int .i64 (cB id m (.scale o t) d k x).2/\mK w' B g b F id m (cB id m (.scale o t) d k x).1/\Fr (sJ B) w w':=by
 refine c283 _ (o.v,t.v,()) d k w _ ?_;unfold C283;refine ak.of fun g1 w1 df au f1 _=>ae.ah (c:=.raw) au (x:=o.v) rfl ?_;obtain⟨fl,wl,h⟩:=h;refine ab.of (Pg d o (by omega) (h.af f1) (by omega)) ?_;have e:cB id m (.scale o t) d k x=if(fj m d o).2.2≠0 then(x,(fj m d o).2.2) else if(fj m d o).2.1=false then((x.1,lr d (np m d o) x.2),0) else if(kS k (fj m d o).1).2=false then(x,6) else if(kS k (fj m d o).1).1=0 then(x,0) else cB id m t d (kS k (fj m d o).1).1 x:=by conv=>lhs;unfold cB
 rw[e];clear e;generalize fj m d o=X;rintro _ w2 ⟨rfl,h3,f2⟩;have f12:Fr (sJ B) w w2:=f1.oy.comp f2 fun k _ q=>((h.af f1).pn q).1;have aK:=f2.ag au (fun q=>by have:=(h.pn q).2;omega);refine⟨(X.1,X.2.1,X.2.2,()),rfl,aa.ne (fun ay=>?_) (fun he=>?_)⟩
 ·have ay:X.2.2≠0:=ay
  rw[if_neg (fun t=>ay t.1)] at h3;rw[if_pos ay];exact⟨rfl,h3,f12⟩
 have he:X.2.2=0:=he;rw[if_neg (fun t=>t he)];refine aa.not (aa.by (fun hq=>?_) (fun hq=>?_))
 rotate_left
 ·have hq:X.2.1=false:=hq
  rw[if_pos ⟨he,hq⟩] at h3;rw[if_pos hq];exact⟨by rw[he],h3,f12⟩
 have hq:X.2.1=true:=hq;rw[if_neg (by rw[hq];simp)] at h3;rw[if_neg (by rw[hq];simp)];refine ab.of (O3 k X.1 w2) ?_;rintro _ _ ⟨rfl,rfl⟩;have ZS:=NY (a:=k) (b:=X.1);generalize kS k X.1=Y at *;refine⟨(Y.1,Y.2,()),rfl,aa.not (aa.by (fun hy=>?_) (fun hy=>?_))⟩
 rotate_left
 ·have hy:Y.2=false:=hy
  rw[if_pos hy];exact⟨rfl,h3,f12⟩
 have hy:Y.2=true:=hy;rw[if_neg (by rw[hy];simp)];refine aa.eq (fun hz=>?_) (fun hz=>?_)
 ·have hz:Y.1=0:=hz
  rw[if_pos hz];exact⟨rfl,h3,f12⟩
 have hz:¬ Y.1=0:=hz;rw[if_neg hz];refine ae.ah (c:=.raw) aK (x:=t.v) rfl ?_;refine ab.of (ht d Y.1 h3 (by have:=ZS hy;rw[this.2.2.2];exact this.2.2.1) (by omega) (by omega) (by omega)) ?_;rintro _ w3 ⟨rfl,h4,f3⟩;exact⟨_,rfl,rfl,h4,f12.trans f3⟩
theorem ZT {id:List UInt8}{m:da}(o:Ob){l r:Tm}(hl:ua id m l)(hr:ua id m r){w:World}{B g b:Nat}{F:Nat->Prop}{x:iF}(d k:Int)(h:mK w B g b F id m x)(U:cH k=true)(hn:bA o+aJ l+aJ r<=100000)
  (h1:x.1.length+(bA o+aJ l+aJ r)<=1000000) (h2:x.2.length+(bA o+aJ l+aJ r)<=1000000) :
  Ret Tryz.prog 284 #[.pointer (some ⟨g,0,none⟩),.agg #[o.v,l.v,r.v],.int .i64 d,.int .i64 k] w fun r' w'=>r'=.int .i64 (cB id m (.cond o l r) d k x).2/\mK w' B g b F id m (cB id m (.cond o l r) d k x).1/\Fr (sJ B) w w':=by
 refine c284 _ (o.v,l.v,r.v,()) d k w _ ?_;unfold C284;refine ak.of fun g1 w1 df au f1 _=>ae.ah (c:=.raw) au (x:=o.v) rfl ?_;obtain⟨fl,wl,h⟩:=h;refine ab.of (Pg d o (by omega) (h.af f1) (by omega)) ?_;have e:cB id m (.cond o l r) d k x=if(fj m d o).2.2≠0 then(x,(fj m d o).2.2) else if(fj m d o).2.1=false then((x.1,lr d (np m d o) x.2),0) else if 0<(fj m d o).1 then cB id m l d k x else cB id m r d k x:=by conv=>lhs;unfold cB
 rw[e];clear e;generalize fj m d o=X;rintro _ w2 ⟨rfl,h3,f2⟩;have f12:Fr (sJ B) w w2:=f1.oy.comp f2 fun k _ q=>((h.af f1).pn q).1;have aK:=f2.ag au (fun q=>by have:=(h.pn q).2;omega);refine⟨(X.1,X.2.1,X.2.2,()),rfl,aa.ne (fun ay=>?_) (fun he=>?_)⟩
 ·have ay:X.2.2≠0:=ay
  rw[if_neg (fun t=>ay t.1)] at h3;rw[if_pos ay];exact⟨rfl,h3,f12⟩
 have he:X.2.2=0:=he;rw[if_neg (fun t=>t he)];refine aa.not (aa.by (fun hq=>?_) (fun hq=>?_))
 rotate_left
 ·have hq:X.2.1=false:=hq
  rw[if_pos ⟨he,hq⟩] at h3;rw[if_pos hq];exact⟨by rw[he],h3,f12⟩
 have hq:X.2.1=true:=hq;rw[if_neg (by rw[hq];simp)] at h3;rw[if_neg (by rw[hq];simp)];refine aa.dec (fun hz=>?_) (fun hz=>?_)
 ·rw[if_pos (by exact hz)]
  refine ae.ah (c:=.raw) aK (x:=l.v) rfl ?_;refine ab.of (hl d k h3 U (by omega) (by omega) (by omega)) ?_;rintro _ w3 ⟨rfl,h4,f3⟩;exact⟨_,rfl,rfl,h4,f12.trans f3⟩
 ·rw[if_neg (by exact hz)]
  refine ae.ah (c:=.raw) aK (x:=r.v) rfl ?_;refine ab.of (hr d k h3 U (by omega) (by omega) (by omega)) ?_;rintro _ w3 ⟨rfl,h4,f3⟩;exact⟨_,rfl,rfl,h4,f12.trans f3⟩
theorem Ig (a b:Int):(if b > a then b else a)=max a b:=by
 rw[Int.max_def];split<;>split<;>omega
theorem ZU {id:List UInt8}{m:da}(s:List UInt8){l r:Tm}(hl:ua id m l)(hr:ua id m r){w:World}{B g b:Nat}{F:Nat->Prop}{x:iF}(d k:Int)(h:mK w B g b F id m x)(U:cH k=true)(hn:aJ l+aJ r<=100000)
  (h1:x.1.length+(aJ l+aJ r)<=1000000) (h2:x.2.length+(aJ l+aJ r)<=1000000) :
  Ret Tryz.prog 285 #[.pointer (some ⟨g,0,none⟩),.agg #[.string (str s),l.v,r.v],.int .i64 d,.int .i64 k] w fun r' w'=>r'=.int .i64 (cB id m (.or s l r) d k x).2/\mK w' B g b F id m (cB id m (.or s l r) d k x).1/\Fr (sJ B) w w':=by
 refine c285 _ (str s,l.v,r.v,()) d k w _ ?_;unfold C285;obtain⟨fl,wl,h⟩:=h;refine ak.of fun g1 w1 df au f1 _=>aD.of fun w2 _ f2=>aV.all ?_;have f12:=f1.trans f2;have hh:=h.af f12;refine av.all (ae.ah hh.aE (x:=some ⟨b,0,none⟩) rfl (av.all (ae.ah hh.aE (x:=str id) rfl (av.all (ae.ah (f2.af au) (x:=str s) rfl ?_)))));refine ab.of (Zi hh.wr id s) ?_;have e:cB id m (.or s l r) d k x=match bq (id,s) m.ch with
  | none=>((x.1,x.2++[(true,[],s,d,if 0<k then 0 else 1)]),0)
  | some (p,since)=>if p=0 then cB id m l (max d since) k x else cB id m r (max d since) k x:=rfl
 rw[e];clear e;rintro _ w3 ⟨rfl,f3⟩;have f13:=f12.trans f3;have h3:=hh.af f3;refine⟨(((bq (id,s) m.ch).getD (0,0)).1,((bq (id,s) m.ch).getD (0,0)).2,(bq (id,s) m.ch).isSome,()),rfl,?_⟩;have aU:=(f2.trans f3).af au;refine cq.of (fun st w'=>st.1=(!(bq (id,s) m.ch).isSome&&decide (0<k))/\w3=w') ?_ ?_
 ·refine aa.not (aa.by (fun hs=>?_) (fun hs=>?_))
  ·have hs:(bq (id,s) m.ch).isSome=true:=hs
   rw[hs];exact⟨rfl,rfl⟩
  ·have hs:(bq (id,s) m.ch).isSome=false:=hs
   rw[hs];exact⟨rfl,rfl⟩
 rintro _ ⟨st,_⟩ _ ⟨dz,rfl⟩;dsimp only at dz ⊢;subst dz;cases hc:bq (id,s) m.ch with
 | none=>
  dsimp only[Option.isSome,Option.getD];refine aa.by (fun j9=>?_) (fun j9=>?_)
  ·have j9:0<k:=by simpa using j9
   rw[if_pos j9];refine aD.of fun w4 _ f4=>aV.all ?_;have h4:=h3.af f4;refine av.all (ae.ah h4.aE (x:=wl) rfl (av.all (ae.ah (f4.af aU) (x:=str s) rfl ?_)));refine Ib h4 (true,[],s,d,0) (by omega) fun w5 ZV h5 _ f5=>?_;exact⟨rfl,⟨_,_,h5⟩,(f13.trans f4).oy.comp f5 fun k _ q=>(h4.pn q).1⟩
  ·have j9:¬ 0<k:=by simpa using j9
   rw[if_neg j9];refine aa.t rfl ?_;refine aD.of fun w4 _ f4=>aV.all ?_;have h4:=h3.af f4;refine av.all (ae.ah h4.aE (x:=wl) rfl (av.all (ae.ah (f4.af aU) (x:=str s) rfl ?_)));refine Ib h4 (true,[],s,d,1) (by omega) fun w5 ZV h5 _ f5=>?_;exact⟨rfl,⟨_,_,h5⟩,(f13.trans f4).oy.comp f5 fun k _ q=>(h4.pn q).1⟩
 | some p=>
  obtain⟨p,since⟩:=p;dsimp only[Option.isSome,Option.getD];refine aa.f rfl (aa.f rfl (aa.eq (fun hp=>?_) (fun hp=>?_)))
  ·have hp:p=0:=hp
   rw[if_pos hp];refine ae.ah (c:=.raw) aU (x:=l.v) rfl ?_;rw[Ig];refine ab.of (hl (max d since) k ⟨_,_,h3⟩ U (by omega) (by omega) (by omega)) ?_;rintro _ w4 ⟨rfl,h4,f4⟩;exact⟨_,rfl,rfl,h4,f13.oy.trans f4⟩
  ·have hp:¬ p=0:=hp
   rw[if_neg hp];refine ae.ah (c:=.raw) aU (x:=r.v) rfl ?_;rw[Ig];refine ab.of (hr (max d since) k ⟨_,_,h3⟩ U (by omega) (by omega) (by omega)) ?_;rintro _ w4 ⟨rfl,h4,f4⟩;exact⟨_,rfl,rfl,h4,f13.oy.trans f4⟩
theorem ZW (id:List UInt8)(m:da):∀ t:Tm,ua id m t:=by
 intro t
 induction t with
 | none=>
  intro w B g b F x d k h U hn h1 h2;refine c258 _ _ d k w _ ?_;exact ao.nil rfl (ao.nil rfl (ao.nil rfl (ao.nil rfl (ao.nil rfl (ao.nil rfl (ao.nil rfl ⟨rfl,h,Fr.refl _ _⟩))))))
 | zero=>
  intro w B g b F x d k h U hn h1 h2;refine c258 _ _ d k w _ ?_;exact ao.aL rfl (by decide) (ao.aL rfl (by decide) (ao.aL rfl (by decide) (ao.aL rfl (by decide) (ao.aL rfl (by decide) (ao.aL rfl (by decide) (ao.aL rfl (by decide) (⟨rfl,h,Fr.refl _ _⟩)))))))
 | one s=>
  intro w B g b F x d k h U hn h1 h2;refine c258 _ _ d k w _ ?_;obtain⟨fl,wl,h⟩:=h;refine ao.hit (str s,()) rfl (cK (zs:=[.string (⟨#[]⟩:ByteArray)]) (vs:=[.string (str s)]) rfl rfl fun g1 w1 df au f1=>aD.of fun w2 _ f2=>aV.all ?_);have h3:=(h.af f1).af f2;refine av.all (ae.ah h3.aE (x:=fl) rfl (av.all (ae.ah (f2.af au) (x:=str s) rfl ?_)));refine ZM h3 (d,s,k) (by unfold aJ at h1;omega) fun w3 fl3 h4 f4=>?_;exact⟨rfl,⟨_,_,h4⟩,(f1.trans f2).oy.trans f4⟩
 | gD t ih=>
  intro w B g b F x d k h U hn h1 h2;unfold aJ at hn h1 h2;refine c258 _ _ d k w _ ?_;refine ao.aL rfl (by decide) (ao.hit (t.v,()) rfl (cK (zs:=[.nilIface]) (vs:=[t.v]) rfl (by simp[Ob.bU,Tm.bU,oP,pP]) fun g1 w1 df au f1=>?_));refine ae.ah (c:=.raw) au (x:=t.v) rfl ?_;have ft:=NZ U;rw[rl] at U;rw[wI (x:=0 - k) (by omega) (by omega),Int.zero_sub];refine ab.of (ih d (-k) (h.af f1) ft (by omega) (by omega) (by omega)) ?_;rintro _ w2 ⟨rfl,h2,f2⟩;exact⟨_,rfl,rfl,h2,f1.oy.trans f2⟩
 | and l r hl hr=>
  intro w B g b F x d k h U hn h1 h2;unfold aJ at hn h1 h2;refine c258 _ _ d k w _ ?_;refine ao.aL rfl (by decide) (ao.aL rfl (by decide) (ao.hit (l.v,r.v,()) rfl (cK (zs:=[.nilIface,.nilIface]) (vs:=[l.v,r.v]) rfl (by simp[Ob.bU,Tm.bU,oP,pP]) fun g1 w1 df au f1=>?_)));refine ae.ah (c:=.raw) au (x:=l.v) rfl (ae.ah (c:=.raw) au (x:=r.v) rfl ?_);refine ab.of (ZQ hl hr d k (h.af f1) U (by omega) (by omega) (by omega)) ?_;rintro _ w2 ⟨rfl,h2,f2⟩;exact⟨_,rfl,rfl,h2,f1.oy.trans f2⟩
 | when n t ih=>
  intro w B g b F x d k h U hn h1 h2;unfold aJ at hn h1 h2;refine c258 _ _ d k w _ ?_;refine ao.aL rfl (by decide) (ao.aL rfl (by decide) (ao.aL rfl (by decide) (ao.hit (n,t.v,()) rfl (cK (zs:=[.int .i64 0,.nilIface]) (vs:=[.int .i64 n,t.v]) rfl (by simp[Ob.bU,Tm.bU,oP,pP]) fun g1 w1 df au f1=>?_))));refine ae.ah (c:=.raw) au (x:=t.v) rfl (ae.ah au (x:=n) rfl ?_);rw[Ig];refine ab.of (ih (max d n) k (h.af f1) U (by omega) (by omega) (by omega)) ?_;rintro _ w2 ⟨rfl,h2,f2⟩;exact⟨_,rfl,rfl,h2,f1.oy.trans f2⟩
 | scale o t ih=>
  intro w B g b F x d k h U hn h1 h2;unfold aJ at hn h1 h2;refine c258 _ _ d k w _ ?_;refine ao.aL rfl (by decide) (ao.aL rfl (by decide) (ao.aL rfl (by decide) (ao.aL rfl (by decide) (ao.hit (o.v,t.v,()) rfl (cK (zs:=[.nilIface,.nilIface]) (vs:=[o.v,t.v]) rfl (by simp[Ob.bU,Tm.bU,oP,pP]) fun g1 w1 df au f1=>?_)))));refine aq.aE (cks:=[.raw,.raw]) (x:=(o.v,t.v,())) au ?_;refine ab.of (ZR o ih d k (h.af f1) (by omega) (by omega) (by omega)) ?_;rintro _ w2 ⟨rfl,h2,f2⟩;exact⟨_,rfl,rfl,h2,f1.oy.trans f2⟩
 | cond o l r hl hr=>
  intro w B g b F x d k h U hn h1 h2;unfold aJ at hn h1 h2;refine c258 _ _ d k w _ ?_;refine ao.aL rfl (by decide) (ao.aL rfl (by decide) (ao.aL rfl (by decide) (ao.aL rfl (by decide) (ao.aL rfl (by decide) (ao.hit (o.v,l.v,r.v,()) rfl (cK (zs:=[.nilIface,.nilIface,.nilIface]) (vs:=[o.v,l.v,r.v]) rfl (by simp[Ob.bU,Tm.bU,oP,pP]) fun g1 w1 df au f1=>?_))))));refine aq.aE (cks:=[.raw,.raw,.raw]) (x:=(o.v,l.v,r.v,())) au ?_;refine ab.of (ZT o hl hr d k (h.af f1) U (by omega) (by omega) (by omega)) ?_;rintro _ w2 ⟨rfl,h2,f2⟩;exact⟨_,rfl,rfl,h2,f1.oy.trans f2⟩
 | or s l r hl hr=>
  intro w B g b F x d k h U hn h1 h2;unfold aJ at hn h1 h2;refine c258 _ _ d k w _ ?_;refine ao.aL rfl (by decide) (ao.aL rfl (by decide) (ao.aL rfl (by decide) (ao.aL rfl (by decide) (ao.aL rfl (by decide) (ao.aL rfl (by decide) (ao.hit (str s,l.v,r.v,()) rfl (cK (zs:=[.string (⟨#[]⟩:ByteArray),.nilIface,.nilIface]) (vs:=[.string (str s),l.v,r.v]) rfl (by simp[Ob.bU,Tm.bU,oP,pP]) fun g1 w1 df au f1=>?_)))))));refine aq.aE (cks:=[.str,.raw,.raw]) (x:=(str s,l.v,r.v,())) au ?_;refine ab.of (ZU s hl hr d k (h.af f1) U (by omega) (by omega) (by omega)) ?_;rintro _ w2 ⟨rfl,h2,f2⟩;exact⟨_,rfl,rfl,h2,f1.oy.trans f2⟩
theorem C7 (id:List UInt8)(t:Tm)(d:Int)(hn:aJ t<=1000000){w:World}{F:Nat->Prop}{b:Nat}{m:da}(h:ig w F b m)(hF:∀ k,F k->k<w.heap.size):
  Ret Tryz.prog 233 #[.string (str id),t.v,.int .i64 d,.pointer (some ⟨b,0,none⟩)] w fun r w'=>∃ fl wl:Sl,r=.tuple #[.slice fl.1 fl.2.1 fl.2.2,.slice wl.1 wl.2.1 wl.2.2,.int .i64 (fH id t d m).2] /\
   aF w' 219 3 fl (lC (fH id t d m).1.1)/\aF w' 154 5 wl (jQ (fH id t d m).1.2)/\Fr none1 w w'/\(∀ k,aw fl k->w.heap.size<=k)/\(∀ k,aw wl k->w.heap.size<=k):=by
 refine c233 (str id) t.v d _ w _ ?_;unfold C233 fH;have nil:∀ (n:Int) {w':World},Fr none1 w w'->∃ fl wl:Sl,(Value.tuple #[.slice none 0 0,.slice none 0 0,.int .i64 n])=.tuple #[.slice fl.1 fl.2.1 fl.2.2,.slice wl.1 wl.2.1 wl.2.2,.int .i64 n] /\
   aF w' 219 3 fl (lC [])/\aF w' 154 5 wl (jQ [])/\Fr none1 w w'/\(∀ k,aw fl k->w.heap.size<=k)/\(∀ k,aw wl k->w.heap.size<=k):=fun n w' f=>⟨(none,0,0),(none,0,0),rfl,.inl ⟨rfl,rfl⟩,.inl ⟨rfl,rfl⟩,f,fun k t=>(ko k t).elim,fun k t=>(ko k t).elim⟩
 refine ab.of (Fa t hn w) ?_;rintro _ w1 ⟨rfl,f1⟩;refine⟨_,rfl,aa.ne (fun ay=>?_) (fun he=>?_)⟩
 ·rw[if_pos (.inl ay)];exact nil 1 f1
 have he:jJ t=0:=he;have hn:aJ t<=60:=(HD he).2.1;refine aa.dec (fun hd=>?_) (fun hd=>?_)
 ·rw[if_pos (.inr (.inl hd))];exact nil 1 f1
 refine aa.dec (fun Bn=>?_) (fun Bn=>?_)
 ·rw[if_pos (.inr (.inr Bn))];exact nil 1 f1
 rw[if_neg (by rw[he];simp;omega)];refine ak.of fun g w2 hg aK f2 gk=>?_;have f12:=f1.trans f2;have hw:nE w2 w.heap.size g b F id m ([],[]) (none,0,0) (none,0,0):=⟨aK,.inl ⟨rfl,rfl⟩,.inl ⟨rfl,rfl⟩,fun k t=>(ko k t).elim,fun k t=>(ko k t).elim,h.af f12,hF,by have:=f1.size;omega⟩;refine ab.of (ZW id m t d 1 ⟨_,_,hw⟩ rfl (by omega) (by simp;omega) (by simp;omega)) ?_;generalize cB id m t d 1 ([],[])=X;rintro _ w3 ⟨rfl,h3,f3⟩;have f13:Fr none1 w w3:=f12.comp f3 fun k U q=>by have:w.heap.size<=k:=q;omega
 refine⟨X.2,rfl,aa.ne (fun ay=>?_) (fun j6=>?_)⟩
 ·rw[if_pos ay];exact nil _ f13
 have j6:X.2=0:=j6;rw[if_neg (fun t=>t j6)];obtain⟨fl,wl,h3⟩:=h3;refine aD.of fun w4 _ f4=>?_;have h4:=h3.af f4;refine ae.ah h4.aE (x:=fl) rfl (ae.ah h4.aE (x:=wl) rfl ?_);exact⟨fl,wl,rfl,h4.ya,h4.waits,f13.trans f4,fun k U=>(h4.ox k U).1,fun k U=>(h4.k8 k U).1⟩
def C126 (p0:Option Addr)(aH aP:Nat)(w:World)(K:Value->World->Prop):Prop:=
 aa (Option.isNone p0)
 (K (.slice none 0 0) w)
 (az Tryz.prog (Instr.buildSlice 139 0 #[]) w (.v (.one .aj)) (fun(x1:an) w2=>az Tryz.prog (Builtin.append_ #[139,139] 139 #[.slice x1.1 x1.2.1 x1.2.2,.slice p0 aH aP]) w2 (.v (.one .aj)) (fun(x3:an) w4=>K (.slice x3.1 x3.2.1 x3.2.2) w4)))
def pl126:aB:=.auto
theorem c126 (p0:Option Addr)(aH aP:Nat)(w:World)(K:Value->World->Prop)(h:C126 p0 aH aP w K):Ret Tryz.prog 126 #[.slice p0 aH aP] w K:=aC (by kernel_rfl) Tryz.func126 (p:=pl126) (Eq.mpr (by kernel_rfl) h)
def C127 (p0:Option Addr)(aH aP:Nat)(w:World)(K:Value->World->Prop):Prop:=
 aa (Option.isNone p0)
 (K (.slice none 0 0) w)
 (az Tryz.prog (Instr.buildSlice 140 0 #[]) w (.v (.one .aj)) (fun(x1:an) w2=>az Tryz.prog (Builtin.append_ #[140,140] 140 #[.slice x1.1 x1.2.1 x1.2.2,.slice p0 aH aP]) w2 (.v (.one .aj)) (fun(x3:an) w4=>K (.slice x3.1 x3.2.1 x3.2.2) w4)))
def pl127:aB:=.auto
theorem c127 (p0:Option Addr)(aH aP:Nat)(w:World)(K:Value->World->Prop)(h:C127 p0 aH aP w K):Ret Tryz.prog 127 #[.slice p0 aH aP] w K:=aC (by kernel_rfl) Tryz.func127 (p:=pl127) (Eq.mpr (by kernel_rfl) h)
def C140 (p0:Option Addr)(aH aP:Nat)(w:World)(K:Value->World->Prop):Prop:=
 aa (Option.isNone p0)
 (K (.slice none 0 0) w)
 (az Tryz.prog (Instr.buildSlice 171 0 #[]) w (.v (.one .aj)) (fun(x1:an) w2=>az Tryz.prog (Builtin.append_ #[171,171] 171 #[.slice x1.1 x1.2.1 x1.2.2,.slice p0 aH aP]) w2 (.v (.one .aj)) (fun(x3:an) w4=>K (.slice x3.1 x3.2.1 x3.2.2) w4)))
def pl140:aB:=.auto
theorem c140 (p0:Option Addr)(aH aP:Nat)(w:World)(K:Value->World->Prop)(h:C140 p0 aH aP w K):Ret Tryz.prog 140 #[.slice p0 aH aP] w K:=aC (by kernel_rfl) Tryz.func140 (p:=pl140) (Eq.mpr (by kernel_rfl) h)
def C89 (p0:List Value)(w:World)(K:Value->World->Prop):Prop:=
 ak (.cells p0.toArray 24) w (fun g1 w2=>eI 16 (ad g1) w2 (fun x3=>az Tryz.prog (Instr.buildSlice 140 1 #[(0,.int .u64 0)]) w2 (.v (.one .aj)) (fun(x4:an) w5=>uj [.int .u8,.int .u8,.int .u8,.int .u8,.int .u8,.int .u8,.int .u8,.int .u8,.int .u8,.int .u8,.int .u8,.int .u8,.int .u8,.int .u8,.int .u8,.int .u8] x3 (fun(x6:Int×Int×Int×Int×Int×Int×Int×Int×Int×Int×Int×Int×Int×Int×Int×Int×Unit)=>ak (.cells #[.int .u8 x6.1,.int .u8 x6.2.1,.int .u8 x6.2.2.1,.int .u8 x6.2.2.2.1,.int .u8 x6.2.2.2.2.1,.int .u8 x6.2.2.2.2.2.1,.int .u8 x6.2.2.2.2.2.2.1,.int .u8 x6.2.2.2.2.2.2.2.1,.int .u8 x6.2.2.2.2.2.2.2.2.1,.int .u8 x6.2.2.2.2.2.2.2.2.2.1,.int .u8 x6.2.2.2.2.2.2.2.2.2.2.1,.int .u8 x6.2.2.2.2.2.2.2.2.2.2.2.1,.int .u8 x6.2.2.2.2.2.2.2.2.2.2.2.2.1,.int .u8 x6.2.2.2.2.2.2.2.2.2.2.2.2.2.1,.int .u8 x6.2.2.2.2.2.2.2.2.2.2.2.2.2.2.1,.int .u8 x6.2.2.2.2.2.2.2.2.2.2.2.2.2.2.2.1,.slice none 0 0,.slice x4.1 x4.2.1 x4.2.2] 142) w5 (fun g7 w8=>K (.pointer (some (ad g7))) w8)))))
def pl89:aB:=.auto
theorem c89 (p0:List Value)(w:World)(K:Value->World->Prop)(h:C89 p0 w K):Ret Tryz.prog 89 #[.agg p0.toArray] w K:=aC (by kernel_rfl) Tryz.func89 (p:=pl89) (Eq.mpr (by kernel_rfl) h)
def C159 (p0:List Value)(p1:Int)(p2:iA)(w:World)(K:Value->World->Prop):Prop:=
 ak (.cells p0.toArray 24) w (fun g1 w2=>ak (.cells ((iO p2).toArray) 110) w2 (fun g3 w4=>aq lI (ad g3) w4 (fun(x5:iA)=>ab Tryz.prog 153 #[.agg (iO x5).toArray] w4 (.aN [.one .aj,.one (.int .i64)]) (fun(x6:an×Int×Unit) w7=>aa (x6.2.1 != 0)
 (K (.tuple #[.int .u64 0,.int .i64 x6.2.1]) w7)
 (aD w7 (fun w8=>aV (fun S9=>av S9 (ad g1) (eI 16 (ad g1) w8 (fun aR=>ab Tryz.prog 49 #[.int .u64 p1] w8 (.v (.one .aj)) (fun(ba:an) aM=>ai S9 w8 aM (az Tryz.prog (Builtin.append_ #[22,22] 22 #[.slice ba.1 ba.2.1 ba.2.2,.slice x6.1.1 x6.1.2.1 x6.1.2.2]) aM (.v (.one .aj)) (fun(bD:an) bm=>ai S9 aM bm (ab Tryz.prog 50 #[.agg aR.toArray,.slice bD.1 bD.2.1 bD.2.2] bm (.v (.one (.int .u64))) (fun(bj:Int) bn=>ai S9 bm bn (K (.tuple #[.int .u64 bj,.int .i64 0]) bn)))))))))))))))
def pl159:aB:=(.seq .auto (.seq .auto (.seq .auto (.seq (.held (.soft 0 (.soft 1 (.soft 3 (.pick 2 (.pick 4 (.pick 5 (.soft 6 (.soft 7 .done)) .stop) .stop) .stop))))) .auto))))
theorem c159 (p0:List Value)(p1:Int)(p2:iA)(w:World)(K:Value->World->Prop)(h:C159 p0 p1 p2 w K):Ret Tryz.prog 159 #[.agg p0.toArray,.int .u64 p1,.agg (iO p2).toArray] w K:=aC (by kernel_rfl) Tryz.func159 (p:=pl159) (Eq.mpr (by kernel_rfl) h)
def C189 (p0:Addr)(p1:iA)(w:World)(K:Value->World->Prop):Prop:=
 ak (.cells ((iO p1).toArray) 110) w (fun g1 w2=>ae .aj (p0.add 16) w2 (fun(x3:an)=>aa (decide ((x3.2.1:Int) >= 64))
 (K (.int .i64 5) w2)
 (aD w2 (fun w4=>aV (fun S5=>av S5 (p0.add 0) (eI 16 (p0.add 0) w4 (fun x6=>av S5 (ad g1) (aq lI (ad g1) w4 (fun(x7:iA)=>ab Tryz.prog 32 #[.pointer (some p0)] w4 (.v (.one (.int .u64))) (fun(x8:Int) w9=>ai S5 w4 w9 (ab Tryz.prog 159 #[.agg x6.toArray,.int .u64 x8,.agg (iO x7).toArray] w9 (.aN [.one (.int .u64),.one (.int .i64)]) (fun(aR:Int×Int×Unit) aO=>aa (aR.2.1 != 0)
 (K (.int .i64 aR.2.1) aO)
 (aD aO (fun aM=>aV (fun eU=>av eU (p0.add 16) (ae .aj (p0.add 16) aM (fun(bd:an)=>av eU (ad g1) (aq lI (ad g1) aM (fun(bj:iA)=>av eU (p0.add 17) (ae .aj (p0.add 17) aM (fun(aQ:an)=>kG (ab Tryz.prog 126 #[.slice bd.1 bd.2.1 bd.2.2] aM (.v (.one .aj)) (fun(aX:an) bz=>ai eU aM bz (kG (az Tryz.prog (Instr.buildSlice 139 1 #[(0,.agg (iO bj).toArray)]) bz (.v (.one .aj)) (fun(bu:an) bo=>ai eU bz bo (kG (az Tryz.prog (Builtin.append_ #[139,139] 139 #[.slice aX.1 aX.2.1 aX.2.2,.slice bu.1 bu.2.1 bu.2.2]) bo (.v (.one .aj)) (fun(bT:an) bN=>ai eU bo bN (kG (ab Tryz.prog 127 #[.slice aQ.1 aQ.2.1 aQ.2.2] bN (.v (.one .aj)) (fun(cr:an) cm=>ai eU bN cm (az Tryz.prog (Instr.buildSlice 140 1 #[(0,.int .u64 aR.1)]) cm (.v (.one .aj)) (fun(bC:an) ct=>ai eU cm ct (az Tryz.prog (Builtin.append_ #[140,140] 140 #[.slice cr.1 cr.2.1 cr.2.2,.slice bC.1 bC.2.1 bC.2.2]) ct (.v (.one .aj)) (fun(cz:an) bS=>aA (p0.add 16) (.slice bT.1 bT.2.1 bT.2.2) bS (fun et=>aA (p0.add 17) (.slice cz.1 cz.2.1 cz.2.2) et (fun bO=>K (.int .i64 0) bO))))))))
 (az Tryz.prog (Instr.buildSlice 140 1 #[(0,.int .u64 aR.1)]) bN (.v (.one .aj)) (fun(bZ:an) cL=>ai eU bN cL (ab Tryz.prog 127 #[.slice aQ.1 aQ.2.1 aQ.2.2] cL (.v (.one .aj)) (fun(dp:an) gh=>az Tryz.prog (Builtin.append_ #[140,140] 140 #[.slice dp.1 dp.2.1 dp.2.2,.slice bZ.1 bZ.2.1 bZ.2.2]) gh (.v (.one .aj)) (fun(de:an) cQ=>aA (p0.add 16) (.slice bT.1 bT.2.1 bT.2.2) cQ (fun dG=>aA (p0.add 17) (.slice de.1 de.2.1 de.2.2) dG (fun gu=>K (.int .i64 0) gu))))))))))
 (az Tryz.prog (Instr.buildSlice 140 1 #[(0,.int .u64 aR.1)]) bo (.v (.one .aj)) (fun(eP:an) dD=>ai eU bo dD (az Tryz.prog (Builtin.append_ #[139,139] 139 #[.slice aX.1 aX.2.1 aX.2.2,.slice bu.1 bu.2.1 bu.2.2]) dD (.v (.one .aj)) (fun(ek:an) fM=>ai eU dD fM (ab Tryz.prog 127 #[.slice aQ.1 aQ.2.1 aQ.2.2] fM (.v (.one .aj)) (fun(jo:an) fw=>az Tryz.prog (Builtin.append_ #[140,140] 140 #[.slice jo.1 jo.2.1 jo.2.2,.slice eP.1 eP.2.1 eP.2.2]) fw (.v (.one .aj)) (fun(gQ:an) iq=>aA (p0.add 16) (.slice ek.1 ek.2.1 ek.2.2) iq (fun gd=>aA (p0.add 17) (.slice gQ.1 gQ.2.1 gQ.2.2) gd (fun gB=>K (.int .i64 0) gB))))))))))))
 (az Tryz.prog (Instr.buildSlice 140 1 #[(0,.int .u64 aR.1)]) bz (.v (.one .aj)) (fun(fu:an) mA=>ai eU bz mA (az Tryz.prog (Instr.buildSlice 139 1 #[(0,.agg (iO bj).toArray)]) mA (.v (.one .aj)) (fun(js:an) gC=>ai eU mA gC (az Tryz.prog (Builtin.append_ #[139,139] 139 #[.slice aX.1 aX.2.1 aX.2.2,.slice js.1 js.2.1 js.2.2]) gC (.v (.one .aj)) (fun(gq:an) iu=>ai eU gC iu (ab Tryz.prog 127 #[.slice aQ.1 aQ.2.1 aQ.2.2] iu (.v (.one .aj)) (fun(sI:an) rP=>az Tryz.prog (Builtin.append_ #[140,140] 140 #[.slice sI.1 sI.2.1 sI.2.2,.slice fu.1 fu.2.1 fu.2.2]) rP (.v (.one .aj)) (fun(oM:an) qM=>aA (p0.add 16) (.slice gq.1 gq.2.1 gq.2.2) qM (fun lL=>aA (p0.add 17) (.slice oM.1 oM.2.1 oM.2.2) lL (fun qP=>K (.int .i64 0) qP))))))))))))))
 (kG (az Tryz.prog (Instr.buildSlice 139 1 #[(0,.agg (iO bj).toArray)]) aM (.v (.one .aj)) (fun(lS:an) iP=>ai eU aM iP (kG (ab Tryz.prog 126 #[.slice bd.1 bd.2.1 bd.2.2] iP (.v (.one .aj)) (fun(mW:an) jt=>ai eU iP jt (kG (az Tryz.prog (Builtin.append_ #[139,139] 139 #[.slice mW.1 mW.2.1 mW.2.2,.slice lS.1 lS.2.1 lS.2.2]) jt (.v (.one .aj)) (fun(oT:an) vx=>ai eU jt vx (kG (ab Tryz.prog 127 #[.slice aQ.1 aQ.2.1 aQ.2.2] vx (.v (.one .aj)) (fun(oS:an) tP=>ai eU vx tP (az Tryz.prog (Instr.buildSlice 140 1 #[(0,.int .u64 aR.1)]) tP (.v (.one .aj)) (fun(Ih:an) Ph=>ai eU tP Ph (az Tryz.prog (Builtin.append_ #[140,140] 140 #[.slice oS.1 oS.2.1 oS.2.2,.slice Ih.1 Ih.2.1 Ih.2.2]) Ph (.v (.one .aj)) (fun(AF:an) ZX=>aA (p0.add 16) (.slice oT.1 oT.2.1 oT.2.2) ZX (fun qT=>aA (p0.add 17) (.slice AF.1 AF.2.1 AF.2.2) qT (fun ZY=>K (.int .i64 0) ZY))))))))
 (az Tryz.prog (Instr.buildSlice 140 1 #[(0,.int .u64 aR.1)]) vx (.v (.one .aj)) (fun(sx:an) qU=>ai eU vx qU (ab Tryz.prog 127 #[.slice aQ.1 aQ.2.1 aQ.2.2] qU (.v (.one .aj)) (fun(vy:an) my=>az Tryz.prog (Builtin.append_ #[140,140] 140 #[.slice vy.1 vy.2.1 vy.2.2,.slice sx.1 sx.2.1 sx.2.2]) my (.v (.one .aj)) (fun(Ii:an) He=>aA (p0.add 16) (.slice oT.1 oT.2.1 oT.2.2) He (fun CG=>aA (p0.add 17) (.slice Ii.1 Ii.2.1 Ii.2.2) CG (fun ZZ=>K (.int .i64 0) ZZ))))))))))
 (az Tryz.prog (Instr.buildSlice 140 1 #[(0,.int .u64 aR.1)]) jt (.v (.one .aj)) (fun(AG:an) Ij=>ai eU jt Ij (az Tryz.prog (Builtin.append_ #[139,139] 139 #[.slice mW.1 mW.2.1 mW.2.2,.slice lS.1 lS.2.1 lS.2.2]) Ij (.v (.one .aj)) (fun(AH:an) Pj=>ai eU Ij Pj (ab Tryz.prog 127 #[.slice aQ.1 aQ.2.1 aQ.2.2] Pj (.v (.one .aj)) (fun(Ik:an) Da=>az Tryz.prog (Builtin.append_ #[140,140] 140 #[.slice Ik.1 Ik.2.1 Ik.2.2,.slice AG.1 AG.2.1 AG.2.2]) Da (.v (.one .aj)) (fun(AI:an) Z0=>aA (p0.add 16) (.slice AH.1 AH.2.1 AH.2.2) Z0 (fun Z1=>aA (p0.add 17) (.slice AI.1 AI.2.1 AI.2.2) Z1 (fun Fi=>K (.int .i64 0) Fi))))))))))))
 (az Tryz.prog (Instr.buildSlice 140 1 #[(0,.int .u64 aR.1)]) iP (.v (.one .aj)) (fun(Il:an) rT=>ai eU iP rT (ab Tryz.prog 126 #[.slice bd.1 bd.2.1 bd.2.2] rT (.v (.one .aj)) (fun(Im:an) Io=>ai eU rT Io (az Tryz.prog (Builtin.append_ #[139,139] 139 #[.slice Im.1 Im.2.1 Im.2.2,.slice lS.1 lS.2.1 lS.2.2]) Io (.v (.one .aj)) (fun(zp:an) Pk=>ai eU Io Pk (ab Tryz.prog 127 #[.slice aQ.1 aQ.2.1 aQ.2.2] Pk (.v (.one .aj)) (fun(zq:an) zr=>az Tryz.prog (Builtin.append_ #[140,140] 140 #[.slice zq.1 zq.2.1 zq.2.2,.slice Il.1 Il.2.1 Il.2.2]) zr (.v (.one .aj)) (fun(zt:an) zu=>aA (p0.add 16) (.slice zp.1 zp.2.1 zp.2.2) zu (fun Z2=>aA (p0.add 17) (.slice zt.1 zt.2.1 zt.2.2) Z2 (fun zv=>K (.int .i64 0) zv))))))))))))))
 (az Tryz.prog (Instr.buildSlice 140 1 #[(0,.int .u64 aR.1)]) aM (.v (.one .aj)) (fun(qV:an) rU=>ai eU aM rU (kG (ab Tryz.prog 126 #[.slice bd.1 bd.2.1 bd.2.2] rU (.v (.one .aj)) (fun(zz:an) xi=>ai eU rU xi (az Tryz.prog (Instr.buildSlice 139 1 #[(0,.agg (iO bj).toArray)]) xi (.v (.one .aj)) (fun(Ip:an) Iq=>ai eU xi Iq (az Tryz.prog (Builtin.append_ #[139,139] 139 #[.slice zz.1 zz.2.1 zz.2.2,.slice Ip.1 Ip.2.1 Ip.2.2]) Iq (.v (.one .aj)) (fun(Ir:an) Pl=>ai eU Iq Pl (ab Tryz.prog 127 #[.slice aQ.1 aQ.2.1 aQ.2.2] Pl (.v (.one .aj)) (fun(Is:an) Z3=>az Tryz.prog (Builtin.append_ #[140,140] 140 #[.slice Is.1 Is.2.1 Is.2.2,.slice qV.1 qV.2.1 qV.2.2]) Z3 (.v (.one .aj)) (fun(It:an) Z4=>aA (p0.add 16) (.slice Ir.1 Ir.2.1 Ir.2.2) Z4 (fun Z5=>aA (p0.add 17) (.slice It.1 It.2.1 It.2.2) Z5 (fun Z6=>K (.int .i64 0) Z6)))))))))))
 (az Tryz.prog (Instr.buildSlice 139 1 #[(0,.agg (iO bj).toArray)]) rU (.v (.one .aj)) (fun(Iu:an) Iv=>ai eU rU Iv (ab Tryz.prog 126 #[.slice bd.1 bd.2.1 bd.2.2] Iv (.v (.one .aj)) (fun(Iw:an) Ix=>ai eU Iv Ix (az Tryz.prog (Builtin.append_ #[139,139] 139 #[.slice Iw.1 Iw.2.1 Iw.2.2,.slice Iu.1 Iu.2.1 Iu.2.2]) Ix (.v (.one .aj)) (fun(Iy:an) Pm=>ai eU Ix Pm (ab Tryz.prog 127 #[.slice aQ.1 aQ.2.1 aQ.2.2] Pm (.v (.one .aj)) (fun(Iz:an) Z7=>az Tryz.prog (Builtin.append_ #[140,140] 140 #[.slice Iz.1 Iz.2.1 Iz.2.2,.slice qV.1 qV.2.1 qV.2.2]) Z7 (.v (.one .aj)) (fun(IA:an) Z8=>aA (p0.add 16) (.slice Iy.1 Iy.2.1 Iy.2.2) Z8 (fun Z9=>aA (p0.add 17) (.slice IA.1 IA.2.1 IA.2.2) Z9 (fun aaa=>K (.int .i64 0) aaa))))))))))))))))))))))))))))))))))))
def pl189:aB:=(.seq .auto (.seq .auto (.seq (.held (.soft 0 (.soft 1 (.soft 2 (.soft 3 (.soft 4 (.soft 6 (.pick 5 (.last 7 (.soft 8 (.soft 9 (.soft 10 (.soft 11 (.soft 12 .done)))))) .stop)))))))) (.seq .auto (.seq (.held (.soft 0 (.soft 1 (.soft 2 (.soft 3 (.soft 4 (.soft 5 (.soft 7 (.soft 10 (.soft 11 (.soft 12 (.soft 13 (.soft 15 (.pick 6 (.pick 8 (.pick 9 (.pick 14 (.pick 16 (.last 17 (.soft 18 (.soft 19 (.last 20 (.soft 21 (.soft 22 (.last 23 .done))))))) .stop) (.pick 16 (.last 14 (.last 17 (.soft 18 (.soft 19 (.last 20 (.soft 21 (.soft 22 (.last 23 .done)))))))) .stop)) (.pick 16 (.pick 9 (.last 14 (.last 17 (.soft 18 (.soft 19 (.last 20 (.soft 21 (.soft 22 (.last 23 .done)))))))) .stop) .stop)) (.pick 16 (.pick 8 (.pick 9 (.last 14 (.last 17 (.soft 18 (.soft 19 (.last 20 (.soft 21 (.soft 22 (.last 23 .done)))))))) .stop) .stop) .stop)) (.pick 8 (.pick 6 (.pick 9 (.pick 14 (.pick 16 (.last 17 (.soft 18 (.soft 19 (.last 20 (.soft 21 (.soft 22 (.last 23 .done))))))) .stop) (.pick 16 (.last 14 (.last 17 (.soft 18 (.soft 19 (.last 20 (.soft 21 (.soft 22 (.last 23 .done)))))))) .stop)) (.pick 16 (.pick 9 (.last 14 (.last 17 (.soft 18 (.soft 19 (.last 20 (.soft 21 (.soft 22 (.last 23 .done)))))))) .stop) .stop)) (.pick 16 (.pick 6 (.pick 9 (.last 14 (.last 17 (.soft 18 (.soft 19 (.last 20 (.soft 21 (.soft 22 (.last 23 .done)))))))) .stop) .stop) .stop)) (.pick 16 (.pick 6 (.pick 8 (.pick 9 (.last 14 (.last 17 (.soft 18 (.soft 19 (.last 20 (.soft 21 (.soft 22 (.last 23 .done)))))))) .stop) .stop) (.pick 8 (.pick 6 (.pick 9 (.last 14 (.last 17 (.soft 18 (.soft 19 (.last 20 (.soft 21 (.soft 22 (.last 23 .done)))))))) .stop) .stop) .stop)) .stop)))))))))))))))) .auto)))))
theorem c189 (p0:Addr)(p1:iA)(w:World)(K:Value->World->Prop)(h:C189 p0 p1 w K):Ret Tryz.prog 189 #[.pointer (some p0),.agg (iO p1).toArray] w K:=aC (by kernel_rfl) Tryz.func189 (p:=pl189) (Eq.mpr (by kernel_rfl) h)
def C27 (p0:Addr)(w:World)(K:Value->World->Prop):Prop:=
 ae .aj (p0.add 16) w (fun(x1:an)=>K (.int .i64 (x1.2.1:Int)) w)
def pl27:aB:=.auto
theorem c27 (p0:Addr)(w:World)(K:Value->World->Prop)(h:C27 p0 w K):Ret Tryz.prog 27 #[.pointer (some p0)] w K:=aC (by kernel_rfl) Tryz.func27 (p:=pl27) (Eq.mpr (by kernel_rfl) h)
def C32 (p0:Addr)(w:World)(K:Value->World->Prop):Prop:=
 aD w (fun w1=>ae .aj (p0.add 17) w1 (fun(x2:an)=>ae .aj (p0.add 17) w1 (fun(x3:an)=>bK x2.1 x2.2.1 (IntKind.i64.wrap ((x3.2.1:Int) - 1)) 1 (fun a4=>ae (.int .u64) a4 w1 (fun(x5:Int)=>K (.int .u64 x5) w1)))))
def pl32:aB:=(.seq .auto (.seq .still .auto))
theorem c32 (p0:Addr)(w:World)(K:Value->World->Prop)(h:C32 p0 w K):Ret Tryz.prog 32 #[.pointer (some p0)] w K:=aC (by kernel_rfl) Tryz.func32 (p:=pl32) (Eq.mpr (by kernel_rfl) h)
def C31 (p0:Addr)(p1:Int)(w:World)(K:Value->World->Prop):Prop:=
 aa (decide (p1<0))
 (K (.tuple #[.int .u64 0,.bool false]) w)
 (ae .aj (p0.add 17) w (fun(x1:an)=>aa (decide (p1 >= (x1.2.1:Int)))
 (K (.tuple #[.int .u64 0,.bool false]) w)
 (ae .aj (p0.add 17) w (fun(x2:an)=>bK x2.1 x2.2.1 p1 1 (fun a3=>ae (.int .u64) a3 w (fun(x4:Int)=>K (.tuple #[.int .u64 x4,.bool true]) w))))))
def pl31:aB:=.auto
theorem c31 (p0:Addr)(p1:Int)(w:World)(K:Value->World->Prop)(h:C31 p0 p1 w K):Ret Tryz.prog 31 #[.pointer (some p0),.int .i64 p1] w K:=aC (by kernel_rfl) Tryz.func31 (p:=pl31) (Eq.mpr (by kernel_rfl) h)
def C200 (p0:Addr)(w:World)(K:Value->World->Prop):Prop:=
 ae .aj (p0.add 16) w (fun(x1:an)=>ab Tryz.prog 126 #[.slice x1.1 x1.2.1 x1.2.2] w (.v (.one .aj)) (fun(x2:an) w3=>K (.slice x2.1 x2.2.1 x2.2.2) w3))
def pl200:aB:=.auto
theorem c200 (p0:Addr)(w:World)(K:Value->World->Prop)(h:C200 p0 w K):Ret Tryz.prog 200 #[.pointer (some p0)] w K:=aC (by kernel_rfl) Tryz.func200 (p:=pl200) (Eq.mpr (by kernel_rfl) h)
def C69 (p0:Addr)(w:World)(K:Value->World->Prop):Prop:=
 aD w (fun w1=>aV (fun S2=>av S2 (p0.add 0) (eI 16 (p0.add 0) w1 (fun x3=>av S2 (p0.add 16) (ae .aj (p0.add 16) w1 (fun(x4:an)=>av S2 (p0.add 17) (ae .aj (p0.add 17) w1 (fun(x5:an)=>ab Tryz.prog 126 #[.slice x4.1 x4.2.1 x4.2.2] w1 (.v (.one .aj)) (fun(x6:an) w7=>ai S2 w1 w7 (ab Tryz.prog 127 #[.slice x5.1 x5.2.1 x5.2.2] w7 (.v (.one .aj)) (fun(x8:an) w9=>ai S2 w7 w9 (uj [.int .u8,.int .u8,.int .u8,.int .u8,.int .u8,.int .u8,.int .u8,.int .u8,.int .u8,.int .u8,.int .u8,.int .u8,.int .u8,.int .u8,.int .u8,.int .u8] x3 (fun(aR:Int×Int×Int×Int×Int×Int×Int×Int×Int×Int×Int×Int×Int×Int×Int×Int×Unit)=>ak (.cells #[.int .u8 aR.1,.int .u8 aR.2.1,.int .u8 aR.2.2.1,.int .u8 aR.2.2.2.1,.int .u8 aR.2.2.2.2.1,.int .u8 aR.2.2.2.2.2.1,.int .u8 aR.2.2.2.2.2.2.1,.int .u8 aR.2.2.2.2.2.2.2.1,.int .u8 aR.2.2.2.2.2.2.2.2.1,.int .u8 aR.2.2.2.2.2.2.2.2.2.1,.int .u8 aR.2.2.2.2.2.2.2.2.2.2.1,.int .u8 aR.2.2.2.2.2.2.2.2.2.2.2.1,.int .u8 aR.2.2.2.2.2.2.2.2.2.2.2.2.1,.int .u8 aR.2.2.2.2.2.2.2.2.2.2.2.2.2.1,.int .u8 aR.2.2.2.2.2.2.2.2.2.2.2.2.2.2.1,.int .u8 aR.2.2.2.2.2.2.2.2.2.2.2.2.2.2.2.1,.slice x6.1 x6.2.1 x6.2.2,.slice x8.1 x8.2.1 x8.2.2] 142) w9 (fun g11 aM=>ai S2 w9 aM (K (.pointer (some (ad g11))) aM)))))))))))))))
def pl69:aB:=(.seq .auto (.seq (.held (.soft 0 (.soft 1 (.soft 2 (.soft 3 (.soft 4 (.soft 5 (.soft 6 (.soft 7 (.soft 9 (.soft 10 (.soft 11 (.soft 12 (.pick 8 (.pick 13 (.soft 14 (.pick 15 (.soft 16 .done) .stop)) .stop) .stop)))))))))))))) .auto))
theorem c69 (p0:Addr)(w:World)(K:Value->World->Prop)(h:C69 p0 w K):Ret Tryz.prog 69 #[.pointer (some p0)] w K:=aC (by kernel_rfl) Tryz.func69 (p:=pl69) (Eq.mpr (by kernel_rfl) h)
theorem IB (w:World)(E s:Nat):aF w E s (none,0,0) []:=.inl ⟨rfl,rfl⟩
theorem IC {t E s bytes:Nat}{z:Value}(he:il Tryz.prog t E s z bytes){w:World}{v:Sl}{xs:List Value}(h:dr w s v xs)(h1:∀ x∈xs,bI x=true)(hb:(2 * v.2.1+192) * bytes<=2 ^ 48){K:Value->World->Prop}
  (k:∀ (u:Sl) w',aF w' E s u xs->Fr none1 w w'->(∀ k,aw u k->w.heap.size<=k)->K (.slice u.1 u.2.1 u.2.2) w') :
  aa (Option.isNone v.1) (K (.slice none 0 0) w) (az Tryz.prog (Instr.buildSlice t 0 #[]) w (.v (.one .aj)) (fun(x:Option Addr×Nat×Nat) w2=>az Tryz.prog (Builtin.append_ #[t,t] t #[.slice x.1 x.2.1 x.2.2,.slice v.1 v.2.1 v.2.2]) w2 (.v (.one .aj)) (fun(y:Option Addr×Nat×Nat) w4=>K (.slice y.1 y.2.1 y.2.2) w4))):=by
 refine aa.by (fun hn=>?_) (fun hn=>?_)
 ·have hv:v.1=none:=by simpa using hn
  have:=(h.2.1 hv).2.2;subst this;exact k (none,0,0) w (IB _ _ _) (Fr.refl _ _) fun k ⟨a,ha,_⟩=>by cases ha
 ·obtain⟨x,w2,hr,hx,kN,f2,xf⟩:=Mr (P:=Tryz.prog) (w:=w) he [] (by simp) (by simp)
  refine⟨x,w2,hr,?_⟩;obtain⟨y,w4,zh,hy,gT,f4,yf⟩:=gA (P:=Tryz.prog) he t hx (h.af f2) h1 (by rw[kN];simpa using hb);refine⟨y,w4,zh,k y w4 (by simpa using hy) (f2.comp f4 fun j hj q=>by have:=xf j q;omega) fun j hj=>?_⟩
  rcases yf j hj with q | q
  ·exact xf j q
  ·exact Nat.le_trans f2.size q
theorem nG:il Tryz.prog 139 110 9 (.agg #[.int .i64 0,.string ⟨#[]⟩,.string ⟨#[]⟩,.string ⟨#[]⟩,.string ⟨#[]⟩,.int .i64 0,.int .i64 0,.nilIface,.bool false]) 112:=⟨Tryz.underlying139,⟨Tryz.t110,by kernel_rfl,rfl,rfl,rfl⟩,rfl,by decide⟩
theorem jR:il Tryz.prog 140 40 1 (.int .u64 0) 8:=⟨Tryz.underlying140,⟨Tryz.t40,by kernel_rfl,rfl,rfl,rfl⟩,rfl,by decide⟩
theorem Db:il Tryz.prog 171 262 3 (.agg #[.string ⟨#[]⟩,.int .i64 0,.nilIface]) 40:=⟨Tryz.underlying171,⟨Tryz.t262,by kernel_rfl,rfl,rfl,rfl⟩,rfl,by decide⟩
def Dc (w:World)(E s:Nat)(xs:List Value)(r:Value)(w':World):Prop:=∃ u:Sl,r=.slice u.1 u.2.1 u.2.2/\aF w' E s u xs/\Fr none1 w w'/\∀ k,aw u k->w.heap.size<=k
theorem vN {w:World}{v:Sl}{xs:List Value}(h:dr w 9 v xs)(h1:∀ x∈xs,bI x=true)(hb:v.2.1<=1000000):Ret Tryz.prog 126 #[.slice v.1 v.2.1 v.2.2] w (Dc w 110 9 xs):=by
 refine c126 v.1 v.2.1 v.2.2 w _ ?_;exact IC nG h h1 (by omega) fun u w' hu f uf=>⟨u,rfl,hu,f,uf⟩
theorem qu {w:World}{v:Sl}{xs:List Value}(h:dr w 1 v xs)(h1:∀ x∈xs,bI x=true)(hb:v.2.1<=1000000):Ret Tryz.prog 127 #[.slice v.1 v.2.1 v.2.2] w (Dc w 40 1 xs):=by
 refine c127 v.1 v.2.1 v.2.2 w _ ?_;exact IC jR h h1 (by omega) fun u w' hu f uf=>⟨u,rfl,hu,f,uf⟩
theorem ID {w:World}{v:Sl}{xs:List Value}(h:dr w 3 v xs)(h1:∀ x∈xs,bI x=true)(hb:v.2.1<=1000000):Ret Tryz.prog 140 #[.slice v.1 v.2.1 v.2.2] w (Dc w 262 3 xs):=by
 refine c140 v.1 v.2.1 v.2.2 w _ ?_;exact IC Db h h1 (by omega) fun u w' hu f uf=>⟨u,rfl,hu,f,uf⟩
abbrev nH:List Ck:=[.int .u8,.int .u8,.int .u8,.int .u8,.int .u8,.int .u8,.int .u8,.int .u8,.int .u8,.int .u8,.int .u8,.int .u8,.int .u8,.int .u8,.int .u8,.int .u8]
theorem IE:∀ (n:Nat) (kb:List UInt8),kb.length=n->∃ y:Cs (List.replicate n (.int .u8)),kb.map bc=Cs.vals (List.replicate n (.int .u8)) y
 | 0,[],_=>⟨(),rfl⟩
 | n+1,b::kb,h=>by
  obtain⟨y,hy⟩:=IE n kb (by simpa using h);exact⟨((b.toNat:Int),y),by rw[List.map_cons,hy];rfl⟩
theorem Dd {kb:List UInt8}(U:kb.length=16){K:Cs nH->Prop}(k:∀ y:Cs nH,Cs.vals nH y=cT kb->K y):uj nH (cT kb) K:=by
 obtain⟨y,hy⟩:=IE 16 kb U;exact⟨y,hy,k y hy.symm⟩
def IF (n:Int):Value:=.int .u64 n
def ji (x:eW):List Value:=qh x.1.e x.2
theorem aab (x:eW):(ji x).length=9:=rfl
theorem sK (x:eW):∀ v∈ji x,bI v=true:=by
 have:=GJ (e:=x.1.e) x.2 (Tm.bU x.1.t);exact fun v hv=>List.all_eq_true.1 this v hv
def rn (es:List eW):List Value:=(es.map ji).flatten
theorem po (es:List eW):(rn es).length=es.length * 9:=by
 induction es with
 | nil=>rfl
 | cons x es ih=>
  unfold rn at *;rw[List.map_cons,List.flatten_cons,List.length_append,ih,aab,List.length_cons];omega
theorem vO (es:List eW):∀ v∈rn es,bI v=true:=by
 intro v hv;unfold rn at hv;rw[List.mem_flatten] at hv;obtain⟨l,hl,hv⟩:=hv;obtain⟨x,_,rfl⟩:=List.mem_map.1 hl;exact sK x v hv
theorem qv (hs:List Int):∀ v∈hs.map IF,bI v=true:=by intro v hv;obtain⟨x,_,rfl⟩:=List.mem_map.1 hv;rfl
def mL (kb:List UInt8)(l hd:Sl):List Value:=cT kb++[.slice l.1 l.2.1 l.2.2,.slice hd.1 hd.2.1 hd.2.2]
structure jz (w:World)(F:Nat->Prop)(c:Nat)(kb:List UInt8)(es:List eW)(hs:List Int):Prop where
 out:∃ l hd:Sl,w.heap[c]? = some (.cells (mL kb l hd).toArray 142 (0,0))/\aF w 110 9 l (rn es)/\aF w 40 1 hd (hs.map IF)/\(∀ k,aw l k->F k/\k≠c)/\(∀ k,aw hd k->F k/\k≠c)
 mem:F c
theorem jz.ag {w w':World}{F T:Nat->Prop}{c:Nat}{kb:List UInt8}{es:List eW}{hs:List Int}(h:jz w F c kb es hs)(f:Fr T w w')(hT:∀ k,F k->¬ T k):jz w' F c kb es hs:=by
 obtain⟨⟨l,hd,h1,h2,h3,h4,h5⟩,hm⟩:=h;exact⟨⟨l,hd,f.ag h1 (hT c hm),h2.ag f (fun k U=>hT k (h4 k U).1),h3.ag f (fun k U=>hT k (h5 k U).1),h4,h5⟩,hm⟩
theorem jz.af {w w':World}{F:Nat->Prop}{c:Nat}{kb:List UInt8}{es:List eW}{hs:List Int}(h:jz w F c kb es hs)(f:Fr none1 w w'):jz w' F c kb es hs:=h.ag f fun _ _ t=>t
theorem kD {kb:List UInt8}:(cT kb).length=kb.length:=by unfold cT;simp
theorem qw {kb:List UInt8}(U:kb.length=16)(l hd:Sl):(mL kb l hd).toArray[16]? = some (.slice l.1 l.2.1 l.2.2)/\(mL kb l hd).toArray[17]? = some (.slice hd.1 hd.2.1 hd.2.2):=by
 unfold mL;have:=kD (kb:=kb)
 constructor
 ·rw[List.getElem?_toArray,List.getElem?_append_right (by omega),this,U];rfl
 ·rw[List.getElem?_toArray,List.getElem?_append_right (by omega),this,U];rfl
theorem Pn {w:World}{c:Nat}{kb:List UInt8}(U:kb.length=16){l hd:Sl}{T:TypeId}{fr:Nat×Nat}(h:w.heap[c]? = some (.cells (mL kb l hd).toArray T fr)){K:List Value->Prop}(k:K (cT kb)):eI 16 ((⟨c,0,none⟩:Addr).add 0) w K:=by
 refine⟨cT kb,by rw[kD,U],?_,k⟩;rw[dP];refine nP h _ 0 fun j hj=>?_;unfold mL;rw[List.getElem?_toArray,Nat.zero_add,List.getElem?_append_left hj]
theorem aac {kb:List UInt8}(U:kb.length=16)(w:World):Ret Tryz.prog 89 #[.agg (cT kb).toArray] w fun r w'=>∃ c,r=.pointer (some ⟨c,0,none⟩)/\jz w' (fun k=>w.heap.size<=k/\k<w'.heap.size) c kb [] [0]/\Fr none1 w w':=by
 refine c89 (cT kb) w _ ?_;unfold C89;refine ak.of fun g1 w1 df au f1 ka=>eI.of au (by rw[kD,U]) ?_;obtain⟨x,w2,hr,hx,kN,f2,xf⟩:=lH (P:=Tryz.prog) (w:=w1) jR (.int .u64 0) rfl;refine⟨x,w2,hr,Dd U fun y hy=>ak.of fun g w3 hg hb f3 o6=>?_⟩;have hb:w3.heap[g]? = some (.cells (Cs.vals nH y++[Value.slice none 0 0,Value.slice x.1 x.2.1 x.2.2]).toArray 142 (0,0)):=hb;rw[hy] at hb;have s1:=f1.size;have s2:=f2.size;refine⟨g,rfl,⟨⟨(none,0,0),x,hb,IB _ _ _,hx.af f3,fun k ⟨a,ha,_⟩=>(by cases ha),fun k ft=>?_⟩,?_⟩,(f1.trans f2).trans f3⟩
 ·have:=xf k ft;have:=aF.lt hx ft;omega
 ·omega
theorem oz {w:World}{F:Nat->Prop}{c:Nat}{kb:List UInt8}{es:List eW}{hs:List Int}(U:kb.length=16)(h:jz w F c kb es hs):Ret Tryz.prog 27 #[.pointer (some ⟨c,0,none⟩)] w fun r w'=>r=.int .i64 (es.length:Int)/\w=w':=by
 obtain⟨⟨l,hd,h1,h2,h3,h4,h5⟩,hm⟩:=h;refine c27 _ w _ ?_;have:=h2.len;rw[po] at this;exact ae.ah h1 (x:=l) (by rw[Nat.zero_add];exact(qw U l hd).1) ⟨by rw[show l.2.1=es.length by omega],rfl⟩
theorem De {w:World}{F:Nat->Prop}{c:Nat}{kb:List UInt8}{es:List eW}{hs:List Int}(U:kb.length=16)(h:jz w F c kb es hs)(hl:hs.length=es.length+1)(qK:es.length<=1000):Ret Tryz.prog 32 #[.pointer (some ⟨c,0,none⟩)] w fun r w'=>r=.int .u64 (hs.getD es.length 0)/\Fr none1 w w':=by
 obtain⟨⟨l,hd,h1,h2,h3,h4,h5⟩,hm⟩:=h;refine c32 _ w _ ?_;unfold C32;refine aD.of fun w1 _ f1=>?_;have wh:=h3.len;rw[List.length_map,Nat.mul_one] at wh;have aS:=bQ h1;refine ae.ah (f1.af h1) (x:=hd) (by rw[Nat.zero_add];exact(qw U l hd).2) (ae.ah (f1.af h1) (x:=hd) (by rw[Nat.zero_add];exact(qw U l hd).2) ?_);rw[wI (x:=(hd.2.1:Int) - 1) (by omega) (by omega)];refine aF.ld (h3.af f1) (c:=.int .u64) (by omega) (by omega) (x:=hs.getD es.length 0) ?_ ⟨rfl,f1⟩;rw[show((hd.2.1:Int) - 1).toNat=es.length by omega,List.getElem?_map,List.getElem?_eq_getElem (by omega),List.getD_eq_getElem?_getD,List.getElem?_eq_getElem (by omega)];rfl
theorem Po {w:World}{F:Nat->Prop}{c:Nat}{kb:List UInt8}{es:List eW}{hs:List Int}(U:kb.length=16)(h:jz w F c kb es hs)(n:Int):Ret Tryz.prog 31 #[.pointer (some ⟨c,0,none⟩),.int .i64 n] w fun r w'=>
  r=.tuple #[.int .u64 (if n<0\/(hs.length:Int)<=n then 0 else hs.getD n.toNat 0),.bool (!decide (n<0\/(hs.length:Int)<=n))]/\w=w':=by
 obtain⟨⟨l,hd,h1,h2,h3,h4,h5⟩,hm⟩:=h;refine c31 _ n w _ ?_;unfold C31;have wh:=h3.len;rw[List.length_map,Nat.mul_one] at wh;refine aa.dec (fun q=>?_) (fun q=>?_)
 ·rw[if_pos (.inl q),decide_eq_true (.inl q)];exact⟨rfl,rfl⟩
 refine ae.ah h1 (x:=hd) (by rw[Nat.zero_add];exact(qw U l hd).2) (aa.dec (fun q2=>?_) (fun q2=>?_))
 ·have e:n<0\/(hs.length:Int)<=n:=.inr (by omega)
  rw[if_pos e,decide_eq_true e];exact⟨rfl,rfl⟩
 ·have e:¬ (n<0\/(hs.length:Int)<=n):=by omega
  rw[if_neg e,decide_eq_false e];refine ae.ah h1 (x:=hd) (by rw[Nat.zero_add];exact(qw U l hd).2) (aF.ld h3 (c:=.int .u64) (by omega) (by omega) (x:=hs.getD n.toNat 0) ?_ ⟨rfl,rfl⟩);rw[List.getElem?_map,List.getElem?_eq_getElem (by omega),List.getD_eq_getElem?_getD,List.getElem?_eq_getElem (by omega)];rfl
theorem aad {w:World}{F:Nat->Prop}{c:Nat}{kb:List UInt8}{es:List eW}{hs:List Int}(U:kb.length=16)(h:jz w F c kb es hs)(hl:es.length<=1000):Ret Tryz.prog 200 #[.pointer (some ⟨c,0,none⟩)] w (Dc w 110 9 (rn es)):=by
 obtain⟨⟨l,hd,h1,h2,h3,h4,h5⟩,hm⟩:=h;refine c200 _ w _ ?_;have:=h2.len;rw[po] at this;refine ae.ah h1 (x:=l) (by rw[Nat.zero_add];exact(qw U l hd).1) ?_;refine ab.of (vN h2.rd (vO es) (by omega)) ?_;rintro _ w1 ⟨u,rfl,hu,f,uf⟩;exact⟨u,rfl,u,rfl,hu,f,uf⟩
theorem IG {w:World}{F:Nat->Prop}{c:Nat}{kb:List UInt8}{es:List eW}{hs:List Int}(U:kb.length=16)(h:jz w F c kb es hs)(hl:es.length<=1000)(qK:hs.length<=1000):
  Ret Tryz.prog 69 #[.pointer (some ⟨c,0,none⟩)] w fun r w'=>∃ d,r=.pointer (some ⟨d,0,none⟩)/\jz w' (fun k=>w.heap.size<=k/\k<w'.heap.size) d kb es hs/\Fr none1 w w':=by
 obtain⟨⟨l,hd,h1,h2,h3,h4,h5⟩,hm⟩:=h;refine c69 _ w _ ?_;unfold C69;have e2:=h2.len;rw[po] at e2;have e3:=h3.len;rw[List.length_map,Nat.mul_one] at e3;refine aD.of fun w1 _ f1=>aV.all ?_;have ov:=f1.af h1;refine av.all (Pn U ov (av.all (ae.ah ov (x:=l) (by rw[Nat.zero_add];exact(qw U l hd).1) (av.all (ae.ah ov (x:=hd) (by rw[Nat.zero_add];exact(qw U l hd).2) ?_)))));refine ab.of (vN (h2.af f1).rd (vO es) (by omega)) ?_;rintro _ w2 ⟨u,rfl,hu,f2,uf⟩;refine⟨u,rfl,ai.of f2 ?_⟩;refine ab.of (qu ((h3.af f1).af f2).rd (qv hs) (by omega)) ?_;rintro _ w3 ⟨v,rfl,hv,f3,vf⟩;refine⟨v,rfl,ai.of f3 ?_⟩;refine Dd U fun y hy=>ak.of fun g w4 hg hb f4 sq=>ai.of f4 ?_;have hb:w4.heap[g]? = some (.cells (Cs.vals nH y++[Value.slice u.1 u.2.1 u.2.2,Value.slice v.1 v.2.1 v.2.2]).toArray 142 (0,0)):=hb;rw[hy] at hb;have s1:=f1.size;have s2:=f2.size;have s3:=f3.size;refine⟨g,rfl,⟨⟨u,v,hb,(hu.af f3).af f4,hv.af f4,fun k ft=>?_,fun k ft=>?_⟩,?_⟩,((f1.trans f2).trans f3).trans f4⟩
 ·have:=uf k ft;have:=aF.lt hu ft;omega
 ·have:=vf k ft;have:=aF.lt hv ft;omega
 ·omega
theorem IH {kb:List UInt8}(U:kb.length=16){h:Int}(h0:0<=h)(h1:h<18446744073709551616){x:eW}(hx:dB x.1){w:World}(ht:TabW w):
  Ret Tryz.prog 159 #[.agg (cT kb).toArray,.int .u64 h,.agg (ji x).toArray] w fun r w'=>r=.tuple #[.int .u64 (fm kb h x).1,.int .i64 (fm kb h x).2]/\Fr none1 w w':=by
 refine c159 (cT kb) h (kU x.1.e x.2) w _ ?_;unfold C159;refine ak.of fun g1 w1 df au f1 ka=>ak.of fun g3 w3 qe aU f3 o6=>?_;refine aq.aE (cks:=nv) (x:=kU x.1.e x.2) aU ?_;have f13:=f1.trans f3;have hz:=hx.e;have jY:=tz x.1.t;refine ab.of (Ml x.1.e x.2 (vm x.1.t) hz (bp x.1.t).1 (by omega) (bp x.1.t).2 w3 (fun _ wa fa=>BT x.1.t hx.2.2.2.2 wa (ht.af (f13.trans fa)))) ?_;rintro _ w4 ⟨b,rfl,hb,f4,bf⟩;refine⟨(b,(gj x).2,()),rfl,?_⟩;have hb:cg w4 b (gj x).1:=hb;unfold fm;refine aa.ne (fun ay=>?_) (fun he=>?_)
 ·rw[if_pos ay];exact⟨rfl,f13.trans f4⟩
 rw[if_neg (fun t=>t he)];refine aD.of fun w5 _ f5=>aV.of (fun k=>k=g1) ⟨rfl,?_⟩;have f35:=f4.trans f5;refine eI.of (f35.af (f3.af au)) (by rw[kD,U]) ?_;have lj:(gj x).1.length<=100000000:=by
  have oh:=zL x.1.e hz (bp x.1.t).1 (by omega) (bp x.1.t).2;have oh:(du x.1).1.length<=_:=oh;unfold gj tE;split
  ·simp
  ·simp only[List.length_cons]
   have:(iZ x.1.e (bp x.1.t).1 (bp x.1.t).2).1.length<=_:=oh;omega
 refine ab.of (M3 h h0 h1 w5) ?_;rintro _ w6 ⟨u,rfl,hu,f6,uf⟩;refine⟨u,rfl,ai.of f6 ?_⟩;have s1:=f1.size;have s3:=f3.size;have s35:=f35.size;refine VE hu ((hb.af f5).af f6) (by rw[qa];omega) fun v w7 hv f7 _=>ai.on f7 (fun k U q=>by have:=uf k q;omega) ?_;refine ab.of (GP U hv.rd hv.cap (by rw[List.length_append,qa];omega)) ?_;rintro _ w8 ⟨rfl,f8⟩;have f57:Fr none1 w5 w7:=f6.comp f7 fun k U q=>by have:=uf k q;omega
 exact⟨_,rfl,ai.of f8 ⟨rfl,((f13.trans f35).trans f57).trans f8⟩⟩
def C90  (w:World) (K:Value->World->Prop):Prop:=
 ab Tryz.prog 147 #[] w (.v (.one .ptr)) (fun(x1:Option Addr) w2=>ak (.map #[] 0) w2 (fun g3 w4=>ak (.cells #[.int .i64 0,.slice none 0 0,.pointer x1,.map (some g3)] 175) w4 (fun g5 w6=>K (.pointer (some (ad g5))) w6)))
def pl90:aB:=.auto
theorem c90  (w:World) (K:Value->World->Prop) (h:C90  w K):Ret Tryz.prog 90 #[] w K:=aC (by kernel_rfl) Tryz.func90 (p:=pl90) (Eq.mpr (by kernel_rfl) h)
def C83 (p0:Addr)(w:World)(K:Value->World->Prop):Prop:=
 aD w (fun w1=>aV (fun S2=>av S2 (p0.add 0) (ae (.int .i64) (p0.add 0) w1 (fun(x3:Int)=>av S2 (p0.add 1) (ae .aj (p0.add 1) w1 (fun(x4:an)=>av S2 (p0.add 2) (ae .ptr (p0.add 2) w1 (fun(x5:Option Addr)=>av S2 (p0.add 3) (ae .map (p0.add 3) w1 (fun(x6:Option Nat)=>ab Tryz.prog 140 #[.slice x4.1 x4.2.1 x4.2.2] w1 (.v (.one .aj)) (fun(x7:an) w8=>ai S2 w1 w8 (ab Tryz.prog 141 #[.pointer x5] w8 (.v (.one .ptr)) (fun(x9:Option Addr) aG=>ai S2 w8 aG (ab Tryz.prog 142 #[.map x6] aG (.v (.one .map)) (fun(ba:Option Nat) aM=>ai S2 aG aM (ak (.cells #[.int .i64 x3,.slice x7.1 x7.2.1 x7.2.2,.pointer x9,.map ba] 175) aM (fun g13 bm=>ai S2 aM bm (K (.pointer (some (ad g13))) bm))))))))))))))))))
def pl83:aB:=(.seq .auto (.seq (.held (.soft 0 (.soft 1 (.soft 2 (.soft 3 (.soft 4 (.soft 5 (.soft 6 (.soft 7 (.soft 9 (.soft 10 (.soft 11 (.soft 12 (.soft 14 (.soft 15 (.soft 16 (.soft 17 (.pick 8 (.pick 13 (.pick 18 (.soft 19 (.pick 20 (.soft 21 .done) .stop)) .stop) .stop) .stop)))))))))))))))))) .auto))
theorem c83 (p0:Addr)(w:World)(K:Value->World->Prop)(h:C83 p0 w K):Ret Tryz.prog 83 #[.pointer (some p0)] w K:=aC (by kernel_rfl) Tryz.func83 (p:=pl83) (Eq.mpr (by kernel_rfl) h)
def C235 (p0:Addr)(w:World)(K:Value->World->Prop):Prop:=
 ae .aj (p0.add 1) w (fun(x1:an)=>bw (an×an×Int×Unit) (fun _ s2 w3 Hf=>aa (decide (s2.2.2.1<(x1.2.1:Int)))
 (bK x1.1 x1.2.1 s2.2.2.1 3 (fun a5=>aq [.str,.int .i64,.raw] a5 w3 (fun(x6:ByteArray×Int×Value×Unit)=>ak (.cells #[.string (⟨#[]⟩:ByteArray),.int .i64 0,.nilIface] 262) w3 (fun g7 w8=>ar (ad g7) [.string x6.1,.int .i64 x6.2.1,x6.2.2.1] w8 (fun w9=>aD w9 (fun aG=>aV (fun AJ=>av AJ ((ad g7).add 0) (ae .str ((ad g7).add 0) aG (fun(bt:ByteArray)=>av AJ ((ad g7).add 2) (ae .raw ((ad g7).add 2) aG (fun(bD:Value)=>av AJ ((ad g7).add 1) (ae (.int .i64) ((ad g7).add 1) aG (fun(bd:Int)=>av AJ (p0.add 2) (ae .ptr (p0.add 2) aG (fun(bj:Option Addr)=>ab Tryz.prog 233 #[.string bt,bD,.int .i64 bd,.pointer bj] aG (.aN [.one .aj,.one .aj,.one (.int .i64)]) (fun(aQ:an×an×Int×Unit) b9=>ai AJ aG b9 (aa (aQ.2.2.1 != 0)
 (K (.tuple #[.slice none 0 0,.slice none 0 0,.int .i64 aQ.2.2.1]) b9)
 (az Tryz.prog (Builtin.append_ #[163,163] 163 #[.slice s2.1.1 s2.1.2.1 s2.1.2.2,.slice aQ.1.1 aQ.1.2.1 aQ.1.2.2]) b9 (.v (.one .aj)) (fun(br:an) bx=>az Tryz.prog (Builtin.append_ #[151,151] 151 #[.slice s2.2.1.1 s2.2.1.2.1 s2.2.1.2.2,.slice aQ.2.1.1 aQ.2.1.2.1 aQ.2.1.2.2]) bx (.v (.one .aj)) (fun(cw:an) bB=>Hf ((br.1,br.2.1,br.2.2),(cw.1,cw.2.1,cw.2.2),IntKind.i64.wrap (s2.2.2.1+1),()) bB))))))))))))))))))))
 (K (.tuple #[.slice s2.1.1 s2.1.2.1 s2.1.2.2,.slice s2.2.1.1 s2.2.1.2.1 s2.2.1.2.2,.int .i64 0]) w3))
 ((none,0,0),(none,0,0),0,()) w)
def pl235:aB:=(.seq .auto (.seq .auto (.seq .auto (.seq (.seq .auto (.block (.loop [(5,.one .aj),(6,.one .aj),(17,.one (.int .i64))] (.seq .auto (.seq .auto (.seq (.block (.seq .auto (.seq (.held (.soft 0 (.soft 1 (.soft 2 (.soft 3 (.soft 4 (.soft 5 (.soft 6 (.soft 7 (.soft 8 (.soft 9 (.pick 10 (.soft 11 (.soft 12 (.soft 13 (.soft 14 (.soft 15 (.soft 16 (.soft 17 .done))))))) .stop)))))))))))) .auto))) .auto)))))) .auto))))
theorem c235 (p0:Addr)(w:World)(K:Value->World->Prop)(h:C235 p0 w K):Ret Tryz.prog 235 #[.pointer (some p0)] w K:=aC (by kernel_rfl) Tryz.func235 (p:=pl235) (Eq.mpr (by kernel_rfl) h)
def C261 (p0:Addr)(w:World)(K:Value->World->Prop):Prop:=
 ab Tryz.prog 235 #[.pointer (some p0)] w (.aN [.one .aj,.one .aj,.one (.int .i64)]) (fun(x1:an×an×Int×Unit) w2=>K (.slice x1.1.1 x1.1.2.1 x1.1.2.2) w2)
def pl261:aB:=.auto
theorem c261 (p0:Addr)(w:World)(K:Value->World->Prop)(h:C261 p0 w K):Ret Tryz.prog 261 #[.pointer (some p0)] w K:=aC (by kernel_rfl) Tryz.func261 (p:=pl261) (Eq.mpr (by kernel_rfl) h)
def C260 (p0:Addr)(p1:Int)(p2:ByteArray)(w:World)(K:Value->World->Prop):Prop:=
 ae .map (p0.add 3) w (fun(x1:Option Nat)=>az Tryz.prog (Instr.lookup 173 (.map x1) (.agg #[.int .i64 p1,.string p2]) false) w (.v (.one (.int .i64))) (fun(x2:Int) w3=>K (.int .i64 x2) w3))
def pl260:aB:=.auto
theorem c260 (p0:Addr)(p1:Int)(p2:ByteArray)(w:World)(K:Value->World->Prop)(h:C260 p0 p1 p2 w K):Ret Tryz.prog 260 #[.pointer (some p0),.int .i64 p1,.string p2] w K:=aC (by kernel_rfl) Tryz.func260 (p:=pl260) (Eq.mpr (by kernel_rfl) h)
def C241 (p0:Addr)(p1:Int)(p2:ByteArray)(w:World)(K:Value->World->Prop):Prop:=
 ab Tryz.prog 260 #[.pointer (some p0),.int .i64 p1,.string p2] w (.v (.one (.int .i64))) (fun(x1:Int) w2=>ab Tryz.prog 261 #[.pointer (some p0)] w2 (.v (.one .aj)) (fun(x3:an) w4=>bw (Int×Int×Unit) (fun _ s5 w6 tk=>aa (decide (s5.2.1<(x3.2.1:Int)))
 (bK x3.1 x3.2.1 s5.2.1 3 (fun a8=>aq [.int .i64,.str,.int .i64] a8 w6 (fun(x9:Int×ByteArray×Int×Unit)=>ak (.cells #[.int .i64 0,.string (⟨#[]⟩:ByteArray),.int .i64 0] 219) w6 (fun g10 aO=>ar (ad g10) [.int .i64 x9.1,.string x9.2.1,.int .i64 x9.2.2.1] aO (fun aM=>ae (.int .i64) ((ad g10).add 0) aM (fun(bD:Int)=>aa (bD==p1)
 (ae .str ((ad g10).add 1) aM (fun(bd:ByteArray)=>aa (bd.toList==p2.toList)
 (ae (.int .i64) ((ad g10).add 2) aM (fun(bj:Int)=>tk (IntKind.i64.wrap (s5.1+bj),IntKind.i64.wrap (s5.2.1+1),()) aM))
 (tk (s5.1,IntKind.i64.wrap (s5.2.1+1),()) aM)))
 (tk (s5.1,IntKind.i64.wrap (s5.2.1+1),()) aM)))))))
 (K (.int .i64 s5.1) w6))
 (IntKind.i64.wrap (0 - x1),0,()) w4))
def pl241:aB:=(.seq .auto (.seq .auto (.seq (.seq .auto (.block (.loop [(7,.one (.int .i64)),(18,.one (.int .i64))] .auto))) .auto)))
theorem c241 (p0:Addr)(p1:Int)(p2:ByteArray)(w:World)(K:Value->World->Prop)(h:C241 p0 p1 p2 w K):Ret Tryz.prog 241 #[.pointer (some p0),.int .i64 p1,.string p2] w K:=aC (by kernel_rfl) Tryz.func241 (p:=pl241) (Eq.mpr (by kernel_rfl) h)
def C195 (p0:Addr)(p1:bE)(w:World)(K:Value->World->Prop):Prop:=
 ak (.cells ((bP p1).toArray) 36) w (fun g1 w2=>ae .aj (p0.add 1) w2 (fun(x3:an)=>ab Tryz.prog 231 #[.slice x3.1 x3.2.1 x3.2.2,.func (.func 232) #[] #[.pointer (some (ad g1))]] w2 (.v (.one .bool)) (fun(x4:Bool) w5=>aa x4
 (K (.int .i64 4) w5)
 (ae .aj (p0.add 1) w5 (fun(x6:an)=>aa (decide ((x6.2.1:Int) >= 8))
 (K (.int .i64 5) w5)
 (aD w5 (fun w7=>aV (fun S8=>av S8 ((ad g1).add 1) (ae .str ((ad g1).add 1) w7 (fun(x9:ByteArray)=>av S8 ((ad g1).add 7) (ae .raw ((ad g1).add 7) w7 (fun(aR:Value)=>av S8 (p0.add 0) (ae (.int .i64) (p0.add 0) w7 (fun(ba:Int)=>av S8 (p0.add 2) (ae .ptr (p0.add 2) w7 (fun(bt:Option Addr)=>ab Tryz.prog 233 #[.string x9,aR,.int .i64 ba,.pointer bt] w7 (.aN [.one .aj,.one .aj,.one (.int .i64)]) (fun(bD:an×an×Int×Unit) bm=>aa (bD.2.2.1 != 0)
 (K (.int .i64 bD.2.2.1) bm)
 (aD bm (fun bL=>aV (fun ub=>av ub (p0.add 1) (ae .aj (p0.add 1) bL (fun(aX:an)=>av ub ((ad g1).add 1) (ae .str ((ad g1).add 1) bL (fun(br:ByteArray)=>av ub (p0.add 0) (ae (.int .i64) (p0.add 0) bL (fun(bu:Int)=>av ub ((ad g1).add 7) (ae .raw ((ad g1).add 7) bL (fun(cw:Value)=>iV cw (kG (ab Tryz.prog 140 #[.slice aX.1 aX.2.1 aX.2.2] bL (.v (.one .aj)) (fun(bT:an) bN=>ai ub bL bN (az Tryz.prog (Instr.buildSlice 171 1 #[(0,.agg #[.string br,.int .i64 bu,cw])]) bN (.v (.one .aj)) (fun(cr:an) cm=>ai ub bN cm (az Tryz.prog (Builtin.append_ #[171,171] 171 #[.slice bT.1 bT.2.1 bT.2.2,.slice cr.1 cr.2.1 cr.2.2]) cm (.v (.one .aj)) (fun(bC:an) ct=>aA (p0.add 1) (.slice bC.1 bC.2.1 bC.2.2) ct (fun eJ=>K (.int .i64 0) eJ)))))))
 (az Tryz.prog (Instr.buildSlice 171 1 #[(0,.agg #[.string br,.int .i64 bu,cw])]) bL (.v (.one .aj)) (fun(eN:an) et=>ai ub bL et (ab Tryz.prog 140 #[.slice aX.1 aX.2.1 aX.2.2] et (.v (.one .aj)) (fun(eg:an) fh=>ai ub et fh (az Tryz.prog (Builtin.append_ #[171,171] 171 #[.slice eg.1 eg.2.1 eg.2.2,.slice eN.1 eN.2.1 eN.2.2]) fh (.v (.one .aj)) (fun(dK:an) dS=>aA (p0.add 1) (.slice dK.1 dK.2.1 dK.2.2) dS (fun gh=>K (.int .i64 0) gh))))))))))))))))))))))))))))))))))))
def pl195:aB:=(.seq .auto (.seq .auto (.seq (.seq (.held (.soft 0 (.soft 1 (.soft 2 (.soft 3 (.soft 4 (.soft 5 (.soft 6 (.soft 7 (.soft 8 (.soft 9 (.soft 10 (.soft 11 (.last 12 (.soft 13 (.soft 14 (.soft 15 (.soft 16 (.soft 17 (.soft 18 (.soft 19 .done))))))))))))))))))))) .auto) (.seq (.held (.soft 0 (.soft 1 (.soft 2 (.soft 3 (.soft 4 (.soft 6 (.soft 7 (.soft 8 (.soft 9 (.soft 10 (.soft 11 (.soft 12 (.soft 13 (.soft 14 (.pick 5 (.pick 15 (.last 16 (.soft 17 (.soft 18 (.last 19 .done)))) .stop) (.pick 15 (.pick 5 (.last 16 (.soft 17 (.soft 18 (.last 19 .done)))) .stop) .stop))))))))))))))))) .auto))))
theorem c195 (p0:Addr)(p1:bE)(w:World)(K:Value->World->Prop)(h:C195 p0 p1 w K):Ret Tryz.prog 195 #[.pointer (some p0),.agg (bP p1).toArray] w K:=aC (by kernel_rfl) Tryz.func195 (p:=pl195) (Eq.mpr (by kernel_rfl) h)
def C232 (p0:ByteArray×Int×Value×Unit)(c0:Addr)(w:World)(K:Value->World->Prop):Prop:=
 ak (.cells #[.string p0.1,.int .i64 p0.2.1,p0.2.2.1] 262) w (fun g1 w2=>ae .str ((ad g1).add 0) w2 (fun(x3:ByteArray)=>ae .str (c0.add 1) w2 (fun(x4:ByteArray)=>K (.bool (x3.toList==x4.toList)) w2)))
def pl232:aB:=.auto
theorem c232 (p0:ByteArray×Int×Value×Unit)(c0:Addr)(w:World)(K:Value->World->Prop)(h:C232 p0 c0 w K):Ret Tryz.prog 232 #[.agg #[.string p0.1,.int .i64 p0.2.1,p0.2.2.1],.pointer (some c0)] w K:=aC (by kernel_rfl) Tryz.func232 (p:=pl232) (Eq.mpr (by kernel_rfl) h)
def C196 (p0:Addr)(p1:bE)(w:World)(K:Value->World->Prop):Prop:=
 ak (.cells ((bP p1).toArray) 36) w (fun g1 w2=>aD w2 (fun w3=>ae (.int .i64) ((ad g1).add 5) w3 (fun(x4:Int)=>ae (.int .i64) (p0.add 0) w3 (fun(x5:Int)=>aa (decide (x4 > x5))
 (K (.int .i64 7) w3)
 (aD w3 (fun w6=>ae .ptr (p0.add 2) w6 (fun(x7:Option Addr)=>ae .str ((ad g1).add 2) w6 (fun(x8:ByteArray)=>ae (.int .i64) ((ad g1).add 5) w6 (fun(x9:Int)=>ae (.int .i64) ((ad g1).add 6) w6 (fun(aR:Int)=>ab Tryz.prog 234 #[.pointer x7,.string x8,.int .i64 x9,.int .i64 aR] w6 (.v (.one (.int .i64))) (fun(ba:Int) aM=>aa (ba != 0)
 (K (.int .i64 ba) aM)
 (ab Tryz.prog 235 #[.pointer (some p0)] aM (.aN [.one .aj,.one .aj,.one (.int .i64)]) (fun(bD:an×an×Int×Unit) bm=>K (.int .i64 bD.2.2.1) bm)))))))))))))
def pl196:aB:=(.seq .auto (.seq (.seq .still .auto) (.seq (.seq (.tail 10) .auto) .auto)))
theorem c196 (p0:Addr)(p1:bE)(w:World)(K:Value->World->Prop)(h:C196 p0 p1 w K):Ret Tryz.prog 196 #[.pointer (some p0),.agg (bP p1).toArray] w K:=aC (by kernel_rfl) Tryz.func196 (p:=pl196) (Eq.mpr (by kernel_rfl) h)
def C197 (p0:Addr)(p1:bE)(p2:Int)(w:World)(K:Value->World->Prop):Prop:=
 ak (.cells ((bP p1).toArray) 36) w (fun g1 w2=>ae .aj (p0.add 1) w2 (fun(x3:an)=>ab Tryz.prog 236 #[.slice x3.1 x3.2.1 x3.2.2,.func (.func 237) #[] #[.pointer (some (ad g1))]] w2 (.v (.one (.int .i64))) (fun(x4:Int) w5=>aa (decide (x4<0))
 (K (.int .i64 3) w5)
 (ae .aj (p0.add 1) w5 (fun(x6:an)=>bK x6.1 x6.2.1 x4 3 (fun a7=>aq [.str,.int .i64,.raw] a7 w5 (fun(x8:ByteArray×Int×Value×Unit)=>ak (.cells #[.string (⟨#[]⟩:ByteArray),.int .i64 0,.nilIface] 262) w5 (fun g9 aG=>ar (ad g9) [.string x8.1,.int .i64 x8.2.1,x8.2.2.1] aG (fun aO=>aD aO (fun aM=>aV (fun eU=>av eU ((ad g9).add 0) (ae .str ((ad g9).add 0) aM (fun(bd:ByteArray)=>av eU ((ad g9).add 2) (ae .raw ((ad g9).add 2) aM (fun(bj:Value)=>av eU ((ad g9).add 1) (ae (.int .i64) ((ad g9).add 1) aM (fun(aQ:Int)=>av eU (p0.add 2) (ae .ptr (p0.add 2) aM (fun(aX:Option Addr)=>ab Tryz.prog 233 #[.string bd,bj,.int .i64 aQ,.pointer aX] aM (.aN [.one .aj,.one .aj,.one (.int .i64)]) (fun(br:an×an×Int×Unit) bx=>ai eU aM bx (ab Tryz.prog 238 #[.slice br.2.1.1 br.2.1.2.1 br.2.1.2.2,.func (.func 239) #[] #[.pointer (some (ad g1))]] bx (.v (.one (.int .i64))) (fun(cw:Int) bB=>aa (decide (cw<0))
 (K (.int .i64 3) bB)
 (aD bB (fun bN=>bK br.2.1.1 br.2.1.2.1 cw 5 (fun a23=>ae (.int .i64) (a23.add 3) bN (fun(cj:Int)=>ae (.int .i64) (p0.add 0) bN (fun(bC:Int)=>aa (decide (cj > bC))
 (K (.int .i64 7) bN)
 (bK br.2.1.1 br.2.1.2.1 cw 5 (fun GR=>ae (.int .i64) (GR.add 4) bN (fun(cz:Int)=>aa (cz != p2)
 (K (.int .i64 8) bN)
 (aD bN (fun bS=>ae .ptr (p0.add 2) bS (fun(cx:Option Addr)=>ae .str ((ad g1).add 1) bS (fun(eg:ByteArray)=>ae .str ((ad g1).add 3) bS (fun(bZ:ByteArray)=>ae (.int .i64) ((ad g1).add 6) bS (fun(dK:Int)=>ae (.int .i64) (p0.add 0) bS (fun(dp:Int)=>ab Tryz.prog 240 #[.pointer cx,.string eg,.string bZ,.int .i64 dK,.int .i64 dp] bS (.v (.one (.int .i64))) (fun(dj:Int) dX=>aa (dj != 0)
 (K (.int .i64 dj) dX)
 (aD dX (fun cQ=>aV (fun AK=>av AK ((ad g9).add 0) (ae .str ((ad g9).add 0) cQ (fun(dF:ByteArray)=>av AK ((ad g9).add 2) (ae .raw ((ad g9).add 2) cQ (fun(eP:Value)=>av AK ((ad g9).add 1) (ae (.int .i64) ((ad g9).add 1) cQ (fun(iX:Int)=>av AK (p0.add 2) (ae .ptr (p0.add 2) cQ (fun(ek:Option Addr)=>ab Tryz.prog 233 #[.string dF,eP,.int .i64 iX,.pointer ek] cQ (.aN [.one .aj,.one .aj,.one (.int .i64)]) (fun(iQ:an×an×Int×Unit) kq=>ai AK cQ kq (K (.int .i64 iQ.2.2.1) kq)))))))))))))))))))))))))))))))))))))))))))))))))))
def pl197:aB:=(.seq .auto (.seq .auto (.seq .auto (.seq .auto (.seq (.held (.soft 0 (.soft 1 (.soft 2 (.soft 3 (.soft 4 (.soft 5 (.soft 6 (.soft 7 (.soft 8 (.soft 9 (.pick 10 (.soft 11 (.soft 12 (.soft 13 (.soft 14 (.soft 15 (.soft 16 (.soft 17 .done))))))) .stop)))))))))))) (.seq .auto (.seq (.block (.seq .auto (.cond .auto (.seq .still .auto)))) (.seq (.seq (.tail 14) .auto) (.seq (.held (.soft 0 (.soft 1 (.soft 2 (.soft 3 (.soft 4 (.soft 5 (.soft 6 (.soft 7 (.soft 8 (.soft 9 (.pick 10 (.soft 11 (.soft 12 (.soft 13 (.soft 14 (.soft 15 (.soft 16 (.soft 17 .done))))))) .stop)))))))))))) .auto)))))))))
theorem c197 (p0:Addr)(p1:bE)(p2:Int)(w:World)(K:Value->World->Prop)(h:C197 p0 p1 p2 w K):Ret Tryz.prog 197 #[.pointer (some p0),.agg (bP p1).toArray,.int .i64 p2] w K:=aC (by kernel_rfl) Tryz.func197 (p:=pl197) (Eq.mpr (by kernel_rfl) h)
def C237 (p0:ByteArray×Int×Value×Unit)(c0:Addr)(w:World)(K:Value->World->Prop):Prop:=
 ak (.cells #[.string p0.1,.int .i64 p0.2.1,p0.2.2.1] 262) w (fun g1 w2=>ae .str ((ad g1).add 0) w2 (fun(x3:ByteArray)=>ae .str (c0.add 1) w2 (fun(x4:ByteArray)=>K (.bool (x3.toList==x4.toList)) w2)))
def pl237:aB:=.auto
theorem c237 (p0:ByteArray×Int×Value×Unit)(c0:Addr)(w:World)(K:Value->World->Prop)(h:C237 p0 c0 w K):Ret Tryz.prog 237 #[.agg #[.string p0.1,.int .i64 p0.2.1,p0.2.2.1],.pointer (some c0)] w K:=aC (by kernel_rfl) Tryz.func237 (p:=pl237) (Eq.mpr (by kernel_rfl) h)
def C239 (p0:nR)(c0:Addr)(w:World)(K:Value->World->Prop):Prop:=
 ak (.cells ((mS p0).toArray) 154) w (fun g1 w2=>ae .bool ((ad g1).add 0) w2 (fun(x3:Bool)=>aa x3
 (ae .str ((ad g1).add 2) w2 (fun(x4:ByteArray)=>ae .str (c0.add 3) w2 (fun(x5:ByteArray)=>K (.bool (x4.toList==x5.toList)) w2)))
 (K (.bool false) w2)))
def pl239:aB:=.auto
theorem c239 (p0:nR)(c0:Addr)(w:World)(K:Value->World->Prop)(h:C239 p0 c0 w K):Ret Tryz.prog 239 #[.agg (mS p0).toArray,.pointer (some c0)] w K:=aC (by kernel_rfl) Tryz.func239 (p:=pl239) (Eq.mpr (by kernel_rfl) h)
def C198 (p0:Addr)(p1:bE)(w:World)(K:Value->World->Prop):Prop:=
 ak (.cells ((bP p1).toArray) 36) w (fun g1 w2=>ae (.int .i64) ((ad g1).add 5) w2 (fun(x3:Int)=>ae .str ((ad g1).add 4) w2 (fun(x4:ByteArray)=>ab Tryz.prog 241 #[.pointer (some p0),.int .i64 x3,.string x4] w2 (.v (.one (.int .i64))) (fun(x5:Int) w6=>aD w6 (fun w7=>ae (.int .i64) ((ad g1).add 5) w7 (fun(x8:Int)=>ae (.int .i64) (p0.add 0) w7 (fun(x9:Int)=>aa (decide (x8 > x9))
 (K (.int .i64 7) w7)
 (aa (x5==0)
 (K (.int .i64 3) w7)
 (ae (.int .i64) ((ad g1).add 6) w7 (fun(aR:Int)=>aa (x5 != aR)
 (K (.int .i64 1) w7)
 (aD w7 (fun aO=>aV (fun nI=>av nI (p0.add 3) (ae .map (p0.add 3) aO (fun(bD:Option Nat)=>av nI ((ad g1).add 5) (ae (.int .i64) ((ad g1).add 5) aO (fun(bd:Int)=>av nI ((ad g1).add 4) (ae .str ((ad g1).add 4) aO (fun(bj:ByteArray)=>kG (az Tryz.prog (Instr.lookup 173 (.map bD) (.agg #[.int .i64 bd,.string bj]) false) aO (.v (.one (.int .i64))) (fun(aQ:Int) b9=>ai nI aO b9 (az Tryz.prog (Instr.mapEntry 173 (.map bD) (.agg #[.int .i64 bd,.string bj])) b9 (.aN [.one (.int .i64),.one (.int .i64)]) (fun(br:Int×Int×Unit) bx=>jm Tryz.prog (Instr.entryStore 173 (.map bD) (.int .i64 br.2.1) (.int .i64 (IntKind.i64.wrap (aQ+x5)))) bx (fun bo=>K (.int .i64 0) bo)))))
 (az Tryz.prog (Instr.mapEntry 173 (.map bD) (.agg #[.int .i64 bd,.string bj])) aO (.aN [.one (.int .i64),.one (.int .i64)]) (fun(bT:Int×Int×Unit) bN=>ai nI aO bN (az Tryz.prog (Instr.lookup 173 (.map bD) (.agg #[.int .i64 bd,.string bj]) false) bN (.v (.one (.int .i64))) (fun(cr:Int) cm=>jm Tryz.prog (Instr.entryStore 173 (.map bD) (.int .i64 bT.2.1) (.int .i64 (IntKind.i64.wrap (cr+x5)))) cm (fun dk=>K (.int .i64 0) dk))))))))))))))))))))))))
def pl198:aB:=(.seq .auto (.seq .auto (.seq (.block (.seq .still .auto)) (.seq (.held (.soft 0 (.soft 1 (.soft 2 (.soft 3 (.soft 4 (.soft 5 (.soft 6 (.soft 7 (.soft 8 (.soft 10 (.pick 9 (.soft 11 (.last 12 (.soft 13 (.last 14 .done)))) (.pick 12 (.soft 13 (.last 9 (.soft 11 (.last 14 .done)))) .stop))))))))))))) .auto))))
theorem c198 (p0:Addr)(p1:bE)(w:World)(K:Value->World->Prop)(h:C198 p0 p1 w K):Ret Tryz.prog 198 #[.pointer (some p0),.agg (bP p1).toArray] w K:=aC (by kernel_rfl) Tryz.func198 (p:=pl198) (Eq.mpr (by kernel_rfl) h)
def C152 (p0:Addr)(p1:bE)(p2:Int)(w:World)(K:Value->World->Prop):Prop:=
 ak (.cells ((bP p1).toArray) 36) w (fun g1 w2=>cq (Bool×Unit) (fun J3=>aa (p2 != 0)
 (J3 ((p2 != 1),()) w2)
 (J3 (false,()) w2))
 (fun _ s4 w5=>aa s4.1
 (K (.int .i64 1) w5)
 (aq dt (ad g1) w5 (fun(x6:bE)=>ab Tryz.prog 70 #[.agg (bP x6).toArray] w5 (.v (.one (.int .i64))) (fun(x7:Int) w8=>aa (x7 != 0)
 (K (.int .i64 x7) w8)
 (ae (.int .i64) ((ad g1).add 0) w8 (fun(x9:Int)=>aa (x9==2)
 (aq dt (ad g1) w8 (fun(aR:bE)=>ab Tryz.prog 195 #[.pointer (some p0),.agg (bP aR).toArray] w8 (.v (.one (.int .i64))) (fun(ba:Int) aM=>K (.int .i64 ba) aM)))
 (aa (x9==3)
 (aq dt (ad g1) w8 (fun(bD:bE)=>ab Tryz.prog 196 #[.pointer (some p0),.agg (bP bD).toArray] w8 (.v (.one (.int .i64))) (fun(bd:Int) bL=>K (.int .i64 bd) bL)))
 (aa (x9==4)
 (aq dt (ad g1) w8 (fun(aQ:bE)=>ab Tryz.prog 197 #[.pointer (some p0),.agg (bP aQ).toArray,.int .i64 p2] w8 (.v (.one (.int .i64))) (fun(aX:Int) bz=>K (.int .i64 aX) bz)))
 (aa (x9==6)
 (aq dt (ad g1) w8 (fun(bu:bE)=>ab Tryz.prog 198 #[.pointer (some p0),.agg (bP bu).toArray] w8 (.v (.one (.int .i64))) (fun(cw:Int) bB=>K (.int .i64 cw) bB)))
 (aa (x9==5)
 (aD w8 (fun bN=>ae (.int .i64) ((ad g1).add 5) bN (fun(cr:Int)=>ae (.int .i64) (p0.add 0) bN (fun(cj:Int)=>aa (decide (cr<=cj))
 (K (.int .i64 7) bN)
 (ae (.int .i64) ((ad g1).add 5) bN (fun(bC:Int)=>aA (p0.add 0) (.int .i64 bC) bN (fun ct=>K (.int .i64 0) ct)))))))
 (K (.int .i64 0) w8))))))))))))
def pl152:aB:=(.seq .auto (.seq (.join [(13,.one .bool)] .auto .auto) (.seq .auto (.seq (.seq .auto (.block (.seq .auto (.cond .auto (.seq .auto (.cond .auto (.seq .auto (.cond .auto (.seq .auto (.cond .auto (.seq .auto (.cond (.seq (.seq .still .auto) .auto) .auto)))))))))))) .auto))))
theorem c152 (p0:Addr)(p1:bE)(p2:Int)(w:World)(K:Value->World->Prop)(h:C152 p0 p1 p2 w K):Ret Tryz.prog 152 #[.pointer (some p0),.agg (bP p1).toArray,.int .i64 p2] w K:=aC (by kernel_rfl) Tryz.func152 (p:=pl152) (Eq.mpr (by kernel_rfl) h)
def C98 (p0:Addr)(p1:bE)(p2:Int)(w:World)(K:Value->World->Prop):Prop:=
 ak (.cells ((bP p1).toArray) 36) w (fun g1 w2=>aD w2 (fun w3=>aV (fun S4=>av S4 (ad g1) (aq dt (ad g1) w3 (fun(x5:bE)=>ab Tryz.prog 83 #[.pointer (some p0)] w3 (.v (.one .ptr)) (fun(x6:Option Addr) w7=>ai S4 w3 w7 (ab Tryz.prog 152 #[.pointer x6,.agg (bP x5).toArray,.int .i64 p2] w7 (.v (.one (.int .i64))) (fun(x8:Int) w9=>ai S4 w7 w9 (K (.int .i64 x8) w9)))))))))
def pl98:aB:=(.seq .auto (.seq (.held (.soft 0 (.soft 2 (.soft 3 (.pick 1 (.pick 4 (.soft 5 .done) .stop) .stop))))) .auto))
theorem c98 (p0:Addr)(p1:bE)(p2:Int)(w:World)(K:Value->World->Prop)(h:C98 p0 p1 p2 w K):Ret Tryz.prog 98 #[.pointer (some p0),.agg (bP p1).toArray,.int .i64 p2] w K:=aC (by kernel_rfl) Tryz.func98 (p:=pl98) (Eq.mpr (by kernel_rfl) h)
def C190 (p0:Addr)(p1:bE)(p2:Int)(w:World)(K:Value->World->Prop):Prop:=
 ak (.cells ((bP p1).toArray) 36) w (fun g1 w2=>ab Tryz.prog 83 #[.pointer (some p0)] w2 (.v (.one .ptr)) (fun(x3:Option Addr) w4=>aq dt (ad g1) w4 (fun(x5:bE)=>ab Tryz.prog 152 #[.pointer x3,.agg (bP x5).toArray,.int .i64 p2] w4 (.v (.one (.int .i64))) (fun(x6:Int) w7=>aa (x6==0)
 (jB x3 (fun a8=>aq RA a8 w7 (fun(x9:Kj)=>ar p0 (RB x9) w7 (fun aG=>K (.int .i64 x6) aG))))
 (K (.int .i64 x6) w7)))))
def pl190:aB:=.auto
theorem c190 (p0:Addr)(p1:bE)(p2:Int)(w:World)(K:Value->World->Prop)(h:C190 p0 p1 p2 w K):Ret Tryz.prog 190 #[.pointer (some p0),.agg (bP p1).toArray,.int .i64 p2] w K:=aC (by kernel_rfl) Tryz.func190 (p:=pl190) (Eq.mpr (by kernel_rfl) h)
def C231 (p0:Option Addr)(aH aP:Nat)(p1:Value)(w:World)(K:Value->World->Prop):Prop:=
 ab Tryz.prog 236 #[.slice p0 aH aP,p1] w (.v (.one (.int .i64))) (fun(x1:Int) w2=>K (.bool (decide (x1 >= 0))) w2)
def pl231:aB:=.auto
theorem c231 (p0:Option Addr)(aH aP:Nat)(p1:Value)(w:World)(K:Value->World->Prop)(h:C231 p0 aH aP p1 w K):Ret Tryz.prog 231 #[.slice p0 aH aP,p1] w K:=aC (by kernel_rfl) Tryz.func231 (p:=pl231) (Eq.mpr (by kernel_rfl) h)
def C236 (p0:Option Addr)(aH aP:Nat)(p1:Value)(w:World)(K:Value->World->Prop):Prop:=
 bw (Int×Unit) (fun _ s1 w2 gm=>aa (decide (s1.1<(aH:Int)))
 (bK p0 aH s1.1 3 (fun a4=>aq [.str,.int .i64,.raw] a4 w2 (fun(x5:ByteArray×Int×Value×Unit)=>kI Tryz.prog p1 [.agg #[.string x5.1,.int .i64 x5.2.1,x5.2.2.1]] (.v (.one .bool)) w2 (fun(x6:Bool) w7=>aa x6
 (K (.int .i64 s1.1) w7)
 (gm (IntKind.i64.wrap (s1.1+1),()) w7)))))
 (K (.int .i64 (-1)) w2))
 (0,()) w
def pl236:aB:=(.seq .auto (.seq (.seq .auto (.block (.loop [(8,.one (.int .i64))] .auto))) .auto))
theorem c236 (p0:Option Addr)(aH aP:Nat)(p1:Value)(w:World)(K:Value->World->Prop)(h:C236 p0 aH aP p1 w K):Ret Tryz.prog 236 #[.slice p0 aH aP,p1] w K:=aC (by kernel_rfl) Tryz.func236 (p:=pl236) (Eq.mpr (by kernel_rfl) h)
def C238 (p0:Option Addr)(aH aP:Nat)(p1:Value)(w:World)(K:Value->World->Prop):Prop:=
 bw (Int×Unit) (fun _ s1 w2 gm=>aa (decide (s1.1<(aH:Int)))
 (bK p0 aH s1.1 5 (fun a4=>aq wE a4 w2 (fun(x5:nR)=>kI Tryz.prog p1 [.agg (mS x5).toArray] (.v (.one .bool)) w2 (fun(x6:Bool) w7=>aa x6
 (K (.int .i64 s1.1) w7)
 (gm (IntKind.i64.wrap (s1.1+1),()) w7)))))
 (K (.int .i64 (-1)) w2))
 (0,()) w
def pl238:aB:=(.seq .auto (.seq (.seq .auto (.block (.loop [(8,.one (.int .i64))] .auto))) .auto))
theorem c238 (p0:Option Addr)(aH aP:Nat)(p1:Value)(w:World)(K:Value->World->Prop)(h:C238 p0 aH aP p1 w K):Ret Tryz.prog 238 #[.slice p0 aH aP,p1] w K:=aC (by kernel_rfl) Tryz.func238 (p:=pl238) (Eq.mpr (by kernel_rfl) h)
abbrev Df:List Ck:=[.str,.int .i64,.raw]
abbrev AL (d:j0):Cs Df:=(str d.1,d.2.1,d.2.2.v,())
def mM (d:j0):List Value:=[.string (str d.1),.int .i64 d.2.1,d.2.2.v]
def rp (l:List j0):List Value:=(l.map mM).flatten
theorem Dg (l:List j0):∀ x∈l.map mM,x.length=3:=by intro x hx;obtain⟨y,_,rfl⟩:=List.mem_map.1 hx;rfl
theorem AM (l:List j0):(rp l).length=l.length * 3:=by unfold rp;rw[xX (Dg l),List.length_map]
theorem aae (l:List j0)(x:j0):rp (l++[x])=rp l++mM x:=by unfold rp;simp
theorem Pp (x:j0):∀ v∈mM x,bI v=true:=by intro v hv;simp[mM] at hv;rcases hv with rfl | rfl | rfl<;>first | rfl | exact Tm.bU _
theorem II (l:List j0):∀ v∈rp l,bI v=true:=by intro v hv;unfold rp at hv;obtain⟨x,hx,hv⟩:=List.mem_flatten.1 hv;obtain⟨y,_,rfl⟩:=List.mem_map.1 hx;exact Pp y v hv
def Dh (k:Int×List UInt8):List Pv:=[.i k.1,.s k.2]
theorem IJ:tV Tryz.prog 266 Dh where
 ty a:=by
  have hf:∃ fs,Tryz.prog.underlying 266=some (.struct fs)/\Tryz.prog.fieldsOf 266=fs:=by
   unfold Program.fieldsOf;rw[Tryz.underlying266];exact⟨_,rfl,rfl⟩
  refine⟨by obtain⟨fs,h1,h2⟩:=hf;rw[h1,h2],by kernel_rfl,by kernel_rfl,?_⟩;unfold Program.fieldsOf;rw[Tryz.underlying266];exact⟨by decide,rfl,Tryz.underlying3,by decide,rfl,Tryz.underlying9,trivial⟩
 inj a b h:=by
  injection h with h1 h2;injection h2 with h2 _;injection h1 with h1;injection h2 with h2
  exact Prod.ext h1 h2
structure qx (w:World)(F:Nat->Prop)(g:Nat)(l:cG)(dl:Sl)(b p:Nat)(G:Nat->Prop):Prop where
 aE:w.heap[g]? = some (.cells #[.int .i64 l.day,.slice dl.1 dl.2.1 dl.2.2,.pointer (some ⟨b,0,none⟩),.map (some p)] 175 (0,0))
 cN:aF w 262 3 dl (rp l.cN)
 wr:ig w G b l.w
 fV:fY Dh sG w p l.fV
 nJ:∀ k,aw dl k->F k/\k≠g/\k≠p/\¬ G k
 gf:∀ k,G k->F k/\k≠g/\k≠p
 pf:F p/\p≠g
 mem:F g
def dZ (w:World)(F:Nat->Prop)(g:Nat)(l:cG):Prop:=∃ dl b p G,qx w F g l dl b p G
theorem qx.ag {w w':World}{F T:Nat->Prop}{g:Nat}{l:cG}{dl:Sl}{b p:Nat}{G:Nat->Prop}(h:qx w F g l dl b p G)(f:Fr T w w')(hT:∀ k,F k->¬ T k):qx w' F g l dl b p G:=
 ⟨f.ag h.aE (hT g h.mem),h.cN.ag f fun k U=>hT k (h.nJ k U).1,h.wr.ag f fun k U=>hT k (h.gf k U).1,h.fV.ag f (hT p h.pf.1),h.nJ,h.gf,h.pf,h.mem⟩
theorem qx.af {w w':World}{F:Nat->Prop}{g:Nat}{l:cG}{dl:Sl}{b p:Nat}{G:Nat->Prop}(h:qx w F g l dl b p G)(f:Fr none1 w w'):qx w' F g l dl b p G:=h.ag f fun _ _ t=>t
theorem dZ.ag {w w':World}{F T:Nat->Prop}{g:Nat}{l:cG}(h:dZ w F g l)(f:Fr T w w')(hT:∀ k,F k->¬ T k):dZ w' F g l:=by
 obtain⟨dl,b,p,G,h⟩:=h;exact⟨dl,b,p,G,h.ag f hT⟩
theorem dZ.af {w w':World}{F:Nat->Prop}{g:Nat}{l:cG}(h:dZ w F g l)(f:Fr none1 w w'):dZ w' F g l:=h.ag f fun _ _ t=>t
theorem dZ.mono {w:World}{F F':Nat->Prop}{g:Nat}{l:cG}(h:dZ w F g l)(hF:∀ k,F k->F' k):dZ w F' g l:=by
 obtain⟨dl,b,p,G,h⟩:=h;exact⟨dl,b,p,G,h.aE,h.cN,h.wr,h.fV,fun k U=>⟨hF k (h.nJ k U).1,(h.nJ k U).2⟩,fun k U=>⟨hF k (h.gf k U).1,(h.gf k U).2⟩,⟨hF p h.pf.1,h.pf.2⟩,hF g h.mem⟩
theorem dZ.mem {w:World}{F:Nat->Prop}{g:Nat}{l:cG}(h:dZ w F g l):F g:=by
 obtain⟨dl,b,p,G,h⟩:=h;exact qx.mem h
def cC (w w':World):Nat->Prop:=fun k=>w.heap.size<=k/\k<w'.heap.size
theorem aaf (w:World):Ret Tryz.prog 90 #[] w fun r w'=>∃ g,r=.pointer (some ⟨g,0,none⟩)/\dZ w' (cC w w') g xu/\Fr none1 w w':=by
 refine c90 w _ ?_;unfold C90;refine ab.of (Zh w) ?_;rintro _ w1 ⟨b,rfl,hw,f1⟩;refine⟨some ⟨b,0,none⟩,rfl,ak.of fun p w2 hp aK f2 gk=>ak.of fun g w3 hg aU f3 o6=>?_⟩;have s1:=f1.size;refine⟨g,rfl,⟨(none,0,0),b,p,_,aU,IB _ _ _,hw.af (f2.trans f3),(fY.new aK).af f3,fun k t=>(ko k t).elim,fun k U=>?_,?_,?_⟩,(f1.trans f2).trans f3⟩
 ·exact⟨⟨U.1,by omega⟩,by omega,by omega⟩
 ·exact⟨⟨by omega,by omega⟩,by omega⟩
 ·exact⟨by omega,by omega⟩
theorem Di {w:World}{F:Nat->Prop}{g:Nat}{l:cG}(h:dZ w F g l)(hl:l.cN.length<=100):Ret Tryz.prog 83 #[.pointer (some ⟨g,0,none⟩)] w fun r w'=>∃ c,r=.pointer (some ⟨c,0,none⟩)/\dZ w' (cC w w') c l/\Fr none1 w w':=by
 obtain⟨dl,b,p,G,h⟩:=h;refine c83 _ w _ ?_;unfold C83;refine aD.of fun w1 _ f1=>aV.all ?_;have h1:=h.af f1;refine av.all (ae.ah h1.aE (x:=l.day) rfl (av.all (ae.ah h1.aE (x:=dl) rfl (av.all (ae.ah h1.aE (x:=some ⟨b,0,none⟩) rfl (av.all (ae.ah h1.aE (x:=some p) rfl ?_)))))));have nZ:=h1.cN.len;rw[AM] at nZ;refine ab.of (ID h1.cN.rd (II _) (by omega)) ?_;rintro _ w2 ⟨u,rfl,hu,f2,uf⟩;refine⟨u,rfl,ai.of f2 ?_⟩;have h2:=h1.af f2;refine ab.of (Zj h2.wr) ?_;rintro _ w3 ⟨c,rfl,hc,f3⟩;refine⟨some ⟨c,0,none⟩,rfl,ai.of f3 ?_⟩;have h3:=h2.af f3;obtain⟨es,cl,hb,he⟩:=h3.fV;have mc:Ret Tryz.prog 142 #[.map (some p)] w3 fun r w'=>r=.map (some w3.heap.size)/\w'=w3.alloc (.map es cl):=Calls.mono (Tryz.Sj p es cl w3 hb) fun e w' ⟨a,b⟩=>⟨_,a,rfl,b⟩;refine ab.of mc ?_;clear mc;rintro _ w4 ⟨rfl,rfl⟩;have f4:Fr none1 w3 (w3.alloc (.map es cl)):=mf w3 _;have n4:=H3 w3 (.map es cl);have s4:=H4 w3 (.map es cl);generalize w3.alloc (.map es cl)=w4 at *;refine⟨some w3.heap.size,rfl,ai.of f4 (ak.of fun q w5 hq cW f5 zU=>ai.of f5 ?_)⟩;have s1:=f1.size;have s2:=f2.size;have s3:=f3.size;refine⟨q,rfl,⟨u,c,w3.heap.size,_,cW,((hu.af f3).af f4).af f5,hc.af (f4.trans f5),⟨es,cl,f5.af n4,he⟩,fun k U=>?_,fun k U=>?_,?_,?_⟩,(((f1.trans f2).trans f3).trans f4).trans f5⟩
 ·have:=uf k U
  have:=aF.lt hu U;exact⟨⟨by omega,by omega⟩,by omega,by omega,fun t=>by have:=t.1;omega⟩
 ·exact⟨⟨by have:=U.1;omega,by have:=U.2;omega⟩,by have:=U.2;omega,by have:=U.2;omega⟩
 ·exact⟨⟨by omega,by omega⟩,by omega⟩
 ·exact⟨by omega,by omega⟩
theorem Pq {w:World}{F:Nat->Prop}{g:Nat}{l:cG}(h:dZ w F g l)(hF:∀ k,F k->k<w.heap.size)(hl:l.cN.length<=100)(hn:∀ d∈l.cN,aJ d.2.2<=1000000):
  Ret Tryz.prog 235 #[.pointer (some ⟨g,0,none⟩)] w fun r w'=>∃ fl wl:Sl,r=.tuple #[.slice fl.1 fl.2.1 fl.2.2,.slice wl.1 wl.2.1 wl.2.2,.int .i64 l.all.2] /\
   aF w' 219 3 fl (lC l.all.1.1)/\aF w' 154 5 wl (jQ l.all.1.2)/\Fr none1 w w':=by
 obtain⟨dl,b,p,G,h⟩:=h;refine c235 _ w _ ?_;unfold C235;refine ae.ah h.aE (x:=dl) rfl ?_;have nZ:=h.cN.len;rw[AM] at nZ;have nZ:dl.2.1=l.cN.length:=by omega
 refine bw.of (fun s w'=>∃ (i:Nat) (x:iF),s.2.2.1=i/\i<=l.cN.length/\oc l.w l.cN ([],[])=oc l.w (l.cN.drop i) x/\x.1.length<=60 * i/\x.2.length<=60 * i/\aF w' 219 3 s.1 (lC x.1)/\aF w' 154 5 s.2.1 (jQ x.2)/\Fr none1 w w' /\
   (∀ k,aw s.1 k->w.heap.size<=k)/\(∀ k,aw s.2.1 k->w.heap.size<=k/\¬ aw s.1 k)) (fun s _=>(dl.2.1 - s.2.2.1).toNat)
  ⟨0,([],[]),rfl,Nat.zero_le _,rfl,by simp,by simp,.inl ⟨rfl,rfl⟩,.inl ⟨rfl,rfl⟩,Fr.refl _ _,fun k t=>(ko k t).elim,fun k t=>(ko k t).elim⟩ ?_
 rintro _ ⟨fl,wl,i',_⟩ w1 ⟨i,x,hi,ja,hx,l1,l2,jI,nF,f1,ox,k8⟩;dsimp only at hi jI nF ox k8 ⊢;subst hi;refine aa.dec (fun aS=>?_) (fun dQ=>?_)
 rotate_left
 ·have:i=l.cN.length:=by omega
  subst this;rw[List.drop_length] at hx;have e:l.all=(x,0):=hx;rw[e];exact⟨fl,wl,rfl,jI,nF,f1⟩
 have fB:i<l.cN.length:=by omega
 obtain⟨d,hd⟩:∃ d,l.cN[i]? = some d:=⟨_,List.getElem?_eq_getElem fB⟩;have xN:=List.mem_of_getElem? hd;have AN:l.cN.drop i=d::l.cN.drop (i+1):=by
  obtain⟨h1,h2⟩:=List.getElem?_eq_some_iff.1 hd;rw[List.drop_eq_getElem_cons h1,h2]
 rw[AN,oc] at hx;have h1:=h.af f1;refine xY (cks:=Df) (x:=AL d) h1.cN.rd (by decide) (Dg _) (by rw[List.getElem?_map,hd];rfl) ?_;refine cK (zs:=[.string (⟨#[]⟩:ByteArray),.int .i64 0,.nilIface]) (vs:=mM d) rfl (by simp[mM,oP,pP,Tm.bU]) fun g7 w2 hg7 gP f2=>?_;refine aD.of fun w3 _ f3=>aV.all ?_;have f13:=(f1.trans f2).trans f3;have h3:=(h1.af f2).af f3;have IK:=f3.af gP;refine av.all (ae.ah IK (x:=str d.1) rfl (av.all (ae.ah (c:=.raw) IK (x:=d.2.2.v) rfl (av.all (ae.ah IK (x:=d.2.1) rfl (av.all (ae.ah h3.aE (x:=some ⟨b,0,none⟩) rfl ?_)))))));refine ab.of (C7 d.1 d.2.2 d.2.1 (hn d xN) h3.wr (fun k U=>by have:=hF k (h.gf k U).1;have:=f13.size;omega)) ?_;obtain⟨c1,c2,_⟩:=HE d.1 d.2.2 d.2.1 l.w;generalize fH d.1 d.2.2 d.2.1 l.w=X at *;rintro _ w4 ⟨f',w',rfl,Pr,Ps,f4,ff',wf'⟩;refine⟨(f',w',X.2,()),rfl,ai.of f4 (aa.ne (fun ay=>?_) (fun he=>?_))⟩
 ·have ay:X.2≠0:=ay
  rw[if_pos ay] at hx;have e:l.all=(([],[]),X.2):=hx;rw[e];exact⟨(none,0,0),(none,0,0),rfl,.inl ⟨rfl,rfl⟩,.inl ⟨rfl,rfl⟩,f13.trans f4⟩
 have he:X.2=0:=he;rw[if_neg (fun t=>t he)] at hx;have f24:=(f2.trans f3).trans f4;have e1:=jI.len;rw[C6] at e1;have e2:=Pr.len;rw[C6] at e2;have e3:=nF.len;rw[xZ] at e3;have e4:=Ps.len;rw[xZ] at e4;obtain⟨u,w5,E9,hu,_,f5,uf⟩:=gA Ia 163 (jI.af f24) Pr.rd (ZI _) (by omega);refine⟨u,w5,E9,?_⟩;have s3:=f13.size;have s4:=f4.size;have s5:=f5.size;have n5:Fr none1 w w5:=(f13.trans f4).comp f5 fun k U q=>by have:=ox k q;omega
 have rq:dr w5 5 w' (jQ X.1.2):=Ps.rd.ag f5 fun k U q=>by have:=aF.lt (jI.af (f2.trans f3)) q;have:=wf' k U;omega
 obtain⟨v,w6,pO,hv,_,f6,vf⟩:=gA H9 151 ((nF.af f24).ag f5 fun k U q=>(k8 k U).2 q) rq (ZH _) (by omega);refine⟨v,w6,pO,?_⟩;have dm:∀ k,aw u k->w.heap.size<=k:=fun k U=>by
  rcases uf k U with q | q
  ·exact ox k q
  ·omega
 have wu:∀ k,aw wl k->¬ aw u k:=fun k U q=>by
  rcases uf k q with t | t
  ·exact(k8 k U).2 t
  ·have:=aF.lt (nF.af f24) U;omega
 refine⟨⟨i+1,(x.1++X.1.1,x.2++X.1.2),by rw[wI (by omega) (by omega)];omega,by omega,hx,by simp only[List.length_append];omega,by simp only[List.length_append];omega,?_,?_,n5.comp f6 fun k U q=>by have:=(k8 k q).1;omega,dm,fun k U=>?_⟩,by rw[wI (by omega) (by omega)];omega⟩
 ·rw[ZG];exact hu.ag f6 fun k U q=>wu k q U
 ·rw[ZF];exact hv
 ·rcases vf k U with q | q
  ·exact⟨(k8 k q).1,wu k q⟩
  ·exact⟨by omega,fun t=>by have:=aF.lt hu t;omega⟩
theorem aag {w:World}{F:Nat->Prop}{g:Nat}{l:cG}(h:dZ w F g l)(hF:∀ k,F k->k<w.heap.size)(hl:l.cN.length<=100)(hn:∀ d∈l.cN,aJ d.2.2<=1000000):
  Ret Tryz.prog 261 #[.pointer (some ⟨g,0,none⟩)] w fun r w'=>∃ fl:Sl,r=.slice fl.1 fl.2.1 fl.2.2/\aF w' 219 3 fl (lC l.all.1.1)/\Fr none1 w w':=by
 refine c261 _ w _ ?_;refine ab.of (Pq h hF hl hn) ?_;rintro _ w1 ⟨fl,wl,rfl,jI,nF,f1⟩;exact⟨(fl,wl,l.all.2,()),rfl,fl,rfl,jI,f1⟩
theorem IL {w:World}{g:Nat}{l:List ((Int×List UInt8)×Int)}(h:fY Dh sG w g l)(d:Int)(c:List UInt8){K:Int->World->Prop}(k:K ((bq (d,c) l).getD 0) w):
  az Tryz.prog (Instr.lookup 173 (.map (some g)) (.agg #[.int .i64 d,.string (str c)]) false) w (.v (.one (.int .i64))) K:=by
 have:=H0 (z:=.int .i64 0) IJ Tryz.underlying173 (by kernel_rfl) h (d,c) false;refine⟨(bq (d,c) l).getD 0,w,this.trans ?_,k⟩;cases bq (d,c) l<;>rfl
theorem aah {w:World}{F:Nat->Prop}{g:Nat}{l:cG}(h:dZ w F g l)(d:Int)(c:List UInt8):Ret Tryz.prog 260 #[.pointer (some ⟨g,0,none⟩),.int .i64 d,.string (str c)] w fun r w'=>r=.int .i64 (l.j1 d c)/\w=w':=by
 obtain⟨dl,b,p,G,h⟩:=h;refine c260 _ d (str c) w _ ?_;exact ae.ah h.aE (x:=some p) rfl (IL h.fV d c ⟨rfl,rfl⟩)
theorem aai (d:Int)(c:List UInt8)(n:Int)(fs:List lq)(i:Nat){f:lq}(h:fs[i]? = some f):kz d c n (fs.take (i+1))=if f.1=d/\f.2.1=c then kz d c n (fs.take i)+f.2.2 else kz d c n (fs.take i):=AD _ _ _ h _
theorem Dj {l:cG}(h:mF l):∀ d∈l.cN,aJ d.2.2<=1000000:=fun d hd=>by have:=(HD (N2 (h.ok d hd)).1).2.1;omega
theorem aaj {w:World}{F:Nat->Prop}{g:Nat}{l:cG}(h:dZ w F g l)(hF:∀ k,F k->k<w.heap.size)(ho:mF l)(d:Int)(c:List UInt8):Ret Tryz.prog 241 #[.pointer (some ⟨g,0,none⟩),.int .i64 d,.string (str c)] w fun r w'=>r=.int .i64 (l.od d c)/\Fr none1 w w':=by
 refine c241 _ d (str c) w _ ?_;have mi:=ho.num;obtain⟨a1,a2,a3⟩:=HF ho;obtain⟨p1,p2⟩:=HI ho d c;refine ab.of (aah h d c) ?_;rintro _ _ ⟨rfl,rfl⟩;refine⟨_,rfl,?_⟩;refine ab.of (aag h hF (by omega) (Dj ho)) ?_;rintro _ w1 ⟨fl,rfl,jI,f1⟩;refine⟨fl,rfl,?_⟩;unfold cG.od;generalize l.all.1.1=fs at *;have Fb:=jI.len;rw[C6] at Fb;have Fb:fl.2.1=fs.length:=by omega
 have Pt:∀ i,-980000000000000<=kz d c (-l.j1 d c) (fs.take i)/\kz d c (-l.j1 d c) (fs.take i)<=980000000000000:=fun i=>by
  have:=CR d c (fs.take i) (-l.j1 d c) (fun f hf=>a3 f (List.mem_of_mem_take hf));rw[List.length_take] at this;omega
 refine bw.of (fun s w'=>∃ i:Nat,s.2.1=i/\i<=fs.length/\s.1=kz d c (-l.j1 d c) (fs.take i)/\Fr none1 w1 w') (fun s _=>(fl.2.1 - s.2.1).toNat)
  ⟨0,rfl,Nat.zero_le _,by rw[wI (by omega) (by omega),Int.zero_sub];rfl,Fr.refl _ _⟩ ?_
 rintro _ ⟨n,i',_⟩ w2 ⟨i,hi,ja,hs,f2⟩;dsimp only at hi hs ⊢;subst hi;subst hs;refine aa.dec (fun aS=>?_) (fun dQ=>?_)
 rotate_left
 ·have:i=fs.length:=by omega
  subst this;rw[List.take_length];exact⟨rfl,f1.trans f2⟩
 have fB:i<fs.length:=by omega
 obtain⟨f,hf⟩:∃ f,fs[i]? = some f:=⟨_,List.getElem?_eq_getElem fB⟩;have ku:=aai d c (-l.j1 d c) fs i hf;have r1:=Pt i;have r2:=Pt (i+1);refine xY (cks:=O9) (x:=ZC f) (jI.af f2).rd (by decide) (Pa _) (by rw[List.getElem?_map,hf];rfl) ?_;refine cK (zs:=[.int .i64 0,.string (⟨#[]⟩:ByteArray),.int .i64 0]) (vs:=tZ f) rfl rfl fun g7 w3 hg7 gP f3=>?_;have step:∀ n:Int,n=kz d c (-l.j1 d c) (fs.take (i+1))->((∃ IM:Nat,IntKind.wrap .i64 (↑i+1)=(IM:Int)/\IM<=fs.length/\n=kz d c (-l.j1 d c) (fs.take IM)/\Fr none1 w1 w3)/\((fl.2.1:Int) - IntKind.wrap .i64 (↑i+1)).toNat<((fl.2.1:Int) - ↑i).toNat):=fun n hn=>
  ⟨⟨i+1,by rw[wI (by omega) (by omega)];omega,by omega,hn,f2.trans f3⟩,by rw[wI (by omega) (by omega)];omega⟩
 refine ae.ah gP (x:=f.1) rfl (aa.eq (fun h1=>ae.ah gP (x:=str f.2.1) rfl ?_) (fun h1=>step _ ?_))
 ·rw[iW]
  refine aa.dec (fun h2=>ae.ah gP (x:=f.2.2) rfl (step _ ?_)) (fun h2=>step _ ?_)
  ·rw[if_pos ⟨h1,h2⟩] at ku
   rw[ku,wI (by omega) (by omega)]
  ·rw[if_neg (fun t=>h2 t.2)] at ku
   exact ku.symm
 ·rw[if_neg (fun t=>h1 t.1)] at ku
  exact ku.symm
theorem Pu {α:Type}(q:α->Bool){l:List α}{i:Nat}{d:α}(h1:(l.take i).find? q=none)(h2:l[i]? = some d)(h3:q d=false):(l.take (i+1)).find? q=none:=by
 rw[List.take_add_one,h2,List.find?_append,h1];simp[h3]
theorem Pw {α:Type}(q:α->Bool){l:List α}{i:Nat}{d:α}(h1:(l.take i).find? q=none)(h2:l[i]? = some d)(h3:q d=true):l.find? q=some d:=by
 obtain⟨h4,h5⟩:=List.getElem?_eq_some_iff.1 h2
 conv=>lhs;rw[<- List.take_append_drop i l]
 rw[List.find?_append,h1,List.drop_eq_getElem_cons h4,h5];simp[h3]
theorem Px (q:j0->Bool)(v:Value){w:World}{dl:Sl}{l:List j0}(h:dr w 3 dl (rp l))(hl:l.length<=1000)
  (hv:∀ (d:j0) (w1:World),Fr none1 w w1->∀ (K:Bool->World->Prop),(∀ w2,Fr none1 w1 w2->K (q d) w2)->kI Tryz.prog v [.agg (mM d).toArray] (.v (.one .bool)) w1 K) :
  Ret Tryz.prog 236 #[.slice dl.1 dl.2.1 dl.2.2,v] w fun r w'=>(∃ i:Int,r=.int .i64 i/\((i=-1/\l.find? q=none)\/∃ (n:Nat) (d:j0),i=n/\l[n]? = some d/\l.find? q=some d))/\Fr none1 w w':=by
 have hlen:dl.2.1=l.length:=by have:=h.1;rw[AM] at this;omega
 refine c236 dl.1 dl.2.1 dl.2.2 v w _ ?_;refine bw.of (fun st w'=>∃ i:Nat,st.1=i/\i<=l.length/\(l.take i).find? q=none/\Fr none1 w w') (fun st _=>(dl.2.1 - st.1).toNat) ⟨0,rfl,Nat.zero_le _,rfl,Fr.refl _ _⟩ ?_;rintro _ ⟨i',_⟩ w1 ⟨i,hi,ja,gS,f1⟩;dsimp only at hi ⊢;subst hi;refine aa.dec (fun aS=>?_) (fun dQ=>?_)
 ·have fB:i<l.length:=by omega
  obtain⟨x,hx⟩:∃ x,l[i]? = some x:=⟨_,List.getElem?_eq_getElem fB⟩;refine xY (cks:=Df) (x:=AL x) (h.af f1) (by decide) (Dg _) (by rw[List.getElem?_map,hx];rfl) ?_;refine hv x w1 f1 _ fun w2 f2=>aa.by (fun hq=>?_) (fun hq=>?_)
  ·exact⟨⟨(i:Int),rfl,.inr ⟨i,x,rfl,hx,Pw q gS hx hq⟩⟩,f1.trans f2⟩
  ·exact⟨⟨i+1,by rw[wI (by omega) (by omega)];omega,by omega,Pu q gS hx hq,f1.trans f2⟩,by rw[wI (by omega) (by omega)];omega⟩
 ·rw[List.take_of_length_le (by omega)] at gS
  exact⟨⟨-1,rfl,.inl ⟨rfl,gS⟩⟩,f1⟩
theorem aak (q:gx->Bool)(v:Value){w:World}{dl:Sl}{l:List gx}(h:dr w 5 dl (jQ l))(hl:l.length<=1000)
  (hv:∀ (d:gx) (w1:World),Fr none1 w w1->∀ (K:Bool->World->Prop),(∀ w2,Fr none1 w1 w2->K (q d) w2)->kI Tryz.prog v [.agg (mJ d).toArray] (.v (.one .bool)) w1 K) :
  Ret Tryz.prog 238 #[.slice dl.1 dl.2.1 dl.2.2,v] w fun r w'=>(∃ i:Int,r=.int .i64 i/\((i=-1/\l.find? q=none)\/∃ (n:Nat) (d:gx),i=n/\l[n]? = some d/\l.find? q=some d))/\Fr none1 w w':=by
 have hlen:dl.2.1=l.length:=by have:=h.1;rw[xZ] at this;omega
 refine c238 dl.1 dl.2.1 dl.2.2 v w _ ?_;refine bw.of (fun st w'=>∃ i:Nat,st.1=i/\i<=l.length/\(l.take i).find? q=none/\Fr none1 w w') (fun st _=>(dl.2.1 - st.1).toNat) ⟨0,rfl,Nat.zero_le _,rfl,Fr.refl _ _⟩ ?_;rintro _ ⟨i',_⟩ w1 ⟨i,hi,ja,gS,f1⟩;dsimp only at hi ⊢;subst hi;refine aa.dec (fun aS=>?_) (fun dQ=>?_)
 ·have fB:i<l.length:=by omega
  obtain⟨x,hx⟩:∃ x,l[i]? = some x:=⟨_,List.getElem?_eq_getElem fB⟩;refine xY (cks:=tY) (x:=qt x) (h.af f1) (by decide) (C4 _) (by rw[List.getElem?_map,hx];rfl) ?_;refine hv x w1 f1 _ fun w2 f2=>aa.by (fun hq=>?_) (fun hq=>?_)
  ·exact⟨⟨(i:Int),rfl,.inr ⟨i,x,rfl,hx,Pw q gS hx hq⟩⟩,f1.trans f2⟩
  ·exact⟨⟨i+1,by rw[wI (by omega) (by omega)];omega,by omega,Pu q gS hx hq,f1.trans f2⟩,by rw[wI (by omega) (by omega)];omega⟩
 ·rw[List.take_of_length_le (by omega)] at gS
  exact⟨⟨-1,rfl,.inl ⟨rfl,gS⟩⟩,f1⟩
def la (w:World)(g1:Nat)(m:aT):Prop:=w.heap[g1]? = some (.cells (gz m.e).toArray 36 (0,0))
theorem la.af {w w':World}{g1:Nat}{m:aT}(h:la w g1 m)(f:Fr none1 w w'):la w' g1 m:=f.af h
def sL (m:aT):j0->Bool:=fun d=>d.1==m.id
def IN (m:aT):gx->Bool:=fun x=>x.1&&x.2.2.1==m.label
theorem aal {w:World}{g1:Nat}{m:aT}(h:la w g1 m)(d:j0):Ret Tryz.prog 232 #[.agg (mM d).toArray,.pointer (some ⟨g1,0,none⟩)] w fun r w'=>r=.bool (sL m d)/\Fr none1 w w':=by
 refine c232 (AL d) _ w _ ?_;refine ak.of fun g w1 hg hb f1 _=>ae.ah hb (x:=str d.1) rfl (ae.ah (h.af f1) (x:=str m.id) rfl ⟨?_,f1⟩);rw[iW];unfold sL;congr 1;rw[Bool.eq_iff_iff];simp
theorem aam {w:World}{g1:Nat}{m:aT}(h:la w g1 m)(d:j0):Ret Tryz.prog 237 #[.agg (mM d).toArray,.pointer (some ⟨g1,0,none⟩)] w fun r w'=>r=.bool (sL m d)/\Fr none1 w w':=by
 refine c237 (AL d) _ w _ ?_;refine ak.of fun g w1 hg hb f1 _=>ae.ah hb (x:=str d.1) rfl (ae.ah (h.af f1) (x:=str m.id) rfl ⟨?_,f1⟩);rw[iW];unfold sL;congr 1;rw[Bool.eq_iff_iff];simp
theorem aan {w:World}{g1:Nat}{m:aT}(h:la w g1 m)(d:gx):Ret Tryz.prog 239 #[.agg (mJ d).toArray,.pointer (some ⟨g1,0,none⟩)] w fun r w'=>r=.bool (IN m d)/\Fr none1 w w':=by
 refine c239 (qt d) _ w _ ?_;unfold IN;refine ak.of fun g w1 hg hb f1 _=>ae.ah hb (x:=d.1) rfl (aa.by (fun hd=>ae.ah hb (x:=str d.2.2.1) rfl (ae.ah (h.af f1) (x:=str m.label) rfl ⟨?_,f1⟩)) (fun hd=>⟨by rw[hd];rfl,f1⟩));rw[iW,hd];congr 1;rw[Bool.eq_iff_iff];simp
theorem aao {w:World}{F:Nat->Prop}{g:Nat}{l:cG}(h:dZ w F g l)(hF:∀ k,F k->k<w.heap.size)(hl:l.cN.length<=100)(m:aT)(hm:aJ m.t<=1000000):
  Ret Tryz.prog 195 #[.pointer (some ⟨g,0,none⟩),gX m.e] w fun r w'=>r=.int .i64 (tC l m).2/\dZ w' (fun k=>F k\/cC w w' k) g (tC l m).1/\Fr F w w':=by
 obtain⟨dl,b,p,G,h⟩:=h;refine c195 _ m.e w _ ?_;unfold C195 tC;refine ak.of fun g1 w1 df au f1 _=>?_;have e1:la w1 g1 m:=au;have h1:=h.af f1;have nZ:=h.cN.len;rw[AM] at nZ;have nZ:dl.2.1=l.cN.length:=by omega
 have no:∀ {w':World},Fr none1 w w'->dZ w' (fun k=>F k\/cC w w' k) g l/\Fr F w w':=fun f=>⟨(show dZ _ F g l from⟨dl,b,p,G,h.af f⟩).mono fun k U=>.inl U,f.mono fun _ _ t=>t.elim⟩;refine ae.ah h1.aE (x:=dl) rfl ?_;have hc:Ret Tryz.prog 231 #[.slice dl.1 dl.2.1 dl.2.2,.func (.func 232) #[] #[.pointer (some ⟨g1,0,none⟩)]] w1 fun r w'=>r=.bool (l.cN.any (sL m))/\Fr none1 w1 w':=by
  refine c231 dl.1 dl.2.1 dl.2.2 _ w1 _ ?_;refine ab.of (Px (sL m) _ h1.cN.rd (by omega) fun d w2 f2 K k=>?_) ?_
  ·refine l0 (by kernel_rfl) Tryz.func232 (by kernel_rfl) ((aal (e1.af f2) d).mono ?_)
   rintro _ w3 ⟨rfl,f3⟩;exact⟨_,rfl,k w3 f3⟩
  rintro _ w2 ⟨⟨i,rfl,hi⟩,f2⟩;refine⟨i,rfl,?_,f2⟩;rw[show l.cN.any (sL m)=(l.cN.find? (sL m)).isSome by rw[Bool.eq_iff_iff];simp]
  rcases hi with⟨rfl,hn⟩ | ⟨n,d,rfl,hd,hn⟩
  ·rw[hn];rfl
  ·rw[hn,decide_eq_true (by omega)];rfl
 refine ab.of hc ?_;clear hc;rintro _ w2 ⟨rfl,f2⟩;have f12:=f1.trans f2;have h2:=h1.af f2;refine⟨_,rfl,aa.by (fun ha=>?_) (fun ha=>?_)⟩
 ·have ha:l.cN.any (fun d=>d.1==m.id)=true:=ha
  rw[if_pos ha];exact⟨rfl,no f12⟩
 have ha:l.cN.any (fun d=>d.1==m.id)=false:=ha;rw[if_neg (by rw[ha];simp)];refine ae.ah h2.aE (x:=dl) rfl (aa.dec (fun h8=>?_) (fun h8=>?_))
 ·rw[if_pos (by omega)];exact⟨rfl,no f12⟩
 rw[if_neg (by omega)];refine aD.of fun w3 _ f3=>aV.all ?_;have f13:=f12.trans f3;have h3:=h2.af f3;have e3:=(e1.af f2).af f3;refine av.all (ae.ah e3 (x:=str m.id) rfl (av.all (ae.ah (c:=.raw) e3 (x:=m.t.v) rfl (av.all (ae.ah h3.aE (x:=l.day) rfl (av.all (ae.ah h3.aE (x:=some ⟨b,0,none⟩) rfl ?_)))))));refine ab.of (C7 m.id m.t l.day hm h3.wr (fun k U=>by have:=hF k (h.gf k U).1;have:=f13.size;omega)) ?_;rintro _ w4 ⟨fl,wl,rfl,_,_,f4,_,_⟩;have f14:=f13.trans f4;have h4:=h3.af f4;refine⟨(fl,wl,(fH m.id m.t l.day l.w).2,()),rfl,aa.ne (fun ay=>?_) (fun he=>?_)⟩
 ·rw[if_pos ay];exact⟨rfl,no f14⟩
 rw[if_neg (fun t=>t he)];refine aD.of fun w5 _ f5=>aV.all ?_;have f15:=f14.trans f5;have h5:=h4.af f5;have e5:=(e3.af f4).af f5
 -- the end, alike in both acp
 have fin:∀ {w6:World} {u y:Sl},Fr none1 w5 w6->aF w6 262 3 u (rp l.cN)->aF w6 262 3 y (mM (m.id,l.day,m.t))->y.2.1=1->(∀ k,aw u k->w5.heap.size<=k) ->
   az Tryz.prog (Builtin.append_ #[171,171] 171 #[.slice u.1 u.2.1 u.2.2,.slice y.1 y.2.1 y.2.2]) w6 (.v (.one .aj)) fun(v:Option Addr×Nat×Nat) w7=>aA ((⟨g,0,none⟩:Addr).add 1) (.slice v.1 v.2.1 v.2.2) w7 fun w8=>(Value.int .i64 0=.int .i64 0/\dZ w8 (fun k=>F k\/cC w w8 k) g { l with cN:=l.cN++[(m.id,l.day,m.t)] }/\Fr F w w8):=by
  intro w6 u y f6 hu hy CA uf;have dm:=hu.len;rw[AM] at dm;obtain⟨v,w7,pN,hv,_,f7,vf⟩:=gA Db 171 hu hy.rd (Pp _) (by omega);refine⟨v,w7,pN,?_⟩;have s5:=f15.size;have s6:=f6.size;have s7:=f7.size;have gl:=hF g h.mem;have vp:∀ k,F k->¬ aw u k:=fun k U q=>by have:=uf k q;have:=hF k U;omega
  have h7:=(h5.af f6).ag f7 vp;refine aA.ah h7.aE (show 1<4 by decide) rfl fun w8 j2 f8 s8=>⟨rfl,⟨v,b,p,G,j2,?_,h7.wr.ag f8 (fun k U q=>(h.gf k U).2.1 q),h7.fV.ag f8 (fun q=>h.pf.2 q),fun k U=>?_,fun k U=>⟨.inl (h.gf k U).1,(h.gf k U).2⟩,⟨.inl h.pf.1,h.pf.2⟩,.inl h.mem⟩,?_⟩
  ·dsimp only
   rw[aae];refine hv.ag f8 fun k U q=>?_;have:k=g:=q
   rcases vf k U with t | t
   ·have:=uf k t;omega
   ·omega
  ·have IP:w.heap.size<=k/\k<w7.heap.size:=by
    refine⟨?_,aF.lt hv U⟩
    rcases vf k U with t | t
    ·have:=uf k t;omega
    ·omega
   refine⟨.inr ⟨IP.1,by omega⟩,by omega,fun e=>by have:=hF p h.pf.1;omega,fun t=>by have:=hF k (h.gf k t).1;omega⟩
  ·refine(((f15.trans f6).mono fun _ _ t=>t.elim).comp f7 fun k U q=>by have:=uf k q;omega).comp f8 fun k _ q=>by have:k=g:=q;rw[this];exact h.mem
 refine av.all (ae.ah h5.aE (x:=dl) rfl (av.all (ae.ah e5 (x:=str m.id) rfl (av.all (ae.ah h5.aE (x:=l.day) rfl (av.all (ae.ah (c:=.raw) e5 (x:=m.t.v) rfl ⟨m.t.fN,⟨?a,?b⟩⟩)))))))
 case' a=>
  refine ab.of (ID h5.cN.rd (II _) (by omega)) ?_;rintro _ w6 ⟨u,rfl,hu,f6,uf⟩;refine⟨u,rfl,ai.of f6 ?_⟩;obtain⟨y,w7,pN,hy,gT,f7,yf⟩:=mI (P:=Tryz.prog) (w:=w6) Db (mM (m.id,l.day,m.t)) rfl (by decide);exact⟨y,w7,pN,ai.of f7 (fin (f6.trans f7) (hu.af f7) hy gT uf)⟩
 case' b=>
  obtain⟨y,w6,pO,hy,gT,f6,yf⟩:=mI (P:=Tryz.prog) (w:=w5) Db (mM (m.id,l.day,m.t)) rfl (by decide);refine⟨y,w6,pO,ai.of f6 ?_⟩;have h6:=h5.af f6;refine ab.of (ID h6.cN.rd (II _) (by omega)) ?_;rintro _ w7 ⟨u,rfl,hu,f7,uf⟩;exact⟨u,rfl,ai.of f7 (fin (f6.trans f7) hu (hy.af f7) gT fun k U=>by have:=uf k U;have:=f6.size;omega)⟩
theorem aap {w:World}{v:Sl}{l:List gx}(h:dr w 5 v (jQ l)){i:Nat}{x:gx}(hx:l[i]? = some x){K:Addr->Prop}(k:∀ a:Addr,(∀ {j:Nat} {c:Ck} {y:c.C} {M:c.C->Prop},(mJ x)[j]? = some (c.val y)->M y->ae c (a.add j) w M)->K a):bK v.1 v.2.1 (i:Int) 5 K:=by
 have hlen:v.2.1=l.length:=by have:=h.1;rw[xZ] at this;omega
 have hi:=(List.getElem?_eq_some_iff.1 hx).1;cases hv:v.1 with
 | none=>have:=(h.2.1 hv).1;omega
 | some p=>
  refine⟨p,rfl,by omega,by omega,?_⟩;rw[Int.toNat_natCast];have hl:aq tY (p.add (i * 5)) w (fun y=>qt x=y):=h.q8 (vs:=l.map mJ) (C4 l) (x:=qt x) (by rw[List.getElem?_map,hx];rfl) (by omega) rfl hv;obtain⟨y,hc,hy⟩:=hl;subst hy;refine k _ fun{j c y M} hj hm=>?_;refine⟨y,?_,hm⟩;have:=wm _ 0 j _ hc hj;rwa[Nat.zero_add] at this
theorem qx.world {w w':World}{F:Nat->Prop}{g:Nat}{l:cG}{dl:Sl}{b p:Nat}{G:Nat->Prop}(h:qx w F g l dl b p G)(f:Fr G w w'){m:da}(hw:ig w' G b m):qx w' F g { l with w:=m } dl b p G:=
 ⟨f.ag h.aE fun q=>(h.gf g q).2.1 rfl,h.cN.ag f fun k U q=>(h.nJ k U).2.2.2 q,hw,h.fV.ag f fun q=>(h.gf p q).2.2 rfl,h.nJ,h.gf,h.pf,h.mem⟩
theorem aaq {w:World}{F:Nat->Prop}{g:Nat}{l:cG}(h:dZ w F g l)(hF:∀ k,F k->k<w.heap.size)(ho:mF l)(m:aT):
  Ret Tryz.prog 196 #[.pointer (some ⟨g,0,none⟩),gX m.e] w fun r w'=>r=.int .i64 (si l m).2/\((si l m).2=0->dZ w' F g (si l m).1)/\Fr F w w':=by
 obtain⟨dl,b,p,G,h⟩:=h;have mi:=ho.num;refine c196 _ m.e w _ ?_;unfold C196 si;refine ak.of fun g1 w1 df au f1 _=>aD.of fun w2 _ f2=>?_;have e2:la w2 g1 m:=f2.af au;have f12:=f1.trans f2;have h2:=h.af f12;have no:∀ {w':World} {n:Int},Fr none1 w w'->(n=0->dZ w' F g l)/\Fr F w w':=fun f=>⟨fun _=>⟨dl,b,p,G,h.af f⟩,f.mono fun _ _ t=>t.elim⟩;refine ae.ah e2 (x:=m.day) rfl (ae.ah h2.aE (x:=l.day) rfl (aa.dec (fun hd=>?_) (fun hd=>?_)))
 ·rw[if_pos (by omega)];exact⟨rfl,no f12⟩
 rw[if_neg (by omega)];refine aD.of fun w3 _ f3=>?_;have e3:=e2.af f3;have f13:=f12.trans f3;have h3:=h2.af f3;refine ae.ah h3.aE (x:=some ⟨b,0,none⟩) rfl (ae.ah e3 (x:=str m.name) rfl (ae.ah e3 (x:=m.day) rfl (ae.ah e3 (x:=m.val) rfl ?_)));have s3:=f13.size;refine ab.of (Zk h3.wr (fun k U=>by have:=hF k (h.gf k U).1;omega) m.name m.day m.val) ?_;rintro _ w4 ⟨rfl,hw4,f4⟩;have h4:=h3.world f4 hw4;have f14:Fr F w w4:=(f13.mono fun _ _ t=>t.elim).comp f4 fun k _ q=>(h.gf k q).1;refine⟨_,rfl,aa.ne (fun ay=>?_) (fun he=>?_)⟩
 ·rw[if_pos ay];exact⟨rfl,fun h=>absurd h ay,f14⟩
 rw[if_neg (fun t=>t he)];refine ab.of (Pq ⟨dl,b,p,G,h4⟩ (fun k U=>by have:=hF k U;have:=f14.size;omega) (by dsimp only;omega) (fun d hd=>Dj ho d hd)) ?_;rintro _ w5 ⟨fl,wl,rfl,_,_,f5⟩;refine⟨(fl,wl,_,()),rfl,?_⟩;have h5:=h4.af f5;split
 ·rename_i ay;exact⟨rfl,fun h=>absurd h ay,f14.dh f5⟩
 ·rename_i he;exact⟨congrArg (fun n=>Value.int .i64 n) (Classical.not_not.1 he),fun _=>⟨dl,b,p,G,h5⟩,f14.dh f5⟩
theorem aar {w:World}{F:Nat->Prop}{g:Nat}{l:cG}(h:dZ w F g l)(hF:∀ k,F k->k<w.heap.size)(ho:mF l)(m:aT)(eK:Int):
  Ret Tryz.prog 197 #[.pointer (some ⟨g,0,none⟩),gX m.e,.int .i64 eK] w fun r w'=>r=.int .i64 (sj l m eK).2/\((sj l m eK).2=0->dZ w' F g (sj l m eK).1)/\Fr F w w':=by
 obtain⟨dl,b,p,G,h⟩:=h;have mi:=ho.num;refine c197 _ m.e eK w _ ?_;unfold C197 sj;refine ak.of fun g1 w1 df au f1 _=>?_;have e1:la w1 g1 m:=au;have h1:=h.af f1;have no:∀ {w':World} {n:Int},Fr none1 w w'->(n=0->dZ w' F g l)/\Fr F w w':=fun f=>⟨fun _=>⟨dl,b,p,G,h.af f⟩,f.mono fun _ _ t=>t.elim⟩;refine ae.ah h1.aE (x:=dl) rfl ?_;refine ab.of (Px (sL m) _ h1.cN.rd (by omega) fun d w2 f2 K k=>?_) ?_
 ·refine l0 (by kernel_rfl) Tryz.func237 (by kernel_rfl) ((aam (e1.af f2) d).mono ?_)
  rintro _ w3 ⟨rfl,f3⟩;exact⟨_,rfl,k w3 f3⟩
 rintro _ w2 ⟨⟨i,rfl,hi⟩,f2⟩;have f12:=f1.trans f2;have h2:=h1.af f2;refine⟨i,rfl,?_⟩
 rcases hi with⟨rfl,hn⟩ | ⟨n,d,rfl,hd,hn⟩
 ·have hn:l.cN.find? (fun d=>d.1==m.id)=none:=hn
  rw[hn];exact aa.yes (by decide) ⟨rfl,no f12⟩
 have hn:l.cN.find? (fun d=>d.1==m.id)=some d:=hn;rw[hn];dsimp only;have xN:=List.mem_of_getElem? hd;refine aa.no (by omega) ?_;refine ae.ah h2.aE (x:=dl) rfl (xY (cks:=Df) (x:=AL d) h2.cN.rd (by decide) (Dg _) (by rw[List.getElem?_map,hd];rfl) ?_);refine cK (zs:=[.string (⟨#[]⟩:ByteArray),.int .i64 0,.nilIface]) (vs:=mM d) rfl (by simp[mM,oP,pP,Tm.bU]) fun g9 w3 OZ mB f3=>?_;refine aD.of fun w4 _ f4=>aV.all ?_;have f14:=(f12.trans f3).trans f4;have h4:=(h2.af f3).af f4;have Dk:=f4.af mB;refine av.all (ae.ah Dk (x:=str d.1) rfl (av.all (ae.ah (c:=.raw) Dk (x:=d.2.2.v) rfl (av.all (ae.ah Dk (x:=d.2.1) rfl (av.all (ae.ah h4.aE (x:=some ⟨b,0,none⟩) rfl ?_)))))));have vp:∀ {w':World},Fr none1 w w'->∀ k,G k->k<w'.heap.size:=fun f k U=>by have:=hF k (h.gf k U).1;have:=f.size;omega
 refine ab.of (C7 d.1 d.2.2 d.2.1 (Dj ho d xN) h4.wr (vp f14)) ?_;have qg:=(HE d.1 d.2.2 d.2.1 l.w).2.1;rintro _ w5 ⟨fl,wl,rfl,_,nF,f5,_,_⟩;have f15:=f14.trans f5;have h5:=h4.af f5;have e5:la w5 g1 m:=(((e1.af f2).af f3).af f4).af f5;refine⟨(fl,wl,(fH d.1 d.2.2 d.2.1 l.w).2,()),rfl,ai.of f5 ?_⟩;refine ab.of (aak (IN m) _ nF.rd (by omega) fun x w6 f6 K k=>?_) ?_
 ·refine l0 (by kernel_rfl) Tryz.func239 (by kernel_rfl) ((aan (e5.af f6) x).mono ?_)
  rintro _ w7 ⟨rfl,f7⟩;exact⟨_,rfl,k w7 f7⟩
 rintro _ w6 ⟨⟨i,rfl,hi⟩,f6⟩;have f16:=f15.trans f6;have h6:=h5.af f6;refine⟨i,rfl,?_⟩
 rcases hi with⟨rfl,kc⟩ | ⟨n2,x,rfl,hx,kc⟩
 ·have kc:(fH d.1 d.2.2 d.2.1 l.w).1.2.find? (fun x=>x.1&&x.2.2.1==m.label)=none:=kc
  rw[kc];exact aa.yes (by decide) ⟨rfl,no f16⟩
 have kc:(fH d.1 d.2.2 d.2.1 l.w).1.2.find? (fun x=>x.1&&x.2.2.1==m.label)=some x:=kc;rw[kc];dsimp only;refine aa.no (by omega) ?_;refine aD.of fun w7 _ f7=>?_;have f17:=f16.trans f7;have h7:=h6.af f7;have wl7:=((nF.af f6).af f7).rd;have Py:∀ {K:Addr->Prop},(∀ a,(∀ {j:Nat} {c:Ck} {y:c.C} {M:c.C->Prop},(mJ x)[j]? = some (c.val y)->M y->ae c (a.add j) w7 M)->K a)->bK wl.1 wl.2.1 (n2:Int) 5 K:=fun k=>aap wl7 hx k;refine Py fun a ha=>ha (j:=3) (y:=x.2.2.2.1) rfl (ae.ah h7.aE (x:=l.day) rfl (aa.dec (fun hd=>?_) (fun hd=>?_)))
 ·rw[if_pos (by omega)];exact⟨rfl,no f17⟩
 rw[if_neg (by omega)];refine Py fun a ha=>ha (j:=4) (y:=x.2.2.2.2) rfl (aa.ne (fun ay=>?_) (fun he=>?_))
 ·have ay:x.2.2.2.2≠eK:=ay
  rw[if_pos ay];exact⟨rfl,no f17⟩
 have he:x.2.2.2.2=eK:=he;rw[if_neg (fun t=>t he)];refine aD.of fun w8 _ f8=>?_;have f18:=f17.trans f8;have h8:=h7.af f8;have e8:=((e5.af f6).af f7).af f8;refine ae.ah h8.aE (x:=some ⟨b,0,none⟩) rfl (ae.ah e8 (x:=str m.id) rfl (ae.ah e8 (x:=str m.label) rfl (ae.ah e8 (x:=m.val) rfl (ae.ah h8.aE (x:=l.day) rfl ?_))));refine ab.of (Zl h8.wr m.id m.label m.val l.day) ?_;rintro _ w9 ⟨rfl,hw9,f9⟩;have h9:=h8.world f9 hw9;have f19:Fr F w w9:=(f18.mono fun _ _ t=>t.elim).comp f9 fun k _ q=>(h.gf k q).1;refine⟨_,rfl,aa.ne (fun ay=>?_) (fun he=>?_)⟩
 ·have ay:(lu l.w m.id m.label m.val l.day).2≠0:=ay
  rw[if_pos ay];exact⟨rfl,fun h=>absurd h ay,f19⟩
 have he:(lu l.w m.id m.label m.val l.day).2=0:=he;rw[if_neg (fun t=>t he)];refine aD.of fun aG _ f10=>aV.all ?_;have ou:=h9.af f10;have g1w:¬ G g9:=fun q=>by have:=hF g9 (h.gf g9 q).1;have:=f12.size;omega
 have IQ:=f10.af (f9.ag ((((f5.trans f6).trans f7).trans f8).af Dk) g1w);refine av.all (ae.ah IQ (x:=str d.1) rfl (av.all (ae.ah (c:=.raw) IQ (x:=d.2.2.v) rfl (av.all (ae.ah IQ (x:=d.2.1) rfl (av.all (ae.ah ou.aE (x:=some ⟨b,0,none⟩) rfl ?_)))))));refine ab.of (C7 d.1 d.2.2 d.2.1 (Dj ho d xN) ou.wr (fun k U=>by have:=hF k (h.gf k U).1;have:=f19.size;have:=f10.size;omega)) ?_;rintro _ aO ⟨fl2,wl2,rfl,_,_,f11,_,_⟩;refine⟨(fl2,wl2,_,()),rfl,ai.of f11 ?_⟩;have ov:=ou.af f11;have sM:=(f19.dh f10).dh f11;dsimp only;split
 ·rename_i ay;exact⟨rfl,fun h=>absurd h ay,sM⟩
 ·rename_i he;exact⟨congrArg (fun n=>Value.int .i64 n) (Classical.not_not.1 he),fun _=>⟨dl,b,p,G,ov⟩,sM⟩
abbrev gH:List Ck:=[.int .i64,.str,.str,.str,.str,.int .i64,.int .i64,.raw]
theorem aas (m:aT)(hm:aJ m.t<=1000000){w:World}(ht:TabW w):Ret Tryz.prog 70 #[gX m.e] w fun r w'=>r=.int .i64 (iR m)/\Fr none1 w w':=
 EM m.e (vm m.t) (bp m.t).2 w fun _ wa fa=>(BT m.t hm wa (ht.af fa)).mono fun r w' ⟨h,f⟩=>⟨⟨_,h⟩,f⟩
theorem aat {l:cG}(ho:mF l)(d:Int)(c:List UInt8):-980000000000000<=l.od d c/\l.od d c<=980000000000000:=by
 obtain⟨a1,a2,a3⟩:=HF ho;obtain⟨p1,p2⟩:=HI ho d c;have:=CR d c l.all.1.1 (-l.j1 d c) a3;unfold cG.od;omega
theorem aau {w:World}{F:Nat->Prop}{g:Nat}{l:cG}(h:dZ w F g l)(hF:∀ k,F k->k<w.heap.size)(ho:mF l)(m:aT):
  Ret Tryz.prog 198 #[.pointer (some ⟨g,0,none⟩),gX m.e] w fun r w'=>r=.int .i64 (tD l m).2/\dZ w' F g (tD l m).1/\Fr F w w':=by
 have h0:=h;obtain⟨dl,b,p,G,h⟩:=h;refine c198 _ m.e w _ ?_;unfold C198 tD;refine ak.of fun g1 w1 df au f1 _=>?_;have e1:la w1 g1 m:=au;have no:∀ {w':World},Fr none1 w w'->dZ w' F g l/\Fr F w w':=fun f=>⟨⟨dl,b,p,G,h.af f⟩,f.mono fun _ _ t=>t.elim⟩;refine ae.ah e1 (x:=m.day) rfl (ae.ah e1 (x:=str m.cur) rfl ?_);refine ab.of (aaj (h0.af f1) (fun k U=>by have:=hF k U;have:=f1.size;omega) ho m.day m.cur) ?_;rintro _ w2 ⟨rfl,f2⟩;obtain⟨r1,r2⟩:=aat ho m.day m.cur;obtain⟨p1,p2⟩:=HI ho m.day m.cur;refine⟨_,rfl,aD.of fun w3 _ f3=>?_⟩;have f13:=(f1.trans f2).trans f3;have h3:=h.af f13;have e3:=(e1.af f2).af f3;refine ae.ah e3 (x:=m.day) rfl (ae.ah h3.aE (x:=l.day) rfl (aa.dec (fun hd=>?_) (fun hd=>?_)))
 ·rw[if_pos (by omega)];exact⟨rfl,no f13⟩
 rw[if_neg (by omega)];refine aa.eq (fun hz=>?_) (fun hz=>?_)
 ·rw[if_pos hz];exact⟨rfl,no f13⟩
 rw[if_neg hz];refine ae.ah e3 (x:=m.val) rfl (aa.ne (fun hv=>?_) (fun hv=>?_))
 ·rw[if_pos hv];exact⟨rfl,no f13⟩
 rw[if_neg (fun t=>t hv)];refine aD.of fun w4 _ f4=>aV.of (fun k=>k=g\/k=g1) ?_;have f14:=f13.trans f4;have h4:=h3.af f4;have e4:=e3.af f4;have gp:¬ (only p) g:=fun q=>h.pf.2 (Eq.symm q);have g1p:g1≠p:=fun q=>by have:=hF p h.pf.1;omega
 have fin:∀ {w6 w7:World},Fr (only p) w4 w6->Fr (only p) w6 w7->fY Dh sG w7 p (jL (m.day,m.cur) (l.j1 m.day m.cur+l.od m.day m.cur) l.fV) ->
   (Value.int .i64 0=.int .i64 0/\dZ w7 F g { l with fV:=jL (m.day,m.cur) (l.j1 m.day m.cur+l.od m.day m.cur) l.fV }/\Fr F w w7):=fun{w6 w7} f6 f7 hm=>
  ⟨rfl,⟨dl,b,p,G,(f6.trans f7).ag h4.aE gp,h4.cN.ag (f6.trans f7) (fun k U q=>(h.nJ k U).2.2.1 q),h4.wr.ag (f6.trans f7) (fun k U q=>(h.gf k U).2.2 q),hm,h.nJ,h.gf,h.pf,h.mem⟩,(f14.mono fun _ _ t=>t.elim).comp (f6.trans f7) fun k _ q=>by have:k=p:=q;rw[this];exact h.pf.1⟩
 have ag:∀ {w':World} {K:Prop},Fr (only p) w4 w'->K->ai (fun k=>k=g\/k=g1) w4 w' K:=fun f k=>ai.on f (fun k U q=>by have:k=p:=q;rcases U with rfl | rfl;exact h.pf.2 this.symm;exact g1p this) k
 refine⟨by rw[dP];exact .inl rfl,ae.ah h4.aE (x:=some p) rfl ⟨by rw[dP];exact .inr rfl,ae.ah e4 (x:=m.day) rfl ⟨by rw[dP];exact .inr rfl,ae.ah e4 (x:=str m.cur) rfl ⟨?a,?b⟩⟩⟩⟩
 case' a=>
  refine IL h4.fV m.day m.cur (ag (Fr.refl _ _) ?_);obtain⟨w6,n,l2,pO,f6,_,Pz,_,dz⟩:=OQ (ev:=sG) (z:=0) IJ Tryz.underlying173 (by kernel_rfl) h4.fV (m.day,m.cur);refine⟨((bq (m.day,m.cur) l.fV).getD 0,n,()),w6,pO,?_⟩;have e:(bq (m.day,m.cur) l.fV).getD 0=l.j1 m.day m.cur:=rfl;rw[e,wI (by omega) (by omega)];obtain⟨w7,pN,f7,_,AB⟩:=dz (l.j1 m.day m.cur+l.od m.day m.cur);exact⟨w7,pN,fin f6 f7 AB⟩
 case' b=>
  obtain⟨w6,n,l2,pO,f6,_,Pz,mz,dz⟩:=OQ (ev:=sG) (z:=0) IJ Tryz.underlying173 (by kernel_rfl) h4.fV (m.day,m.cur);refine⟨((bq (m.day,m.cur) l.fV).getD 0,n,()),w6,pO,ag f6 ?_⟩;refine IL Pz m.day m.cur ?_;rw[mz];have e:(bq (m.day,m.cur) l.fV).getD 0=l.j1 m.day m.cur:=rfl;rw[e,wI (by omega) (by omega)];obtain⟨w7,pN,f7,_,AB⟩:=dz (l.j1 m.day m.cur+l.od m.day m.cur);exact⟨w7,pN,fin f6 f7 AB⟩
theorem PA {w:World}{F:Nat->Prop}{g:Nat}{l:cG}(h:dZ w F g l)(hF:∀ k,F k->k<w.heap.size)(ho:mF l)(m:aT)(hm:aJ m.t<=1000000)(ht:TabW w)(eK:Int):
  Ret Tryz.prog 152 #[.pointer (some ⟨g,0,none⟩),gX m.e,.int .i64 eK] w fun r w'=>r=.int .i64 (iG l m eK).2/\((iG l m eK).2=0->dZ w' (fun k=>F k\/cC w w' k) g (iG l m eK).1)/\Fr F w w':=by
 have mi:=ho.num;refine c152 _ m.e eK w _ ?_;unfold C152 iG;refine ak.of fun g1 w1 df au f1 _=>?_;have e1:la w1 g1 m:=au;have bad:∀ {w':World} {n:Int} {X:cG},n≠0->Fr none1 w w'->(n=0->dZ w' (fun k=>F k\/cC w w' k) g X)/\Fr F w w':=fun hn f=>⟨fun h=>absurd h hn,f.mono fun _ _ t=>t.elim⟩;refine cq.of (fun s w'=>s.1=decide (eK≠0/\eK≠1)/\w1=w') ?_ ?_
 ·refine aa.ne (fun ay=>⟨?_,rfl⟩) (fun he=>⟨?_,rfl⟩)
  ·by_cases h1:eK=1
   ·subst h1;rfl
   ·rw[decide_eq_true ⟨ay,h1⟩];simpa using h1
  ·rw[decide_eq_false (fun t=>t.1 he)]
 rintro _ ⟨s,_⟩ _ ⟨hs,rfl⟩;dsimp only at hs ⊢;subst hs;refine aa.dec (fun hb=>?_) (fun hb=>?_)
 ·rw[if_pos hb];exact⟨rfl,bad (show(1:Int)≠0 by decide) f1⟩
 rw[if_neg hb];refine aq.aE (cks:=gH) (x:=m.e) e1 ?_;refine ab.of (aas m hm (ht.af f1)) ?_;rintro _ w2 ⟨rfl,f2⟩;have f12:=f1.trans f2;have e2:=e1.af f2;refine⟨_,rfl,aa.ne (fun ay=>?_) (fun he=>?_)⟩
 ·have ay:iR m≠0:=ay
  rw[if_pos ay];exact⟨rfl,bad ay f12⟩
 rw[if_neg (fun t=>t he)];have h2:=h.af f12;have Dl:∀ k,F k->k<w2.heap.size:=fun k U=>by have:=hF k U;have:=f12.size;omega
 have fL:=f12.size;have fF:∀ {w':World},Fr F w2 w'->Fr F w w':=fun f=>f12.eL f;refine ae.ah e2 (x:=m.kind) rfl (aa.eq (fun U=>?_) (fun U=>?_))
 ·rw[if_pos U]
  refine aq.aE (cks:=gH) (x:=m.e) e2 (ab.of (aao h2 Dl (by omega) m hm) ?_);rintro _ w3 ⟨rfl,h3,f3⟩;exact⟨_,rfl,rfl,fun _=>h3.mono fun k U=>U.imp_right fun q=>⟨by have:=q.1;omega,q.2⟩,fF f3⟩
 have U:m.kind≠2:=U;rw[if_neg U];refine aa.eq (fun U=>?_) (fun U=>?_)
 ·rw[if_pos U]
  refine aq.aE (cks:=gH) (x:=m.e) e2 (ab.of (aaq h2 Dl ho m) ?_);rintro _ w3 ⟨rfl,h3,f3⟩;exact⟨_,rfl,rfl,fun q=>(h3 q).mono fun k U=>.inl U,fF f3⟩
 have U:m.kind≠3:=U;rw[if_neg U];refine aa.eq (fun U=>?_) (fun U=>?_)
 ·rw[if_pos U]
  refine aq.aE (cks:=gH) (x:=m.e) e2 (ab.of (aar h2 Dl ho m eK) ?_);rintro _ w3 ⟨rfl,h3,f3⟩;exact⟨_,rfl,rfl,fun q=>(h3 q).mono fun k U=>.inl U,fF f3⟩
 have U:m.kind≠4:=U;rw[if_neg U];refine aa.eq (fun U=>?_) (fun U=>?_)
 ·rw[if_pos U]
  refine aq.aE (cks:=gH) (x:=m.e) e2 (ab.of (aau h2 Dl ho m) ?_);rintro _ w3 ⟨rfl,h3,f3⟩;exact⟨_,rfl,rfl,fun q=>h3.mono fun k U=>.inl U,fF f3⟩
 have U:m.kind≠6:=U;rw[if_neg U];refine aa.eq (fun U=>?_) (fun U=>?_)
 ·rw[if_pos U]
  refine aD.of fun w3 _ f3=>?_;have f13:=f12.trans f3;obtain⟨dl,b,p,G,h⟩:=h;have h3:=h.af f13;have e3:=e2.af f3;refine ae.ah e3 (x:=m.day) rfl (ae.ah h3.aE (x:=l.day) rfl (aa.dec (fun hd=>?_) (fun hd=>?_)))
  ·rw[if_pos hd];exact⟨rfl,bad (show(7:Int)≠0 by decide) f13⟩
  rw[if_neg hd];refine ae.ah e3 (x:=m.day) rfl (aA.ah h3.aE (show 0<4 by decide) rfl fun w4 dw f4 s4=>⟨rfl,fun _=>⟨dl,b,p,G,dw,h3.cN.ag f4 (fun k U q=>(h.nJ k U).2.1 q),h3.wr.ag f4 (fun k U q=>(h.gf k U).2.1 q),h3.fV.ag f4 (fun q=>h.pf.2 q),fun k U=>⟨.inl (h.nJ k U).1,(h.nJ k U).2⟩,fun k U=>⟨.inl (h.gf k U).1,(h.gf k U).2⟩,⟨.inl h.pf.1,h.pf.2⟩,.inl h.mem⟩,?_⟩);exact(f13.mono fun _ _ t=>t.elim).comp f4 fun k _ q=>by have:k=g:=q;rw[this];exact h.mem
 have U:m.kind≠5:=U;rw[if_neg U];exact⟨rfl,fun _=>h2.mono fun k U=>.inl U,f12.mono fun _ _ t=>t.elim⟩
theorem Dm {w:World}{F:Nat->Prop}{g:Nat}{l:cG}(h:dZ w F g l)(ho:mF l)(m:aT)(hm:aJ m.t<=1000000)(ht:TabW w)(eK:Int):
  Ret Tryz.prog 98 #[.pointer (some ⟨g,0,none⟩),gX m.e,.int .i64 eK] w fun r w'=>r=.int .i64 (jf l m eK)/\Fr none1 w w':=by
 have mi:=ho.num;refine c98 _ m.e eK w _ ?_;unfold C98 jf;refine ak.of fun g1 w1 df au f1 _=>aD.of fun w2 _ f2=>aV.of (fun k=>k=g1) ?_;have e2:la w2 g1 m:=f2.af au;have f12:=f1.trans f2;refine⟨rfl,aq.aE (cks:=gH) (x:=m.e) e2 ?_⟩;refine ab.of (Di (h.af f12) (by omega)) ?_;rintro _ w3 ⟨c,rfl,hc,f3⟩;refine⟨some ⟨c,0,none⟩,rfl,ai.of f3 ?_⟩;refine ab.of (PA hc (fun k U=>U.2) ho m hm (ht.af (f12.trans f3)) eK) ?_;rintro _ w4 ⟨rfl,_,f4⟩;exact⟨_,rfl,ai.on f4 (fun k U q=>by have:=q.1;have:=f2.size;have:=bQ au;omega) ⟨rfl,(f12.trans f3).comp f4 fun k U q=>by have:=q.1;have:=f12.size;omega⟩⟩
theorem aav {w:World}{F:Nat->Prop}{g:Nat}{l:cG}(h:dZ w F g l)(hF:∀ k,F k->k<w.heap.size)(ho:mF l)(m:aT)(hm:aJ m.t<=1000000)(ht:TabW w)(eK:Int):
  Ret Tryz.prog 190 #[.pointer (some ⟨g,0,none⟩),gX m.e,.int .i64 eK] w fun r w'=>r=.int .i64 (iG l m eK).2/\dZ w' (fun k=>F k\/cC w w' k) g (iG l m eK).1/\Fr (only g) w w':=by
 have mi:=ho.num;refine c190 _ m.e eK w _ ?_;unfold C190;refine ak.of fun g1 w1 df au f1 _=>?_;have e1:la w1 g1 m:=au;refine ab.of (Di (h.af f1) (by omega)) ?_;rintro _ w2 ⟨c,rfl,hc,f2⟩;have f12:=f1.trans f2;refine⟨some ⟨c,0,none⟩,rfl,aq.aE (cks:=gH) (x:=m.e) (e1.af f2) ?_⟩;refine ab.of (PA hc (fun k U=>U.2) ho m hm (ht.af f12) eK) ?_;rintro _ w3 ⟨rfl,h3,f3⟩;have s1:=f1.size;have s2:=f2.size;have s3:=f3.size;have f13:Fr none1 w w3:=f12.comp f3 fun k U q=>by have:=q.1;omega
 refine⟨_,rfl,aa.eq (fun he=>?_) (fun he=>?_)⟩
 ·have he:(iG l m eK).2=0:=he
  have h3:=h3 he;generalize(iG l m eK).1=l2 at *;obtain⟨dl,b,p,G,h3⟩:=h3;obtain⟨dl0,b0,p0,G0,h⟩:=h;have gl:=hF g h.mem;have nw:∀ k,(cC w1 w2 k\/cC w2 w3 k)->w.heap.size<=k/\k<w3.heap.size:=fun k U=>by rcases U with q | q<;>exact⟨by have:=q.1;omega,by have:=q.2;omega⟩
  refine aq.aE (cks:=[.int .i64,.aj,.ptr,.map]) (x:=(l2.day,dl,some ⟨b,0,none⟩,some p,())) h3.aE ?_;refine ar.aE (f13.af h.aE) rfl rfl fun w4 dw f4 s4=>?_;refine⟨rfl,⟨dl,b,p,G,dw,h3.cN.ag f4 (fun k U q=>?_),h3.wr.ag f4 (fun k U q=>?_),h3.fV.ag f4 (fun q=>?_),fun k U=>?_,fun k U=>?_,?_,.inl h.mem⟩,f13.eL f4⟩
  ·have:=nw k (h3.nJ k U).1;have:k=g:=q;omega
  ·have:=nw k (h3.gf k U).1;have:k=g:=q;omega
  ·have:=nw p h3.pf.1;have:p=g:=q;omega
  ·have q:=nw k (h3.nJ k U).1
   exact⟨.inr ⟨q.1,by omega⟩,by omega,(h3.nJ k U).2.2⟩
  ·have q:=nw k (h3.gf k U).1
   exact⟨.inr ⟨q.1,by omega⟩,by omega,(h3.gf k U).2.2⟩
  ·have q:=nw p h3.pf.1
   exact⟨.inr ⟨q.1,by omega⟩,by omega⟩
 ·have he:(iG l m eK).2≠0:=he
  rw[Uu he];exact⟨rfl,(h.af f13).mono fun k U=>.inl U,f13.mono fun _ _ t=>t.elim⟩
theorem aaw {kb:List UInt8}(U:kb.length=16)(l hd z:Sl):(mL kb l hd).toArray.setIfInBounds 16 (.slice z.1 z.2.1 z.2.2)=(mL kb z hd).toArray:=by
 apply Array.ext';unfold mL;have:=kD (kb:=kb);rw[Array.toList_setIfInBounds,List.set_append_right _ _ (by omega)];simp[this,U]
theorem aax {kb:List UInt8}(U:kb.length=16)(l hd z:Sl):(mL kb l hd).toArray.setIfInBounds 17 (.slice z.1 z.2.1 z.2.2)=(mL kb l z).toArray:=by
 apply Array.ext';unfold mL;have:=kD (kb:=kb);rw[Array.toList_setIfInBounds,List.set_append_right _ _ (by omega)];simp[this,U]
theorem PB {kb:List UInt8}(U:kb.length=16)(l hd:Sl):(mL kb l hd).toArray.size=18:=by
 unfold mL;have:=kD (kb:=kb);simp[this,U]
def uc (kb:List UInt8)(es:List eW)(hs:List Int)(x:eW):Int:=if 64<=es.length then 5 else(fm kb (hs.getD es.length 0) x).2
theorem aay {w:World}{F:Nat->Prop}{c:Nat}{kb:List UInt8}{es:List eW}{hs:List Int}(U:kb.length=16)(h:jz w F c kb es hs)(hF:∀ k,F k->k<w.heap.size)(hl:hs.length=es.length+1)(qK:es.length<=1000)(hr:∀ n∈hs,0<=n/\n<18446744073709551616)
  {x:eW} (hx:dB x.1) (ht:TabW w) :
  Ret Tryz.prog 189 #[.pointer (some ⟨c,0,none⟩),.agg (ji x).toArray] w fun r w'=>r=.int .i64 (uc kb es hs x)/\(uc kb es hs x=0->jz w' (fun k=>F k\/cC w w' k) c kb (es++[x]) (hs++[(fm kb (hs.getD es.length 0) x).1]))/\Fr (only c) w w':=by
 have hR:=h;obtain⟨⟨l,hd,h1,h2,h3,h4,h5⟩,hm⟩:=h;refine c189 _ (kU x.1.e x.2) w _ ?_;unfold C189 uc;refine ak.of fun g1 wa df au fa _=>?_;have e2:=h2.len;rw[po] at e2;have bad:∀ {w':World} {n:Int} {P:Prop},n≠0->Fr none1 w w'->(n=0->P)/\Fr (only c) w w':=fun hn f=>⟨fun t=>absurd t hn,f.mono fun _ _ t=>t.elim⟩;refine ae.ah (fa.af h1) (x:=l) (by rw[Nat.zero_add];exact(qw U l hd).1) (aa.dec (fun Ap=>?_) (fun Ap=>?_))
 ·rw[if_pos (by omega)];exact⟨rfl,bad (by decide) fa⟩
 rw[if_neg (by omega)];refine aD.of fun wb _ fb=>aV.all ?_;have AO:=fa.trans fb;refine av.all (Pn U (AO.af h1) (av.all (aq.aE (cks:=nv) (x:=kU x.1.e x.2) (fb.af au) ?_)));refine ab.of (De U (hR.af AO) hl qK) ?_;have hh:0<=hs.getD es.length 0/\hs.getD es.length 0<18446744073709551616:=by
  rw[List.getD_eq_getElem?_getD,List.getElem?_eq_getElem (show es.length<hs.length by omega)];exact hr _ (List.getElem_mem _)
 generalize hs.getD es.length 0=zE at *;rintro _ wc ⟨rfl,fc⟩;refine⟨_,rfl,ai.of fc ?_⟩;refine ab.of (IH U hh.1 hh.2 hx (ht.af (AO.trans fc))) ?_;rintro _ wd ⟨rfl,fd⟩;generalize fm kb zE x=N at *;obtain⟨n,e⟩:=N;refine⟨(n,e,()),rfl,aa.ne (fun ay=>⟨rfl,bad ay ((AO.trans fc).trans fd)⟩) (fun he=>?_)⟩;have he:e=0:=he;subst he;refine aD.of fun w0 _ fe=>aV.of (fun k=>k<w0.heap.size) ?_;have f0:Fr none1 w w0:=((AO.trans fc).trans fd).trans fe;have hc:=f0.af h1;have HL:=h2.af f0;have HH:=h3.af f0;have z0:=f0.size;have eD:=bQ hc;have se:=((fc.trans fd).trans fe).af (fb.af au);have nz:=bQ se;have BL:∀ k,aw l k->k<w0.heap.size:=fun k U=>aF.lt HL U;have BH:∀ k,aw hd k->k<w0.heap.size:=fun k U=>aF.lt HH U;have e3:=h3.len;rw[List.length_map,Nat.mul_one] at e3;refine⟨by rw[dP];exact eD,ae.ah hc (x:=l) (by rw[Nat.zero_add];exact(qw U l hd).1) ⟨nz,aq.aE (cks:=nv) (x:=kU x.1.e x.2) se ⟨by rw[dP];exact eD,ae.ah hc (x:=hd) (by rw[Nat.zero_add];exact(qw U l hd).2) ?_⟩⟩⟩;have fin:∀ {w9:World} {z q:Sl},Fr none1 w0 w9->w9.heap[c]? = some (.cells (mL kb l hd).toArray 142 (0,0))->aF w9 110 9 z (rn es++ji x)->aF w9 40 1 q (hs.map IF++[.int .u64 n])->(∀ k,aw z k->w0.heap.size<=k)->(∀ k,aw q k->w0.heap.size<=k) ->
   aA ((⟨c,0,none⟩:Addr).add 16) (.slice z.1 z.2.1 z.2.2) w9 fun aG=>aA ((⟨c,0,none⟩:Addr).add 17) (.slice q.1 q.2.1 q.2.2) aG fun aO=>(Value.int .i64 0=.int .i64 0/\((0:Int)=0->jz aO (fun k=>F k\/cC w aO k) c kb (es++[x]) (hs++[n]))/\Fr (only c) w aO):=by
  intro w9 z q f9 hc9 hz hq zb qb;refine aA.ah hc9 (by rw[PB U];decide) rfl fun aG nC f10 sr=>?_;rw[Nat.zero_add,aaw U] at nC;refine aA.ah nC (by rw[PB U];decide) rfl fun aO o7 f11 xW=>?_;rw[Nat.zero_add,aax U] at o7;have ff:=f10.trans f11;have s9:=f9.size;refine⟨rfl,fun _=>⟨⟨z,q,o7,?_,?_,fun k ft=>?_,fun k ft=>?_⟩,.inl hm⟩,(f0.trans f9).eL ff⟩
  ·have:rn (es++[x])=rn es++ji x:=by unfold rn;simp
   rw[this];exact hz.ag ff fun k ft t=>by have:=zb k ft;have:k=c:=t;omega
  ·rw[List.map_append]
   exact hq.ag ff fun k ft t=>by have:=qb k ft;have:k=c:=t;omega
  ·have:=zb k ft;have:=aF.lt hz ft;exact⟨.inr ⟨by omega,by omega⟩,by omega⟩
  ·have:=qb k ft;have:=aF.lt hq ft;exact⟨.inr ⟨by omega,by omega⟩,by omega⟩
 have FT:=Fr.refl none1 w0;refine⟨?_,?_⟩
 ·skip
  refine ab.of (vN HL.rd (vO _) (by omega)) ?_;rintro _ w1 ⟨u,rfl,Hu,f,xf⟩;refine⟨u,rfl,?_⟩;have s1:=f.size
  try refine ai.of f ?_
  have Bu:∀ k,aw u k->w0.heap.size<=k/\k<w1.heap.size:=fun k U=>⟨xf k U,aF.lt Hu U⟩;have FT:=FT.trans f;have hc:=f.af hc;have HL:=HL.af f;have HH:=HH.af f;refine⟨?_,?_⟩
  ·skip
   obtain⟨y,w2,hr,Hy,gT,f,xf⟩:=mI (P:=Tryz.prog) (w:=w1) nG (ji x) rfl (by decide);refine⟨y,w2,hr,?_⟩;have s2:=f.size
   try refine ai.of f ?_
   have By:∀ k,aw y k->w1.heap.size<=k/\k<w2.heap.size:=fun k U=>⟨xf k U,aF.lt Hy U⟩;have FT:=FT.trans f;have hc:=f.af hc;have HL:=HL.af f;have HH:=HH.af f;have Hu:=Hu.af f;refine⟨?_,?_⟩
   ·skip
    have dm:=Hu.len;rw[po] at dm;obtain⟨z,w3,hr,Hz,_,f,xf⟩:=gA nG 139 Hu Hy.rd (sK x) (by omega);refine⟨z,w3,hr,?_⟩;have s3:=f.size
    try refine ai.on f (fun k U t=>by have U:k<w0.heap.size:=U;have:=Bu k t;omega) ?_
    have Bz:∀ k,aw z k->(w0.heap.size<=k/\k<w1.heap.size)\/(w2.heap.size<=k/\k<w3.heap.size):=fun k U=>(xf k U).elim (fun t=>.inl (Bu k t)) (fun t=>.inr ⟨t,aF.lt Hz U⟩);have FT:=FT.comp f fun k U t=>by have:=Bu k t;omega
    have hc:=f.ag hc fun t=>by have:=Bu c t;omega
    have HL:=HL.ag f fun k U t=>by have:=BL k U;have:=Bu k t;omega
    have HH:=HH.ag f fun k U t=>by have:=BH k U;have:=Bu k t;omega
    refine⟨?_,?_⟩
    ·skip
     refine ab.of (qu HH.rd (qv _) (by omega)) ?_;rintro _ w4 ⟨v,rfl,Hv,f,xf⟩;refine⟨v,rfl,?_⟩;have s4:=f.size
     try refine ai.of f ?_
     have Bv:∀ k,aw v k->w3.heap.size<=k/\k<w4.heap.size:=fun k U=>⟨xf k U,aF.lt Hv U⟩;have FT:=FT.trans f;have hc:=f.af hc;have HL:=HL.af f;have HH:=HH.af f;have Hz:=Hz.af f;obtain⟨p,w5,hr,Hp,oh,f,xf⟩:=lH (P:=Tryz.prog) (w:=w4) jR (.int .u64 n) rfl;refine⟨p,w5,hr,?_⟩;have s5:=f.size
     try refine ai.of f ?_
     have Bp:∀ k,aw p k->w4.heap.size<=k/\k<w5.heap.size:=fun k U=>⟨xf k U,aF.lt Hp U⟩;have FT:=FT.trans f;have hc:=f.af hc;have HL:=HL.af f;have HH:=HH.af f;have Hz:=Hz.af f;have Hv:=Hv.af f;have cM:=Hv.len;rw[List.length_map,Nat.mul_one] at cM;obtain⟨q,w6,hr,Hq,_,f,xf⟩:=gA jR 140 Hv Hp.rd (by intro t ht;simp at ht;subst ht;rfl) (by omega);refine⟨q,w6,hr,?_⟩;have s6:=f.size
     try refine ai.on f (fun k U t=>by have U:k<w0.heap.size:=U;have:=Bv k t;omega) ?_
     have Bq:∀ k,aw q k->(w3.heap.size<=k/\k<w4.heap.size)\/(w5.heap.size<=k/\k<w6.heap.size):=fun k U=>(xf k U).elim (fun t=>.inl (Bv k t)) (fun t=>.inr ⟨t,aF.lt Hq U⟩);have FT:=FT.comp f fun k U t=>by have:=Bv k t;omega
     have hc:=f.ag hc fun t=>by have:=Bv c t;omega
     have HL:=HL.ag f fun k U t=>by have:=BL k U;have:=Bv k t;omega
     have HH:=HH.ag f fun k U t=>by have:=BH k U;have:=Bv k t;omega
     have Hz:=Hz.ag f fun k U t=>by have:=Bz k U;have:=Bv k t;omega
     exact fin FT hc Hz Hq (fun k U=>by have:=Bz k U;omega) (fun k U=>by have:=Bq k U;omega)
    ·skip
     obtain⟨p,w4,hr,Hp,oh,f,xf⟩:=lH (P:=Tryz.prog) (w:=w3) jR (.int .u64 n) rfl;refine⟨p,w4,hr,?_⟩;have s4:=f.size
     try refine ai.of f ?_
     have Bp:∀ k,aw p k->w3.heap.size<=k/\k<w4.heap.size:=fun k U=>⟨xf k U,aF.lt Hp U⟩;have FT:=FT.trans f;have hc:=f.af hc;have HL:=HL.af f;have HH:=HH.af f;have Hz:=Hz.af f;refine ab.of (qu HH.rd (qv _) (by omega)) ?_;rintro _ w5 ⟨v,rfl,Hv,f,xf⟩;refine⟨v,rfl,?_⟩;have s5:=f.size
     try refine ai.of f ?_
     have Bv:∀ k,aw v k->w4.heap.size<=k/\k<w5.heap.size:=fun k U=>⟨xf k U,aF.lt Hv U⟩;have FT:=FT.trans f;have hc:=f.af hc;have HL:=HL.af f;have HH:=HH.af f;have Hz:=Hz.af f;have Hp:=Hp.af f;have cM:=Hv.len;rw[List.length_map,Nat.mul_one] at cM;obtain⟨q,w6,hr,Hq,_,f,xf⟩:=gA jR 140 Hv Hp.rd (by intro t ht;simp at ht;subst ht;rfl) (by omega);refine⟨q,w6,hr,?_⟩;have s6:=f.size
     try refine ai.on f (fun k U t=>by have U:k<w0.heap.size:=U;have:=Bv k t;omega) ?_
     have Bq:∀ k,aw q k->(w4.heap.size<=k/\k<w5.heap.size)\/(w5.heap.size<=k/\k<w6.heap.size):=fun k U=>(xf k U).elim (fun t=>.inl (Bv k t)) (fun t=>.inr ⟨t,aF.lt Hq U⟩);have FT:=FT.comp f fun k U t=>by have:=Bv k t;omega
     have hc:=f.ag hc fun t=>by have:=Bv c t;omega
     have HL:=HL.ag f fun k U t=>by have:=BL k U;have:=Bv k t;omega
     have HH:=HH.ag f fun k U t=>by have:=BH k U;have:=Bv k t;omega
     have Hz:=Hz.ag f fun k U t=>by have:=Bz k U;have:=Bv k t;omega
     exact fin FT hc Hz Hq (fun k U=>by have:=Bz k U;omega) (fun k U=>by have:=Bq k U;omega)
   ·skip
    obtain⟨p,w3,hr,Hp,oh,f,xf⟩:=lH (P:=Tryz.prog) (w:=w2) jR (.int .u64 n) rfl;refine⟨p,w3,hr,?_⟩;have s3:=f.size
    try refine ai.of f ?_
    have Bp:∀ k,aw p k->w2.heap.size<=k/\k<w3.heap.size:=fun k U=>⟨xf k U,aF.lt Hp U⟩;have FT:=FT.trans f;have hc:=f.af hc;have HL:=HL.af f;have HH:=HH.af f;have Hu:=Hu.af f;have Hy:=Hy.af f;have dm:=Hu.len;rw[po] at dm;obtain⟨z,w4,hr,Hz,_,f,xf⟩:=gA nG 139 Hu Hy.rd (sK x) (by omega);refine⟨z,w4,hr,?_⟩;have s4:=f.size
    try refine ai.on f (fun k U t=>by have U:k<w0.heap.size:=U;have:=Bu k t;omega) ?_
    have Bz:∀ k,aw z k->(w0.heap.size<=k/\k<w1.heap.size)\/(w3.heap.size<=k/\k<w4.heap.size):=fun k U=>(xf k U).elim (fun t=>.inl (Bu k t)) (fun t=>.inr ⟨t,aF.lt Hz U⟩);have FT:=FT.comp f fun k U t=>by have:=Bu k t;omega
    have hc:=f.ag hc fun t=>by have:=Bu c t;omega
    have HL:=HL.ag f fun k U t=>by have:=BL k U;have:=Bu k t;omega
    have HH:=HH.ag f fun k U t=>by have:=BH k U;have:=Bu k t;omega
    have Hp:=Hp.ag f fun k U t=>by have:=Bp k U;have:=Bu k t;omega
    refine ab.of (qu HH.rd (qv _) (by omega)) ?_;rintro _ w5 ⟨v,rfl,Hv,f,xf⟩;refine⟨v,rfl,?_⟩;have s5:=f.size
    try refine ai.of f ?_
    have Bv:∀ k,aw v k->w4.heap.size<=k/\k<w5.heap.size:=fun k U=>⟨xf k U,aF.lt Hv U⟩;have FT:=FT.trans f;have hc:=f.af hc;have HL:=HL.af f;have HH:=HH.af f;have Hp:=Hp.af f;have Hz:=Hz.af f;have cM:=Hv.len;rw[List.length_map,Nat.mul_one] at cM;obtain⟨q,w6,hr,Hq,_,f,xf⟩:=gA jR 140 Hv Hp.rd (by intro t ht;simp at ht;subst ht;rfl) (by omega);refine⟨q,w6,hr,?_⟩;have s6:=f.size
    try refine ai.on f (fun k U t=>by have U:k<w0.heap.size:=U;have:=Bv k t;omega) ?_
    have Bq:∀ k,aw q k->(w4.heap.size<=k/\k<w5.heap.size)\/(w5.heap.size<=k/\k<w6.heap.size):=fun k U=>(xf k U).elim (fun t=>.inl (Bv k t)) (fun t=>.inr ⟨t,aF.lt Hq U⟩);have FT:=FT.comp f fun k U t=>by have:=Bv k t;omega
    have hc:=f.ag hc fun t=>by have:=Bv c t;omega
    have HL:=HL.ag f fun k U t=>by have:=BL k U;have:=Bv k t;omega
    have HH:=HH.ag f fun k U t=>by have:=BH k U;have:=Bv k t;omega
    have Hz:=Hz.ag f fun k U t=>by have:=Bz k U;have:=Bv k t;omega
    exact fin FT hc Hz Hq (fun k U=>by have:=Bz k U;omega) (fun k U=>by have:=Bq k U;omega)
  ·skip
   obtain⟨p,w2,hr,Hp,oh,f,xf⟩:=lH (P:=Tryz.prog) (w:=w1) jR (.int .u64 n) rfl;refine⟨p,w2,hr,?_⟩;have s2:=f.size
   try refine ai.of f ?_
   have Bp:∀ k,aw p k->w1.heap.size<=k/\k<w2.heap.size:=fun k U=>⟨xf k U,aF.lt Hp U⟩;have FT:=FT.trans f;have hc:=f.af hc;have HL:=HL.af f;have HH:=HH.af f;have Hu:=Hu.af f;obtain⟨y,w3,hr,Hy,gT,f,xf⟩:=mI (P:=Tryz.prog) (w:=w2) nG (ji x) rfl (by decide);refine⟨y,w3,hr,?_⟩;have s3:=f.size
   try refine ai.of f ?_
   have By:∀ k,aw y k->w2.heap.size<=k/\k<w3.heap.size:=fun k U=>⟨xf k U,aF.lt Hy U⟩;have FT:=FT.trans f;have hc:=f.af hc;have HL:=HL.af f;have HH:=HH.af f;have Hu:=Hu.af f;have Hp:=Hp.af f;have dm:=Hu.len;rw[po] at dm;obtain⟨z,w4,hr,Hz,_,f,xf⟩:=gA nG 139 Hu Hy.rd (sK x) (by omega);refine⟨z,w4,hr,?_⟩;have s4:=f.size
   try refine ai.on f (fun k U t=>by have U:k<w0.heap.size:=U;have:=Bu k t;omega) ?_
   have Bz:∀ k,aw z k->(w0.heap.size<=k/\k<w1.heap.size)\/(w3.heap.size<=k/\k<w4.heap.size):=fun k U=>(xf k U).elim (fun t=>.inl (Bu k t)) (fun t=>.inr ⟨t,aF.lt Hz U⟩);have FT:=FT.comp f fun k U t=>by have:=Bu k t;omega
   have hc:=f.ag hc fun t=>by have:=Bu c t;omega
   have HL:=HL.ag f fun k U t=>by have:=BL k U;have:=Bu k t;omega
   have HH:=HH.ag f fun k U t=>by have:=BH k U;have:=Bu k t;omega
   have Hp:=Hp.ag f fun k U t=>by have:=Bp k U;have:=Bu k t;omega
   refine ab.of (qu HH.rd (qv _) (by omega)) ?_;rintro _ w5 ⟨v,rfl,Hv,f,xf⟩;refine⟨v,rfl,?_⟩;have s5:=f.size
   try refine ai.of f ?_
   have Bv:∀ k,aw v k->w4.heap.size<=k/\k<w5.heap.size:=fun k U=>⟨xf k U,aF.lt Hv U⟩;have FT:=FT.trans f;have hc:=f.af hc;have HL:=HL.af f;have HH:=HH.af f;have Hp:=Hp.af f;have Hz:=Hz.af f;have cM:=Hv.len;rw[List.length_map,Nat.mul_one] at cM;obtain⟨q,w6,hr,Hq,_,f,xf⟩:=gA jR 140 Hv Hp.rd (by intro t ht;simp at ht;subst ht;rfl) (by omega);refine⟨q,w6,hr,?_⟩;have s6:=f.size
   try refine ai.on f (fun k U t=>by have U:k<w0.heap.size:=U;have:=Bv k t;omega) ?_
   have Bq:∀ k,aw q k->(w4.heap.size<=k/\k<w5.heap.size)\/(w5.heap.size<=k/\k<w6.heap.size):=fun k U=>(xf k U).elim (fun t=>.inl (Bv k t)) (fun t=>.inr ⟨t,aF.lt Hq U⟩);have FT:=FT.comp f fun k U t=>by have:=Bv k t;omega
   have hc:=f.ag hc fun t=>by have:=Bv c t;omega
   have HL:=HL.ag f fun k U t=>by have:=BL k U;have:=Bv k t;omega
   have HH:=HH.ag f fun k U t=>by have:=BH k U;have:=Bv k t;omega
   have Hz:=Hz.ag f fun k U t=>by have:=Bz k U;have:=Bv k t;omega
   exact fin FT hc Hz Hq (fun k U=>by have:=Bz k U;omega) (fun k U=>by have:=Bq k U;omega)
 ·skip
  refine⟨?_,?_⟩
  ·skip
   obtain⟨y,w1,hr,Hy,gT,f,xf⟩:=mI (P:=Tryz.prog) (w:=w0) nG (ji x) rfl (by decide);refine⟨y,w1,hr,?_⟩;have s1:=f.size
   try refine ai.of f ?_
   have By:∀ k,aw y k->w0.heap.size<=k/\k<w1.heap.size:=fun k U=>⟨xf k U,aF.lt Hy U⟩;have FT:=FT.trans f;have hc:=f.af hc;have HL:=HL.af f;have HH:=HH.af f;refine⟨?_,?_⟩
   ·skip
    refine ab.of (vN HL.rd (vO _) (by omega)) ?_;rintro _ w2 ⟨u,rfl,Hu,f,xf⟩;refine⟨u,rfl,?_⟩;have s2:=f.size
    try refine ai.of f ?_
    have Bu:∀ k,aw u k->w1.heap.size<=k/\k<w2.heap.size:=fun k U=>⟨xf k U,aF.lt Hu U⟩;have FT:=FT.trans f;have hc:=f.af hc;have HL:=HL.af f;have HH:=HH.af f;have Hy:=Hy.af f;refine⟨?_,?_⟩
    ·skip
     have dm:=Hu.len;rw[po] at dm;obtain⟨z,w3,hr,Hz,_,f,xf⟩:=gA nG 139 Hu Hy.rd (sK x) (by omega);refine⟨z,w3,hr,?_⟩;have s3:=f.size
     try refine ai.on f (fun k U t=>by have U:k<w0.heap.size:=U;have:=Bu k t;omega) ?_
     have Bz:∀ k,aw z k->(w1.heap.size<=k/\k<w2.heap.size)\/(w2.heap.size<=k/\k<w3.heap.size):=fun k U=>(xf k U).elim (fun t=>.inl (Bu k t)) (fun t=>.inr ⟨t,aF.lt Hz U⟩);have FT:=FT.comp f fun k U t=>by have:=Bu k t;omega
     have hc:=f.ag hc fun t=>by have:=Bu c t;omega
     have HL:=HL.ag f fun k U t=>by have:=BL k U;have:=Bu k t;omega
     have HH:=HH.ag f fun k U t=>by have:=BH k U;have:=Bu k t;omega
     refine⟨?_,?_⟩
     ·skip
      refine ab.of (qu HH.rd (qv _) (by omega)) ?_;rintro _ w4 ⟨v,rfl,Hv,f,xf⟩;refine⟨v,rfl,?_⟩;have s4:=f.size
      try refine ai.of f ?_
      have Bv:∀ k,aw v k->w3.heap.size<=k/\k<w4.heap.size:=fun k U=>⟨xf k U,aF.lt Hv U⟩;have FT:=FT.trans f;have hc:=f.af hc;have HL:=HL.af f;have HH:=HH.af f;have Hz:=Hz.af f;obtain⟨p,w5,hr,Hp,oh,f,xf⟩:=lH (P:=Tryz.prog) (w:=w4) jR (.int .u64 n) rfl;refine⟨p,w5,hr,?_⟩;have s5:=f.size
      try refine ai.of f ?_
      have Bp:∀ k,aw p k->w4.heap.size<=k/\k<w5.heap.size:=fun k U=>⟨xf k U,aF.lt Hp U⟩;have FT:=FT.trans f;have hc:=f.af hc;have HL:=HL.af f;have HH:=HH.af f;have Hz:=Hz.af f;have Hv:=Hv.af f;have cM:=Hv.len;rw[List.length_map,Nat.mul_one] at cM;obtain⟨q,w6,hr,Hq,_,f,xf⟩:=gA jR 140 Hv Hp.rd (by intro t ht;simp at ht;subst ht;rfl) (by omega);refine⟨q,w6,hr,?_⟩;have s6:=f.size
      try refine ai.on f (fun k U t=>by have U:k<w0.heap.size:=U;have:=Bv k t;omega) ?_
      have Bq:∀ k,aw q k->(w3.heap.size<=k/\k<w4.heap.size)\/(w5.heap.size<=k/\k<w6.heap.size):=fun k U=>(xf k U).elim (fun t=>.inl (Bv k t)) (fun t=>.inr ⟨t,aF.lt Hq U⟩);have FT:=FT.comp f fun k U t=>by have:=Bv k t;omega
      have hc:=f.ag hc fun t=>by have:=Bv c t;omega
      have HL:=HL.ag f fun k U t=>by have:=BL k U;have:=Bv k t;omega
      have HH:=HH.ag f fun k U t=>by have:=BH k U;have:=Bv k t;omega
      have Hz:=Hz.ag f fun k U t=>by have:=Bz k U;have:=Bv k t;omega
      exact fin FT hc Hz Hq (fun k U=>by have:=Bz k U;omega) (fun k U=>by have:=Bq k U;omega)
     ·skip
      obtain⟨p,w4,hr,Hp,oh,f,xf⟩:=lH (P:=Tryz.prog) (w:=w3) jR (.int .u64 n) rfl;refine⟨p,w4,hr,?_⟩;have s4:=f.size
      try refine ai.of f ?_
      have Bp:∀ k,aw p k->w3.heap.size<=k/\k<w4.heap.size:=fun k U=>⟨xf k U,aF.lt Hp U⟩;have FT:=FT.trans f;have hc:=f.af hc;have HL:=HL.af f;have HH:=HH.af f;have Hz:=Hz.af f;refine ab.of (qu HH.rd (qv _) (by omega)) ?_;rintro _ w5 ⟨v,rfl,Hv,f,xf⟩;refine⟨v,rfl,?_⟩;have s5:=f.size
      try refine ai.of f ?_
      have Bv:∀ k,aw v k->w4.heap.size<=k/\k<w5.heap.size:=fun k U=>⟨xf k U,aF.lt Hv U⟩;have FT:=FT.trans f;have hc:=f.af hc;have HL:=HL.af f;have HH:=HH.af f;have Hz:=Hz.af f;have Hp:=Hp.af f;have cM:=Hv.len;rw[List.length_map,Nat.mul_one] at cM;obtain⟨q,w6,hr,Hq,_,f,xf⟩:=gA jR 140 Hv Hp.rd (by intro t ht;simp at ht;subst ht;rfl) (by omega);refine⟨q,w6,hr,?_⟩;have s6:=f.size
      try refine ai.on f (fun k U t=>by have U:k<w0.heap.size:=U;have:=Bv k t;omega) ?_
      have Bq:∀ k,aw q k->(w4.heap.size<=k/\k<w5.heap.size)\/(w5.heap.size<=k/\k<w6.heap.size):=fun k U=>(xf k U).elim (fun t=>.inl (Bv k t)) (fun t=>.inr ⟨t,aF.lt Hq U⟩);have FT:=FT.comp f fun k U t=>by have:=Bv k t;omega
      have hc:=f.ag hc fun t=>by have:=Bv c t;omega
      have HL:=HL.ag f fun k U t=>by have:=BL k U;have:=Bv k t;omega
      have HH:=HH.ag f fun k U t=>by have:=BH k U;have:=Bv k t;omega
      have Hz:=Hz.ag f fun k U t=>by have:=Bz k U;have:=Bv k t;omega
      exact fin FT hc Hz Hq (fun k U=>by have:=Bz k U;omega) (fun k U=>by have:=Bq k U;omega)
    ·skip
     obtain⟨p,w3,hr,Hp,oh,f,xf⟩:=lH (P:=Tryz.prog) (w:=w2) jR (.int .u64 n) rfl;refine⟨p,w3,hr,?_⟩;have s3:=f.size
     try refine ai.of f ?_
     have Bp:∀ k,aw p k->w2.heap.size<=k/\k<w3.heap.size:=fun k U=>⟨xf k U,aF.lt Hp U⟩;have FT:=FT.trans f;have hc:=f.af hc;have HL:=HL.af f;have HH:=HH.af f;have Hy:=Hy.af f;have Hu:=Hu.af f;have dm:=Hu.len;rw[po] at dm;obtain⟨z,w4,hr,Hz,_,f,xf⟩:=gA nG 139 Hu Hy.rd (sK x) (by omega);refine⟨z,w4,hr,?_⟩;have s4:=f.size
     try refine ai.on f (fun k U t=>by have U:k<w0.heap.size:=U;have:=Bu k t;omega) ?_
     have Bz:∀ k,aw z k->(w1.heap.size<=k/\k<w2.heap.size)\/(w3.heap.size<=k/\k<w4.heap.size):=fun k U=>(xf k U).elim (fun t=>.inl (Bu k t)) (fun t=>.inr ⟨t,aF.lt Hz U⟩);have FT:=FT.comp f fun k U t=>by have:=Bu k t;omega
     have hc:=f.ag hc fun t=>by have:=Bu c t;omega
     have HL:=HL.ag f fun k U t=>by have:=BL k U;have:=Bu k t;omega
     have HH:=HH.ag f fun k U t=>by have:=BH k U;have:=Bu k t;omega
     have Hp:=Hp.ag f fun k U t=>by have:=Bp k U;have:=Bu k t;omega
     refine ab.of (qu HH.rd (qv _) (by omega)) ?_;rintro _ w5 ⟨v,rfl,Hv,f,xf⟩;refine⟨v,rfl,?_⟩;have s5:=f.size
     try refine ai.of f ?_
     have Bv:∀ k,aw v k->w4.heap.size<=k/\k<w5.heap.size:=fun k U=>⟨xf k U,aF.lt Hv U⟩;have FT:=FT.trans f;have hc:=f.af hc;have HL:=HL.af f;have HH:=HH.af f;have Hp:=Hp.af f;have Hz:=Hz.af f;have cM:=Hv.len;rw[List.length_map,Nat.mul_one] at cM;obtain⟨q,w6,hr,Hq,_,f,xf⟩:=gA jR 140 Hv Hp.rd (by intro t ht;simp at ht;subst ht;rfl) (by omega);refine⟨q,w6,hr,?_⟩;have s6:=f.size
     try refine ai.on f (fun k U t=>by have U:k<w0.heap.size:=U;have:=Bv k t;omega) ?_
     have Bq:∀ k,aw q k->(w4.heap.size<=k/\k<w5.heap.size)\/(w5.heap.size<=k/\k<w6.heap.size):=fun k U=>(xf k U).elim (fun t=>.inl (Bv k t)) (fun t=>.inr ⟨t,aF.lt Hq U⟩);have FT:=FT.comp f fun k U t=>by have:=Bv k t;omega
     have hc:=f.ag hc fun t=>by have:=Bv c t;omega
     have HL:=HL.ag f fun k U t=>by have:=BL k U;have:=Bv k t;omega
     have HH:=HH.ag f fun k U t=>by have:=BH k U;have:=Bv k t;omega
     have Hz:=Hz.ag f fun k U t=>by have:=Bz k U;have:=Bv k t;omega
     exact fin FT hc Hz Hq (fun k U=>by have:=Bz k U;omega) (fun k U=>by have:=Bq k U;omega)
   ·skip
    obtain⟨p,w2,hr,Hp,oh,f,xf⟩:=lH (P:=Tryz.prog) (w:=w1) jR (.int .u64 n) rfl;refine⟨p,w2,hr,?_⟩;have s2:=f.size
    try refine ai.of f ?_
    have Bp:∀ k,aw p k->w1.heap.size<=k/\k<w2.heap.size:=fun k U=>⟨xf k U,aF.lt Hp U⟩;have FT:=FT.trans f;have hc:=f.af hc;have HL:=HL.af f;have HH:=HH.af f;have Hy:=Hy.af f;refine ab.of (vN HL.rd (vO _) (by omega)) ?_;rintro _ w3 ⟨u,rfl,Hu,f,xf⟩;refine⟨u,rfl,?_⟩;have s3:=f.size
    try refine ai.of f ?_
    have Bu:∀ k,aw u k->w2.heap.size<=k/\k<w3.heap.size:=fun k U=>⟨xf k U,aF.lt Hu U⟩;have FT:=FT.trans f;have hc:=f.af hc;have HL:=HL.af f;have HH:=HH.af f;have Hy:=Hy.af f;have Hp:=Hp.af f;have dm:=Hu.len;rw[po] at dm;obtain⟨z,w4,hr,Hz,_,f,xf⟩:=gA nG 139 Hu Hy.rd (sK x) (by omega);refine⟨z,w4,hr,?_⟩;have s4:=f.size
    try refine ai.on f (fun k U t=>by have U:k<w0.heap.size:=U;have:=Bu k t;omega) ?_
    have Bz:∀ k,aw z k->(w2.heap.size<=k/\k<w3.heap.size)\/(w3.heap.size<=k/\k<w4.heap.size):=fun k U=>(xf k U).elim (fun t=>.inl (Bu k t)) (fun t=>.inr ⟨t,aF.lt Hz U⟩);have FT:=FT.comp f fun k U t=>by have:=Bu k t;omega
    have hc:=f.ag hc fun t=>by have:=Bu c t;omega
    have HL:=HL.ag f fun k U t=>by have:=BL k U;have:=Bu k t;omega
    have HH:=HH.ag f fun k U t=>by have:=BH k U;have:=Bu k t;omega
    have Hp:=Hp.ag f fun k U t=>by have:=Bp k U;have:=Bu k t;omega
    refine ab.of (qu HH.rd (qv _) (by omega)) ?_;rintro _ w5 ⟨v,rfl,Hv,f,xf⟩;refine⟨v,rfl,?_⟩;have s5:=f.size
    try refine ai.of f ?_
    have Bv:∀ k,aw v k->w4.heap.size<=k/\k<w5.heap.size:=fun k U=>⟨xf k U,aF.lt Hv U⟩;have FT:=FT.trans f;have hc:=f.af hc;have HL:=HL.af f;have HH:=HH.af f;have Hp:=Hp.af f;have Hz:=Hz.af f;have cM:=Hv.len;rw[List.length_map,Nat.mul_one] at cM;obtain⟨q,w6,hr,Hq,_,f,xf⟩:=gA jR 140 Hv Hp.rd (by intro t ht;simp at ht;subst ht;rfl) (by omega);refine⟨q,w6,hr,?_⟩;have s6:=f.size
    try refine ai.on f (fun k U t=>by have U:k<w0.heap.size:=U;have:=Bv k t;omega) ?_
    have Bq:∀ k,aw q k->(w4.heap.size<=k/\k<w5.heap.size)\/(w5.heap.size<=k/\k<w6.heap.size):=fun k U=>(xf k U).elim (fun t=>.inl (Bv k t)) (fun t=>.inr ⟨t,aF.lt Hq U⟩);have FT:=FT.comp f fun k U t=>by have:=Bv k t;omega
    have hc:=f.ag hc fun t=>by have:=Bv c t;omega
    have HL:=HL.ag f fun k U t=>by have:=BL k U;have:=Bv k t;omega
    have HH:=HH.ag f fun k U t=>by have:=BH k U;have:=Bv k t;omega
    have Hz:=Hz.ag f fun k U t=>by have:=Bz k U;have:=Bv k t;omega
    exact fin FT hc Hz Hq (fun k U=>by have:=Bz k U;omega) (fun k U=>by have:=Bq k U;omega)
  ·skip
   obtain⟨p,w1,hr,Hp,oh,f,xf⟩:=lH (P:=Tryz.prog) (w:=w0) jR (.int .u64 n) rfl;refine⟨p,w1,hr,?_⟩;have s1:=f.size
   try refine ai.of f ?_
   have Bp:∀ k,aw p k->w0.heap.size<=k/\k<w1.heap.size:=fun k U=>⟨xf k U,aF.lt Hp U⟩;have FT:=FT.trans f;have hc:=f.af hc;have HL:=HL.af f;have HH:=HH.af f;refine⟨?_,?_⟩
   ·skip
    refine ab.of (vN HL.rd (vO _) (by omega)) ?_;rintro _ w2 ⟨u,rfl,Hu,f,xf⟩;refine⟨u,rfl,?_⟩;have s2:=f.size
    try refine ai.of f ?_
    have Bu:∀ k,aw u k->w1.heap.size<=k/\k<w2.heap.size:=fun k U=>⟨xf k U,aF.lt Hu U⟩;have FT:=FT.trans f;have hc:=f.af hc;have HL:=HL.af f;have HH:=HH.af f;have Hp:=Hp.af f;obtain⟨y,w3,hr,Hy,gT,f,xf⟩:=mI (P:=Tryz.prog) (w:=w2) nG (ji x) rfl (by decide);refine⟨y,w3,hr,?_⟩;have s3:=f.size
    try refine ai.of f ?_
    have By:∀ k,aw y k->w2.heap.size<=k/\k<w3.heap.size:=fun k U=>⟨xf k U,aF.lt Hy U⟩;have FT:=FT.trans f;have hc:=f.af hc;have HL:=HL.af f;have HH:=HH.af f;have Hp:=Hp.af f;have Hu:=Hu.af f;have dm:=Hu.len;rw[po] at dm;obtain⟨z,w4,hr,Hz,_,f,xf⟩:=gA nG 139 Hu Hy.rd (sK x) (by omega);refine⟨z,w4,hr,?_⟩;have s4:=f.size
    try refine ai.on f (fun k U t=>by have U:k<w0.heap.size:=U;have:=Bu k t;omega) ?_
    have Bz:∀ k,aw z k->(w1.heap.size<=k/\k<w2.heap.size)\/(w3.heap.size<=k/\k<w4.heap.size):=fun k U=>(xf k U).elim (fun t=>.inl (Bu k t)) (fun t=>.inr ⟨t,aF.lt Hz U⟩);have FT:=FT.comp f fun k U t=>by have:=Bu k t;omega
    have hc:=f.ag hc fun t=>by have:=Bu c t;omega
    have HL:=HL.ag f fun k U t=>by have:=BL k U;have:=Bu k t;omega
    have HH:=HH.ag f fun k U t=>by have:=BH k U;have:=Bu k t;omega
    have Hp:=Hp.ag f fun k U t=>by have:=Bp k U;have:=Bu k t;omega
    refine ab.of (qu HH.rd (qv _) (by omega)) ?_;rintro _ w5 ⟨v,rfl,Hv,f,xf⟩;refine⟨v,rfl,?_⟩;have s5:=f.size
    try refine ai.of f ?_
    have Bv:∀ k,aw v k->w4.heap.size<=k/\k<w5.heap.size:=fun k U=>⟨xf k U,aF.lt Hv U⟩;have FT:=FT.trans f;have hc:=f.af hc;have HL:=HL.af f;have HH:=HH.af f;have Hp:=Hp.af f;have Hz:=Hz.af f;have cM:=Hv.len;rw[List.length_map,Nat.mul_one] at cM;obtain⟨q,w6,hr,Hq,_,f,xf⟩:=gA jR 140 Hv Hp.rd (by intro t ht;simp at ht;subst ht;rfl) (by omega);refine⟨q,w6,hr,?_⟩;have s6:=f.size
    try refine ai.on f (fun k U t=>by have U:k<w0.heap.size:=U;have:=Bv k t;omega) ?_
    have Bq:∀ k,aw q k->(w4.heap.size<=k/\k<w5.heap.size)\/(w5.heap.size<=k/\k<w6.heap.size):=fun k U=>(xf k U).elim (fun t=>.inl (Bv k t)) (fun t=>.inr ⟨t,aF.lt Hq U⟩);have FT:=FT.comp f fun k U t=>by have:=Bv k t;omega
    have hc:=f.ag hc fun t=>by have:=Bv c t;omega
    have HL:=HL.ag f fun k U t=>by have:=BL k U;have:=Bv k t;omega
    have HH:=HH.ag f fun k U t=>by have:=BH k U;have:=Bv k t;omega
    have Hz:=Hz.ag f fun k U t=>by have:=Bz k U;have:=Bv k t;omega
    exact fin FT hc Hz Hq (fun k U=>by have:=Bz k U;omega) (fun k U=>by have:=Bq k U;omega)
   ·skip
    obtain⟨y,w2,hr,Hy,gT,f,xf⟩:=mI (P:=Tryz.prog) (w:=w1) nG (ji x) rfl (by decide);refine⟨y,w2,hr,?_⟩;have s2:=f.size
    try refine ai.of f ?_
    have By:∀ k,aw y k->w1.heap.size<=k/\k<w2.heap.size:=fun k U=>⟨xf k U,aF.lt Hy U⟩;have FT:=FT.trans f;have hc:=f.af hc;have HL:=HL.af f;have HH:=HH.af f;have Hp:=Hp.af f;refine ab.of (vN HL.rd (vO _) (by omega)) ?_;rintro _ w3 ⟨u,rfl,Hu,f,xf⟩;refine⟨u,rfl,?_⟩;have s3:=f.size
    try refine ai.of f ?_
    have Bu:∀ k,aw u k->w2.heap.size<=k/\k<w3.heap.size:=fun k U=>⟨xf k U,aF.lt Hu U⟩;have FT:=FT.trans f;have hc:=f.af hc;have HL:=HL.af f;have HH:=HH.af f;have Hp:=Hp.af f;have Hy:=Hy.af f;have dm:=Hu.len;rw[po] at dm;obtain⟨z,w4,hr,Hz,_,f,xf⟩:=gA nG 139 Hu Hy.rd (sK x) (by omega);refine⟨z,w4,hr,?_⟩;have s4:=f.size
    try refine ai.on f (fun k U t=>by have U:k<w0.heap.size:=U;have:=Bu k t;omega) ?_
    have Bz:∀ k,aw z k->(w2.heap.size<=k/\k<w3.heap.size)\/(w3.heap.size<=k/\k<w4.heap.size):=fun k U=>(xf k U).elim (fun t=>.inl (Bu k t)) (fun t=>.inr ⟨t,aF.lt Hz U⟩);have FT:=FT.comp f fun k U t=>by have:=Bu k t;omega
    have hc:=f.ag hc fun t=>by have:=Bu c t;omega
    have HL:=HL.ag f fun k U t=>by have:=BL k U;have:=Bu k t;omega
    have HH:=HH.ag f fun k U t=>by have:=BH k U;have:=Bu k t;omega
    have Hp:=Hp.ag f fun k U t=>by have:=Bp k U;have:=Bu k t;omega
    refine ab.of (qu HH.rd (qv _) (by omega)) ?_;rintro _ w5 ⟨v,rfl,Hv,f,xf⟩;refine⟨v,rfl,?_⟩;have s5:=f.size
    try refine ai.of f ?_
    have Bv:∀ k,aw v k->w4.heap.size<=k/\k<w5.heap.size:=fun k U=>⟨xf k U,aF.lt Hv U⟩;have FT:=FT.trans f;have hc:=f.af hc;have HL:=HL.af f;have HH:=HH.af f;have Hp:=Hp.af f;have Hz:=Hz.af f;have cM:=Hv.len;rw[List.length_map,Nat.mul_one] at cM;obtain⟨q,w6,hr,Hq,_,f,xf⟩:=gA jR 140 Hv Hp.rd (by intro t ht;simp at ht;subst ht;rfl) (by omega);refine⟨q,w6,hr,?_⟩;have s6:=f.size
    try refine ai.on f (fun k U t=>by have U:k<w0.heap.size:=U;have:=Bv k t;omega) ?_
    have Bq:∀ k,aw q k->(w4.heap.size<=k/\k<w5.heap.size)\/(w5.heap.size<=k/\k<w6.heap.size):=fun k U=>(xf k U).elim (fun t=>.inl (Bv k t)) (fun t=>.inr ⟨t,aF.lt Hq U⟩);have FT:=FT.comp f fun k U t=>by have:=Bv k t;omega
    have hc:=f.ag hc fun t=>by have:=Bv c t;omega
    have HL:=HL.ag f fun k U t=>by have:=BL k U;have:=Bv k t;omega
    have HH:=HH.ag f fun k U t=>by have:=BH k U;have:=Bv k t;omega
    have Hz:=Hz.ag f fun k U t=>by have:=Bz k U;have:=Bv k t;omega
    exact fin FT hc Hz Hq (fun k U=>by have:=Bz k U;omega) (fun k U=>by have:=Bq k U;omega)
end Go.Proofs.YtmkehncgjnhhcaaGreatDoor
