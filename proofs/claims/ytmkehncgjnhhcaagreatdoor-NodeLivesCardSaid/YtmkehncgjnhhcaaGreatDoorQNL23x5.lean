/-
  Texts of this claim, put together: CashSpec, CCloneG, CChainG, ChainSpec, CLedG, LedSpec, LedSpec2, LedSpec3, ChainAdd, CAgreeG, AgreeSpec, AgreeSpec2, AgreeSpec3, AgreeSpec5, AgreeSpec7.
  Conditions: those of each theorem.
-/
import Derived.Test.YtmkehncgjnhhcaaGreatDoorQNL23x0
import Derived.Test.YtmkehncgjnhhcaaGreatDoorQNL23x2
import Derived.Test.YtmkehncgjnhhcaaGreatDoorQNL23x3
import Derived.Test.YtmkehncgjnhhcaaGreatDoorQNL23x4
import Derived.KernelRfl
import Derived.Test.YtmkehncgjnhhcaaGreatDoorProg
set_option linter.unusedVariables false
set_option maxRecDepth 100000
namespace Go.Proofs.YtmkehncgjnhhcaaGreatDoor
open Vc
theorem zN {α:Type}{s:Nat}:∀ {vs:List (List α)},(∀ l∈vs,l.length=s)->vs.flatten.length=vs.length * s
 | [],_=>by simp
 | l::vs,h=>by
  rw[List.flatten_cons,List.length_append,h l (by simp),zN (fun x hx=>h x (by simp[hx])),List.length_cons,Nat.succ_mul];omega
theorem wX {w:World}{v:Sl}{vs:List (List Value)}{s:Nat}(h:db w s v vs.flatten)(oS:0<s)(hs:∀ l∈vs,l.length=s){cks:List Ck}{x:Cs cks}{i:Nat}(hx:vs[i]? = some (Cs.vals cks x)){K:Cs cks->Prop}(k:K x):
  bK v.1 v.2.1 (i:Int) s fun a=>az cks a w K:=by
 have hl:=zN hs;rw[h.1] at hl;have hl:=Nat.eq_of_mul_eq_mul_right oS hl;have hi:=(List.getElem?_eq_some_iff.1 hx).1;cases hv:v.1 with
 | none=>have:=(h.2.1 hv).1;omega
 | some p=>exact⟨p,rfl,by omega,by omega,by rw[Int.toNat_natCast];exact h.uC hs hx (by omega) k hv⟩
theorem oI {P:Program}{w:World}{t E s bytes:Nat}{z:Value}(he:gL P t E s z bytes)(vs:List Value)(hl:vs.length=s)(hs:s<=2 ^ 24):
  ∃ (y:Sl) (w':World),(Instr.buildSlice t 1 #[(0,.agg vs.toArray)]).run P w=.ok (.slice y.1 y.2.1 y.2.2) w'/\aD w' E s y vs/\y.2.1=1/\Fr none1 w w'/\(∀ k,au y k->w.heap.size<=k):=by
 obtain⟨y,w',a,b,c,d⟩:=LA (w:=w) he [vs] (by simpa using hl) (by simpa using hs);rw[List.flatten_cons,List.flatten_nil,List.append_nil] at b;exact⟨y,w',a,b,c,d⟩
abbrev tb:List Ck:=[.bool,.str,.str,.int .i64,.int .i64]
abbrev On:List Ck:=[.int .i64,.str,.int .i64]
abbrev pG (x:fX):Cs tb:=(x.1,str x.2.1,str x.2.2.1,x.2.2.2.1,x.2.2.2.2,())
abbrev YM (x:kN):Cs On:=(x.1,str x.2.1,x.2.2,())
def ma (x:fX):List Value:=[.bool x.1,.string (str x.2.1),.string (str x.2.2.1),.int .i64 x.2.2.2.1,.int .i64 x.2.2.2.2]
def tc (x:kN):List Value:=[.int .i64 x.1,.string (str x.2.1),.int .i64 x.2.2]
def jo (l:List fX):List Value:=(l.map ma).flatten
def kS (l:List kN):List Value:=(l.map tc).flatten
theorem Cl (l:List fX):∀ x∈l.map ma,x.length=5:=by intro x hx;obtain⟨y,_,rfl⟩:=List.mem_map.1 hx;rfl
theorem Oo (l:List kN):∀ x∈l.map tc,x.length=3:=by intro x hx;obtain⟨y,_,rfl⟩:=List.mem_map.1 hx;rfl
theorem wY (l:List fX):(jo l).length=l.length * 5:=by unfold jo;rw[zN (Cl l),List.length_map]
theorem Cm (l:List kN):(kS l).length=l.length * 3:=by unfold kS;rw[zN (Oo l),List.length_map]
theorem YN (l:List fX)(x:fX):jo (l++[x])=jo l++ma x:=by unfold jo;simp
theorem YO (l:List kN)(x:kN):kS (l++[x])=kS l++tc x:=by unfold kS;simp
theorem YP (l m:List fX):jo (l++m)=jo l++jo m:=by unfold jo;simp
theorem YQ (l m:List kN):kS (l++m)=kS l++kS m:=by unfold kS;simp
theorem Oq (x:fX):∀ v∈ma x,bJ v=true:=by intro v hv;simp[ma] at hv;rcases hv with rfl | rfl | rfl | rfl | rfl<;>rfl
theorem Ot (x:kN):∀ v∈tc x,bJ v=true:=by intro v hv;simp[tc] at hv;rcases hv with rfl | rfl | rfl<;>rfl
theorem YR (l:List fX):∀ v∈jo l,bJ v=true:=by intro v hv;unfold jo at hv;obtain⟨x,hx,hv⟩:=List.mem_flatten.1 hv;obtain⟨y,_,rfl⟩:=List.mem_map.1 hx;exact Oq y v hv
theorem YS (l:List kN):∀ v∈kS l,bJ v=true:=by intro v hv;unfold kS at hv;obtain⟨x,hx,hv⟩:=List.mem_flatten.1 hv;obtain⟨y,_,rfl⟩:=List.mem_map.1 hx;exact Ot y v hv
theorem Hc:gL Tryz.prog 151 154 5 (.agg #[.bool false,.string ⟨#[]⟩,.string ⟨#[]⟩,.int .i64 0,.int .i64 0]) 56:=⟨Tryz.underlying151,⟨Tryz.t154,by kernel_rfl,rfl,rfl,rfl⟩,rfl,by decide⟩
theorem Hd:gL Tryz.prog 163 219 3 (.agg #[.int .i64 0,.string ⟨#[]⟩,.int .i64 0]) 32:=⟨Tryz.underlying163,⟨Tryz.t219,by kernel_rfl,rfl,rfl,rfl⟩,rfl,by decide⟩
def wZ (x:fX):List Pv:=[.b x.1,.s x.2.1,.s x.2.2.1,.i x.2.2.2.1,.i x.2.2.2.2]
theorem YT {x y:fX}(h:wZ x=wZ y):x=y:=by
 obtain⟨a,b,c,d,e⟩:=x;obtain⟨a',b',c',d',e'⟩:=y;simp only[wZ,List.cons.injEq,Pv.b.injEq,Pv.s.injEq,Pv.i.injEq,and_true] at h;obtain⟨rfl,rfl,rfl,rfl,rfl⟩:=h;rfl
theorem Ou (a:fX):uX Tryz.prog 154 (wZ a):=by
 have hf:∃ fs,Tryz.prog.underlying 154=some (.struct fs)/\Tryz.prog.fieldsOf 154=fs:=by
  unfold Program.fieldsOf;rw[Tryz.underlying154];exact⟨_,rfl,rfl⟩
 refine⟨by obtain⟨fs,h1,h2⟩:=hf;rw[h1,h2],by kernel_rfl,by kernel_rfl,?_⟩;unfold Program.fieldsOf;rw[Tryz.underlying154];exact⟨by decide,rfl,Tryz.underlying4,by decide,rfl,Tryz.underlying9,by decide,rfl,Tryz.underlying9,by decide,rfl,Tryz.underlying3,by decide,rfl,Tryz.underlying3,trivial⟩
theorem YU {w:World}{v:Sl}{l:List fX}(h:db w 5 v (jo l))(hl:l.length<=100000000)(y:fX):
  Ret Tryz.prog 358 #[.slice v.1 v.2.1 v.2.2,.agg (ma y).toArray] w fun r w'=>(∃ i:Int,r=.int .i64 i/\decide (i >= 0)=decide (y∈l))/\Fr none1 w w':=by
 have hlen:v.2.1=l.length:=by have:=h.1;rw[wY] at this;omega
 refine c358 v.1 v.2.1 v.2.2 (pG y) w _ ?_;refine aq.of fun g w1 hg hb f1 _=>?_;refine bj.of (fun st w'=>∃ i:Nat,st.1=i/\i<=l.length/\y ∉ l.take i/\Fr none1 w1 w') (fun st _=>(v.2.1 - st.1).toNat) ⟨0,rfl,Nat.zero_le _,by simp,Fr.refl _ _⟩ ?_;rintro _ ⟨i',_⟩ w2 ⟨i,hi,iz,gB,f2⟩;dsimp only at hi ⊢;subst hi;refine aa.dec (fun aU=>?_) (fun dh=>?_)
 ·have eJ:i<l.length:=by omega
  obtain⟨x,hx⟩:∃ x,l[i]? = some x:=⟨_,List.getElem?_eq_getElem eJ⟩;refine aH.of fun w3 _ f3=>az.aG (cks:=tb) (x:=pG y) (f3.af (f2.af hb)) ?_;have h3:=((h.af f1).af f2).af f3;refine wX (cks:=tb) (x:=pG x) h3 (by decide) (Cl l) (by rw[List.getElem?_map,hx];rfl) ?_;have he:=Yi (Ou y) (Ou x) (.tmp 11) (.tmp 15) w3;refine⟨decide (wZ y=wZ x),w3,he,aa.dec (fun he=>?_) (fun aA=>?_)⟩
  ·have:=YT he
   subst this;refine⟨⟨(i:Int),rfl,?_⟩,(f1.trans f2).trans f3⟩;rw[decide_eq_true (by omega),decide_eq_true (List.mem_of_getElem? hx)]
  ·refine⟨⟨i+1,by rw[wI (by omega) (by omega)];omega,by omega,?_,f2.trans f3⟩,by rw[wI (by omega) (by omega)];omega⟩
   rw[List.take_add_one,hx];simp only[Option.toList_some,List.mem_append,List.mem_singleton];rintro(t | t)
   ·exact gB t
   ·exact aA (by rw[t])
 ·refine⟨⟨-1,rfl,?_⟩,f1.trans f2⟩
  rw[List.take_of_length_le (by omega)] at gB;rw[decide_eq_false gB];rfl
theorem YV {w:World}{v:Sl}{l:List fX}(h:db w 5 v (jo l))(hl:l.length<=100000000)(y:fX):
  Ret Tryz.prog 340 #[.slice v.1 v.2.1 v.2.2,.agg (ma y).toArray] w fun r w'=>r=.bool (decide (y∈l))/\Fr none1 w w':=by
 refine c340 v.1 v.2.1 v.2.2 (pG y) w _ ?_;refine aq.of fun g w1 hg hb f1 _=>az.aG (cks:=tb) (x:=pG y) hb ?_;refine ab.of (YU (h.af f1) hl y) ?_;rintro _ w2 ⟨⟨i,rfl,hi⟩,f2⟩;exact⟨i,rfl,by rw[hi],f1.trans f2⟩
structure mY (w:World)(B g b:Nat)(F:Nat->Prop)(id:List UInt8)(m:cP)(x:gY)(fl wl:Sl):Prop where
 aG:w.heap[g]? = some (.cells #[.string (str id),.pointer (some ⟨b,0,none⟩),.slice fl.1 fl.2.1 fl.2.2,.slice wl.1 wl.2.1 wl.2.2] 413 (0,0))
 xa:aD w 219 3 fl (kS x.1)
 waits:aD w 154 5 wl (jo x.2)
 nL:∀ k,au fl k->B<=k/\k≠g
 kE:∀ k,au wl k->B<=k/\k≠g/\¬ au fl k
 wr:gJ w F b m
 low:∀ k,F k->k<B
 mem:B<=g
theorem mY.af {w w':World}{B g b:Nat}{F:Nat->Prop}{id:List UInt8}{m:cP}{x:gY}{fl wl:Sl}(h:mY w B g b F id m x fl wl)(f:Fr none1 w w'):mY w' B g b F id m x fl wl:=
 ⟨f.af h.aG,h.xa.af f,h.waits.af f,h.nL,h.kE,h.wr.af f,h.low,h.mem⟩
def me (w:World)(B g b:Nat)(F:Nat->Prop)(id:List UInt8)(m:cP)(x:gY):Prop:=∃ fl wl,mY w B g b F id m x fl wl
theorem me.af {w w':World}{B g b:Nat}{F:Nat->Prop}{id:List UInt8}{m:cP}{x:gY}(h:me w B g b F id m x)(f:Fr none1 w w'):me w' B g b F id m x:=by
 obtain⟨fl,wl,h⟩:=h;exact⟨fl,wl,h.af f⟩
def rJ (B:Nat):Nat->Prop:=fun k=>B<=k
theorem Vc.Fr.nM {B:Nat}{w w':World}(f:Fr none1 w w'):Fr (rJ B) w w':=f.mono fun _ _ t=>t.elim
def oJ (g:Nat)(wl:Sl):Nat->Prop:=fun k=>k=g\/au wl k
theorem mY.oJ {w:World}{B g b:Nat}{F:Nat->Prop}{id:List UInt8}{m:cP}{x:gY}{fl wl:Sl}(h:mY w B g b F id m x fl wl){k:Nat}(q:oJ g wl k):B<=k/\k<w.heap.size:=by
 rcases q with rfl | q
 ·exact⟨h.mem,cj h.aG⟩
 ·exact⟨(h.kE k q).1,aD.lt h.waits q⟩
theorem He {w:World}{B g b:Nat}{F:Nat->Prop}{id:List UInt8}{m:cP}{x:gY}{fl wl:Sl}(h:mY w B g b F id m x fl wl)(y:fX)(hl:x.2.length<=10000000){S:Nat->Prop}{K:World->Prop}
  (k:∀ w' xb,mY w' B g b F id m (x.1,x.2++[y]) fl xb->(∀ k,au xb k->au wl k\/w.heap.size<=k)->Fr (oJ g wl) w w'->K w') :
  aw Tryz.prog (Instr.buildSlice 151 1 #[(0,.agg (ma y).toArray)]) w (.v (.one .ah)) fun(u:Option Addr×Nat×Nat) w1=>ak S w w1 (aw Tryz.prog (Builtin.append_ #[151,151] 151 #[.slice wl.1 wl.2.1 wl.2.2,.slice u.1 u.2.1 u.2.2]) w1 (.v (.one .ah)) fun(v:Option Addr×Nat×Nat) w2=>
   ay ((⟨g,0,none⟩:Addr).add 3) (.slice v.1 v.2.1 v.2.2) w2 fun w3=>K w3):=by
 obtain⟨u,w1,hr,hu,cS,f1,uf⟩:=oI (P:=Tryz.prog) (w:=w) Hc (ma y) rfl (by decide);refine⟨u,w1,hr,ak.of f1 ?_⟩;have mZ:=h.waits.len;rw[wY] at mZ;obtain⟨v,w2,fK,hv,cC,f2,vf⟩:=gb Hc 151 (h.waits.af f1) hu.rd (Oq y) (by rw[cS];omega);refine⟨v,w2,fK,?_⟩;have uF:¬ au wl g:=fun q=>(h.kE g q).2.1 rfl;have aM:=f2.ag (f1.af h.aG) uF;refine ay.ai aM (show 3<4 by decide) rfl fun w3 ba f3 _=>?_;have gl:=cj h.aG;have s1:=f1.size;have s2:=f2.size;have gW:∀ k,au v k->au wl k\/w.heap.size<=k:=fun k U=>(vf k U).imp_right fun q=>Nat.le_trans s1 q;have u0:∀ k,au v k->B<=k/\k≠g/\¬ au fl k:=fun k U=>by
  rcases gW k U with q | q
  ·exact h.kE k q
  ·exact⟨by have:=h.mem;omega,by omega,fun t=>by have:=aD.lt h.xa t;omega⟩
 refine k w3 v ⟨ba,((h.xa.af f1).ag f2 fun k U q=>(h.kE k q).2.2 U).ag f3 (fun k U q=>(h.nL k U).2 q),?_,h.nL,u0,((h.wr.af f1).ag f2 fun k U q=>by have:=h.low k U;have:=(h.kE k q).1;omega).ag f3 (fun k U q=>by have:=h.low k U;have:=h.mem;have:k=g:=q;omega),h.low,h.mem⟩ gW ?_
 ·dsimp only
  rw[YN];exact hv.ag f3 fun k U q=>(u0 k U).2.1 q
 ·refine((f1.mono fun _ _ t=>t.elim).comp f2 fun k _ q=>.inr q).comp f3 fun k _ q=>.inl q
theorem YW {w:World}{B g b:Nat}{F:Nat->Prop}{id:List UInt8}{m:cP}{x:gY}{fl wl:Sl}(h:mY w B g b F id m x fl wl)(y:kN)(hl:x.1.length<=10000000){S:Nat->Prop}{K:World->Prop}
  (k:∀ w' YX,mY w' B g b F id m (x.1++[y],x.2) YX wl->Fr (rJ B) w w'->K w') :
  aw Tryz.prog (Instr.buildSlice 163 1 #[(0,.agg (tc y).toArray)]) w (.v (.one .ah)) fun(u:Option Addr×Nat×Nat) w1=>ak S w w1 (aw Tryz.prog (Builtin.append_ #[163,163] 163 #[.slice fl.1 fl.2.1 fl.2.2,.slice u.1 u.2.1 u.2.2]) w1 (.v (.one .ah)) fun(v:Option Addr×Nat×Nat) w2=>
   ay ((⟨g,0,none⟩:Addr).add 2) (.slice v.1 v.2.1 v.2.2) w2 fun w3=>K w3):=by
 obtain⟨u,w1,hr,hu,cS,f1,uf⟩:=oI (P:=Tryz.prog) (w:=w) Hd (tc y) rfl (by decide);refine⟨u,w1,hr,ak.of f1 ?_⟩;have mZ:=h.xa.len;rw[Cm] at mZ;obtain⟨v,w2,fK,hv,cC,f2,vf⟩:=gb Hd 163 (h.xa.af f1) hu.rd (Ot y) (by rw[cS];omega);refine⟨v,w2,fK,?_⟩;have uF:¬ au fl g:=fun q=>(h.nL g q).2 rfl;have aM:=f2.ag (f1.af h.aG) uF;refine ay.ai aM (show 2<4 by decide) rfl fun w3 ba f3 _=>?_;have gl:=cj h.aG;have s1:=f1.size;have s2:=f2.size;have u0:∀ k,au v k->B<=k/\k≠g/\¬ au wl k:=fun k U=>by
  rcases vf k U with q | q
  ·exact⟨(h.nL k q).1,(h.nL k q).2,fun t=>(h.kE k t).2.2 q⟩
  ·exact⟨by have:=h.mem;omega,by omega,fun t=>by have:=aD.lt h.waits t;omega⟩
 refine k w3 v ⟨ba,?_,((h.waits.af f1).ag f2 fun k U q=>(h.kE k U).2.2 q).ag f3 (fun k U q=>(h.kE k U).2.1 q),fun k U=>⟨(u0 k U).1,(u0 k U).2.1⟩,fun k U=>⟨(h.kE k U).1,(h.kE k U).2.1,fun t=>(u0 k t).2.2 U⟩,((h.wr.af f1).ag f2 fun k U q=>by have:=h.low k U;have:=(h.nL k q).1;omega).ag f3 (fun k U q=>by have:=h.low k U;have:=h.mem;have:k=g:=q;omega),h.low,h.mem⟩ ?_
 ·dsimp only
  rw[YO];exact hv.ag f3 fun k U q=>(u0 k U).2.1 q
 ·refine((f1.mono fun _ _ t=>t.elim).comp f2 fun k _ q=>(h.nL k q).1).comp f3 fun k _ q=>by have:k=g:=q;rw[this];exact h.mem
theorem YY {w:World}{B g b:Nat}{F:Nat->Prop}{id:List UInt8}{m:cP}{x:gY}{fl wl:Sl}(h:mY w B g b F id m x fl wl)(d:Int){v:Sl}{l:List (List UInt8)}(hv:gi w v l)(Ov:∀ k,au v k->k≠g/\¬ au wl k)(hl:x.2.length+l.length<=1000000):
  Ret Tryz.prog 323 #[.pointer (some ⟨g,0,none⟩),.int .i64 d,.slice v.1 v.2.1 v.2.2] w fun r w'=>r=.tuple #[]/\me w' B g b F id m (x.1,kO d l x.2)/\Fr (oJ g wl) w w':=by
 refine c323 _ d v.1 v.2.1 v.2.2 w _ ?_;have hlen:=hv.len;refine bj.of (fun st w'=>∃ (i:Nat) (xb:Sl),st.1=i/\i<=l.length/\mY w' B g b F id m (x.1,kO d (l.take i) x.2) fl xb/\(∀ k,au v k->¬ au xb k)/\gi w' v l/\Fr (oJ g wl) w w'/\(∀ k,au xb k->au wl k\/w.heap.size<=k)) (fun st _=>(v.2.1 - st.1).toNat)
  ⟨0,wl,rfl,Nat.zero_le _,h,fun k U=>(Ov k U).2,hv,Fr.refl _ _,fun k U=>.inl U⟩ ?_
 rintro _ ⟨i',_⟩ w1 ⟨i,Hf,hi,iz,h1,Cj,sC,f1,Hg⟩;dsimp only at hi ⊢;subst hi;refine aa.dec (fun aU=>?_) (fun dh=>?_)
 rotate_left
 ·rw[List.take_of_length_le (by omega)] at h1
  exact⟨rfl,⟨_,_,h1⟩,f1⟩
 have eJ:i<l.length:=by omega
 obtain⟨s,hs⟩:∃ s,l[i]? = some s:=⟨_,List.getElem?_eq_getElem eJ⟩;have jh:kO d (l.take (i+1)) x.2=if(false,s,[],d,0)∈kO d (l.take i) x.2 then kO d (l.take i) x.2 else kO d (l.take i) x.2++[(false,s,[],d,0)]:=zL _ _ _ hs _;have D1:(kO d (l.take i) x.2).length<=x.2.length+l.length:=by
  obtain⟨new,e,hn⟩:=zy d (l.take i) x.2;rw[e,List.length_append];rw[List.length_take] at hn;omega
 generalize kO d (l.take i) x.2=ws at *;refine sC.ld hs ?_;refine cB (zs:=[.bool false,.string (⟨#[]⟩:ByteArray),.string (⟨#[]⟩:ByteArray),.int .i64 0,.int .i64 0]) (vs:=ma (false,s,[],d,0)) rfl rfl fun g6 w2 No gI f2=>?_;refine aH.of fun w3 _ f3=>?_;have f23:=f2.trans f3;have h3:=h1.af f23;refine ae.ai h3.aG (x:=Hf) rfl (az.aG (cks:=tb) (x:=pG (false,s,[],d,0)) (f3.af gI) ?_);refine ab.of (YV (aD.rd h3.waits) (by dsimp only;omega) (false,s,[],d,0)) ?_;rintro _ w4 ⟨rfl,f4⟩;have f24:=f23.trans f4;have h4:=h3.af f4;refine⟨_,rfl,aa.not (aa.dec (fun hm=>?_) (fun hm=>?_))⟩
 ·rw[if_pos hm] at jh
  exact⟨⟨i+1,Hf,by rw[wI (by omega) (by omega)];omega,by omega,by rw[jh];exact h4,Cj,sC.af f24,f1.dp f24,Hg⟩,by rw[wI (by omega) (by omega)];omega⟩
 rw[if_neg hm] at jh;refine aH.of fun w5 _ f5=>bb.of (fun k=>k=g\/k=g6) ?_;have f25:=f24.trans f5;have h5:=h4.af f5;refine⟨by rw[dw];exact .inl rfl,ae.ai h5.aG (x:=Hf) rfl ⟨.inr rfl,az.aG (cks:=tb) (x:=pG (false,s,[],d,0)) ((f4.trans f5).af (f3.af gI)) ?_⟩⟩;refine He h5 (false,s,[],d,0) (by dsimp only;omega) fun w6 YZ h6 Ow f6=>?_;refine⟨⟨i+1,YZ,by rw[wI (by omega) (by omega)];omega,by omega,by rw[jh];exact h6,fun k U q=>?_,?_,(f1.dp f25).comp f6 fun k aU q=>?_,fun k U=>?_⟩,by rw[wI (by omega) (by omega)];omega⟩
 ·rcases Ow k q with t | t
  ·exact Cj k U t
  ·have:=aD.lt (sC.af f25) U;omega
 ·refine aD.ag (sC.af f25) f6 fun k U q=>?_
  rcases q with rfl | q
  ·exact(Ov _ U).1 rfl
  ·exact Cj k U q
 ·rcases q with rfl | q
  ·exact .inl rfl
  ·rcases Hg k q with t | t
   ·exact .inr t
   ·omega
 ·rcases Ow k U with t | t
  ·exact Hg k t
  ·have:=f1.size;have:=f25.size;exact .inr (by omega)
theorem Ox (d:Int)(o:Ob)(hn:bo o<=1000000){w:World}{B g b:Nat}{F:Nat->Prop}{id:List UInt8}{m:cP}{x:gY}{fl wl:Sl}(h:mY w B g b F id m x fl wl)(hl:x.2.length+bo o<=1000000):
  Ret Tryz.prog 306 #[.pointer (some ⟨g,0,none⟩),o.v,.int .i64 d] w fun r w'=>r=.tuple #[.int .i64 (eN m d o).1,.bool (eN m d o).2.1,.int .i64 (eN m d o).2.2] /\
   me w' B g b F id m (if(eN m d o).2.2=0/\(eN m d o).2.1=false then(x.1,kO d (mM m d o) x.2) else x)/\Fr (oJ g wl) w w':=by
 refine c306 _ o.v d w _ ?_;refine ae.ai h.aG (x:=some ⟨b,0,none⟩) rfl ?_;refine ab.of (YD d o hn h.wr) ?_;rintro _ w1 ⟨rfl,f1⟩;have aA:=GH m d o;generalize eN m d o=X;refine⟨(X.1,X.2.1,X.2.2,()),rfl,?_⟩;have h1:=h.af f1;refine aa.eq (fun he=>aa.not (aa.by (fun U=>?_) (fun U=>?_))) (fun he=>?_)
 ·have U:X.2.1=true:=U
  rw[if_neg (by rw[U];simp)];exact⟨rfl,⟨_,_,h1⟩,f1.mono fun _ _ t=>t.elim⟩
 ·have U:X.2.1=false:=U
  have he:X.2.2=0:=he;rw[if_pos ⟨he,U⟩];refine ae.ai h1.aG (x:=some ⟨b,0,none⟩) rfl ?_;refine ab.of (YL d o hn h1.wr) ?_;rintro _ w2 ⟨v,rfl,hv,f2,vf⟩;refine⟨v,rfl,?_⟩;have h2:=h1.af f2;refine ab.of (YY h2 d hv (fun k U=>⟨fun e=>?_,fun q=>?_⟩) (by omega)) ?_
  ·have:=vf k U;have:=cj h1.aG;omega
  ·have:=vf k U;have:=aD.lt h1.waits q;omega
  rintro _ w3 ⟨rfl,h3,f3⟩;exact⟨(),rfl,rfl,h3,(f1.trans f2).eG f3⟩
 ·have he:¬ X.2.2=0:=he
  rw[if_neg (fun t=>he t.1)];exact⟨rfl,⟨_,_,h1⟩,f1.mono fun _ _ t=>t.elim⟩
def td (id:List UInt8)(m:cP)(t:Tm):Prop:=
 ∀ {w:World} {B g b:Nat} {F:Nat->Prop} {x:gY} (d k:Int),me w B g b F id m x->cv k=true->aJ t<=100000->x.1.length+aJ t<=1000000->x.2.length+aJ t<=1000000 ->
  Ret Tryz.prog 258 #[.pointer (some ⟨g,0,none⟩),t.v,.int .i64 d,.int .i64 k] w fun r w'=>r=.int .i64 (cg id m t d k x).2/\me w' B g b F id m (cg id m t d k x).1/\Fr (rJ B) w w'
theorem Y0 {id:List UInt8}{m:cP}{l r:Tm}(hl:td id m l)(hr:td id m r){w:World}{B g b:Nat}{F:Nat->Prop}{x:gY}(d k:Int)(h:me w B g b F id m x)(U:cv k=true)(hn:aJ l+aJ r<=100000)
  (h1:x.1.length+(aJ l+aJ r)<=1000000) (h2:x.2.length+(aJ l+aJ r)<=1000000) :
  Ret Tryz.prog 282 #[.pointer (some ⟨g,0,none⟩),l.v,r.v,.int .i64 d,.int .i64 k] w fun r' w'=>r'=.int .i64 (cg id m (.and l r) d k x).2/\me w' B g b F id m (cg id m (.and l r) d k x).1/\Fr (rJ B) w w':=by
 refine c282 _ l.v r.v d k w _ ?_;unfold C282;refine ab.of (hl d k h U (by omega) (by omega) (by omega)) ?_;obtain⟨fs,ws,e1,e2,e3,_⟩:=Nd id m l d k x;have e:cg id m (.and l r) d k x=if(cg id m l d k x).2≠0 then cg id m l d k x else cg id m r d k (cg id m l d k x).1:=by conv=>lhs;unfold cg
 rw[e];clear e;have l1:(cg id m l d k x).1.1.length<=x.1.length+aJ l:=by rw[e1];simp;omega
 have l2:(cg id m l d k x).1.2.length<=x.2.length+aJ l:=by rw[e1];simp;omega
 clear e1;generalize cg id m l d k x=X at *;rintro _ w1 ⟨rfl,h3,f1⟩;refine⟨X.2,rfl,aa.ne (fun aA=>?_) (fun he=>?_)⟩
 ·rw[if_pos aA];exact⟨rfl,h3,f1⟩
 rw[if_neg (fun t=>t he)];refine ab.of (hr d k h3 U (by omega) (by omega) (by omega)) ?_;rintro _ w2 ⟨rfl,h4,f2⟩;exact⟨_,rfl,rfl,h4,f1.trans f2⟩
theorem Y1 {id:List UInt8}{m:cP}(o:Ob){t:Tm}(ht:td id m t){w:World}{B g b:Nat}{F:Nat->Prop}{x:gY}(d k:Int)(h:me w B g b F id m x)(hn:bo o+aJ t<=100000)
  (h1:x.1.length+(bo o+aJ t)<=1000000) (h2:x.2.length+(bo o+aJ t)<=1000000) :
  Ret Tryz.prog 283 #[.pointer (some ⟨g,0,none⟩),.agg #[o.v,t.v],.int .i64 d,.int .i64 k] w fun r' w'=>r'=.int .i64 (cg id m (.scale o t) d k x).2/\me w' B g b F id m (cg id m (.scale o t) d k x).1/\Fr (rJ B) w w':=by
 refine c283 _ (o.v,t.v,()) d k w _ ?_;unfold C283;refine aq.of fun g1 w1 di ar f1 _=>ae.ai (c:=.raw) ar (x:=o.v) rfl ?_;obtain⟨fl,wl,h⟩:=h;refine ab.of (Ox d o (by omega) (h.af f1) (by omega)) ?_;have e:cg id m (.scale o t) d k x=if(eN m d o).2.2≠0 then(x,(eN m d o).2.2) else if(eN m d o).2.1=false then((x.1,kO d (mM m d o) x.2),0) else if(kA k (eN m d o).1).2=false then(x,6) else if(kA k (eN m d o).1).1=0 then(x,0) else cg id m t d (kA k (eN m d o).1).1 x:=by conv=>lhs;unfold cg
 rw[e];clear e;generalize eN m d o=X;rintro _ w2 ⟨rfl,h3,f2⟩;have f12:Fr (rJ B) w w2:=f1.nM.comp f2 fun k _ q=>((h.af f1).oJ q).1;have aM:=f2.ag ar (fun q=>by have:=(h.oJ q).2;omega);refine⟨(X.1,X.2.1,X.2.2,()),rfl,aa.ne (fun aA=>?_) (fun he=>?_)⟩
 ·have aA:X.2.2≠0:=aA
  rw[if_neg (fun t=>aA t.1)] at h3;rw[if_pos aA];exact⟨rfl,h3,f12⟩
 have he:X.2.2=0:=he;rw[if_neg (fun t=>t he)];refine aa.not (aa.by (fun hq=>?_) (fun hq=>?_))
 rotate_left
 ·have hq:X.2.1=false:=hq
  rw[if_pos ⟨he,hq⟩] at h3;rw[if_pos hq];exact⟨by rw[he],h3,f12⟩
 have hq:X.2.1=true:=hq;rw[if_neg (by rw[hq];simp)] at h3;rw[if_neg (by rw[hq];simp)];refine ab.of (Oh k X.1 w2) ?_;rintro _ _ ⟨rfl,rfl⟩;have Y2:=Na (a:=k) (b:=X.1);generalize kA k X.1=Y at *;refine⟨(Y.1,Y.2,()),rfl,aa.not (aa.by (fun hy=>?_) (fun hy=>?_))⟩
 rotate_left
 ·have hy:Y.2=false:=hy
  rw[if_pos hy];exact⟨rfl,h3,f12⟩
 have hy:Y.2=true:=hy;rw[if_neg (by rw[hy];simp)];refine aa.eq (fun hz=>?_) (fun hz=>?_)
 ·have hz:Y.1=0:=hz
  rw[if_pos hz];exact⟨rfl,h3,f12⟩
 have hz:¬ Y.1=0:=hz;rw[if_neg hz];refine ae.ai (c:=.raw) aM (x:=t.v) rfl ?_;refine ab.of (ht d Y.1 h3 (by have:=Y2 hy;rw[this.2.2.2];exact this.2.2.1) (by omega) (by omega) (by omega)) ?_;rintro _ w3 ⟨rfl,h4,f3⟩;exact⟨_,rfl,rfl,h4,f12.trans f3⟩
theorem Y3 {id:List UInt8}{m:cP}(o:Ob){l r:Tm}(hl:td id m l)(hr:td id m r){w:World}{B g b:Nat}{F:Nat->Prop}{x:gY}(d k:Int)(h:me w B g b F id m x)(U:cv k=true)(hn:bo o+aJ l+aJ r<=100000)
  (h1:x.1.length+(bo o+aJ l+aJ r)<=1000000) (h2:x.2.length+(bo o+aJ l+aJ r)<=1000000) :
  Ret Tryz.prog 284 #[.pointer (some ⟨g,0,none⟩),.agg #[o.v,l.v,r.v],.int .i64 d,.int .i64 k] w fun r' w'=>r'=.int .i64 (cg id m (.cond o l r) d k x).2/\me w' B g b F id m (cg id m (.cond o l r) d k x).1/\Fr (rJ B) w w':=by
 refine c284 _ (o.v,l.v,r.v,()) d k w _ ?_;unfold C284;refine aq.of fun g1 w1 di ar f1 _=>ae.ai (c:=.raw) ar (x:=o.v) rfl ?_;obtain⟨fl,wl,h⟩:=h;refine ab.of (Ox d o (by omega) (h.af f1) (by omega)) ?_;have e:cg id m (.cond o l r) d k x=if(eN m d o).2.2≠0 then(x,(eN m d o).2.2) else if(eN m d o).2.1=false then((x.1,kO d (mM m d o) x.2),0) else if 0<(eN m d o).1 then cg id m l d k x else cg id m r d k x:=by conv=>lhs;unfold cg
 rw[e];clear e;generalize eN m d o=X;rintro _ w2 ⟨rfl,h3,f2⟩;have f12:Fr (rJ B) w w2:=f1.nM.comp f2 fun k _ q=>((h.af f1).oJ q).1;have aM:=f2.ag ar (fun q=>by have:=(h.oJ q).2;omega);refine⟨(X.1,X.2.1,X.2.2,()),rfl,aa.ne (fun aA=>?_) (fun he=>?_)⟩
 ·have aA:X.2.2≠0:=aA
  rw[if_neg (fun t=>aA t.1)] at h3;rw[if_pos aA];exact⟨rfl,h3,f12⟩
 have he:X.2.2=0:=he;rw[if_neg (fun t=>t he)];refine aa.not (aa.by (fun hq=>?_) (fun hq=>?_))
 rotate_left
 ·have hq:X.2.1=false:=hq
  rw[if_pos ⟨he,hq⟩] at h3;rw[if_pos hq];exact⟨by rw[he],h3,f12⟩
 have hq:X.2.1=true:=hq;rw[if_neg (by rw[hq];simp)] at h3;rw[if_neg (by rw[hq];simp)];refine aa.dec (fun hz=>?_) (fun hz=>?_)
 ·rw[if_pos (by exact hz)]
  refine ae.ai (c:=.raw) aM (x:=l.v) rfl ?_;refine ab.of (hl d k h3 U (by omega) (by omega) (by omega)) ?_;rintro _ w3 ⟨rfl,h4,f3⟩;exact⟨_,rfl,rfl,h4,f12.trans f3⟩
 ·rw[if_neg (by exact hz)]
  refine ae.ai (c:=.raw) aM (x:=r.v) rfl ?_;refine ab.of (hr d k h3 U (by omega) (by omega) (by omega)) ?_;rintro _ w3 ⟨rfl,h4,f3⟩;exact⟨_,rfl,rfl,h4,f12.trans f3⟩
theorem Hh (a b:Int):(if b > a then b else a)=max a b:=by
 rw[Int.max_def];split<;>split<;>omega
theorem Y4 {id:List UInt8}{m:cP}(s:List UInt8){l r:Tm}(hl:td id m l)(hr:td id m r){w:World}{B g b:Nat}{F:Nat->Prop}{x:gY}(d k:Int)(h:me w B g b F id m x)(U:cv k=true)(hn:aJ l+aJ r<=100000)
  (h1:x.1.length+(aJ l+aJ r)<=1000000) (h2:x.2.length+(aJ l+aJ r)<=1000000) :
  Ret Tryz.prog 285 #[.pointer (some ⟨g,0,none⟩),.agg #[.string (str s),l.v,r.v],.int .i64 d,.int .i64 k] w fun r' w'=>r'=.int .i64 (cg id m (.or s l r) d k x).2/\me w' B g b F id m (cg id m (.or s l r) d k x).1/\Fr (rJ B) w w':=by
 refine c285 _ (str s,l.v,r.v,()) d k w _ ?_;unfold C285;obtain⟨fl,wl,h⟩:=h;refine aq.of fun g1 w1 di ar f1 _=>aH.of fun w2 _ f2=>bb.all ?_;have f12:=f1.trans f2;have hh:=h.af f12;refine aE.all (ae.ai hh.aG (x:=some ⟨b,0,none⟩) rfl (aE.all (ae.ai hh.aG (x:=str id) rfl (aE.all (ae.ai (f2.af ar) (x:=str s) rfl ?_)))));refine ab.of (Ys hh.wr id s) ?_;have e:cg id m (.or s l r) d k x=match bd (id,s) m.ch with
  | none=>((x.1,x.2++[(true,[],s,d,if 0<k then 0 else 1)]),0)
  | some (p,since)=>if p=0 then cg id m l (max d since) k x else cg id m r (max d since) k x:=rfl
 rw[e];clear e;rintro _ w3 ⟨rfl,f3⟩;have f13:=f12.trans f3;have h3:=hh.af f3;refine⟨(((bd (id,s) m.ch).getD (0,0)).1,((bd (id,s) m.ch).getD (0,0)).2,(bd (id,s) m.ch).isSome,()),rfl,?_⟩;have ba:=(f2.trans f3).af ar;refine bQ.of (fun st w'=>st.1=(!(bd (id,s) m.ch).isSome&&decide (0<k))/\w3=w') ?_ ?_
 ·refine aa.not (aa.by (fun hs=>?_) (fun hs=>?_))
  ·have hs:(bd (id,s) m.ch).isSome=true:=hs
   rw[hs];exact⟨rfl,rfl⟩
  ·have hs:(bd (id,s) m.ch).isSome=false:=hs
   rw[hs];exact⟨rfl,rfl⟩
 rintro _ ⟨st,_⟩ _ ⟨cV,rfl⟩;dsimp only at cV ⊢;subst cV;cases hc:bd (id,s) m.ch with
 | none=>
  dsimp only[Option.isSome,Option.getD];refine aa.by (fun lF=>?_) (fun lF=>?_)
  ·have lF:0<k:=by simpa using lF
   rw[if_pos lF];refine aH.of fun w4 _ f4=>bb.all ?_;have h4:=h3.af f4;refine aE.all (ae.ai h4.aG (x:=wl) rfl (aE.all (ae.ai (f4.af ba) (x:=str s) rfl ?_)));refine He h4 (true,[],s,d,0) (by omega) fun w5 Y5 h5 _ f5=>?_;exact⟨rfl,⟨_,_,h5⟩,(f13.trans f4).nM.comp f5 fun k _ q=>(h4.oJ q).1⟩
  ·have lF:¬ 0<k:=by simpa using lF
   rw[if_neg lF];refine aa.t rfl ?_;refine aH.of fun w4 _ f4=>bb.all ?_;have h4:=h3.af f4;refine aE.all (ae.ai h4.aG (x:=wl) rfl (aE.all (ae.ai (f4.af ba) (x:=str s) rfl ?_)));refine He h4 (true,[],s,d,1) (by omega) fun w5 Y5 h5 _ f5=>?_;exact⟨rfl,⟨_,_,h5⟩,(f13.trans f4).nM.comp f5 fun k _ q=>(h4.oJ q).1⟩
 | some p=>
  obtain⟨p,since⟩:=p;dsimp only[Option.isSome,Option.getD];refine aa.f rfl (aa.f rfl (aa.eq (fun hp=>?_) (fun hp=>?_)))
  ·have hp:p=0:=hp
   rw[if_pos hp];refine ae.ai (c:=.raw) ba (x:=l.v) rfl ?_;rw[Hh];refine ab.of (hl (max d since) k ⟨_,_,h3⟩ U (by omega) (by omega) (by omega)) ?_;rintro _ w4 ⟨rfl,h4,f4⟩;exact⟨_,rfl,rfl,h4,f13.nM.trans f4⟩
  ·have hp:¬ p=0:=hp
   rw[if_neg hp];refine ae.ai (c:=.raw) ba (x:=r.v) rfl ?_;rw[Hh];refine ab.of (hr (max d since) k ⟨_,_,h3⟩ U (by omega) (by omega) (by omega)) ?_;rintro _ w4 ⟨rfl,h4,f4⟩;exact⟨_,rfl,rfl,h4,f13.nM.trans f4⟩
theorem Y6 (id:List UInt8)(m:cP):∀ t:Tm,td id m t:=by
 intro t
 induction t with
 | none=>
  intro w B g b F x d k h U hn h1 h2;refine c258 _ _ d k w _ ?_;exact aj.nil rfl (aj.nil rfl (aj.nil rfl (aj.nil rfl (aj.nil rfl (aj.nil rfl (aj.nil rfl ⟨rfl,h,Fr.refl _ _⟩))))))
 | zero=>
  intro w B g b F x d k h U hn h1 h2;refine c258 _ _ d k w _ ?_;exact aj.aL rfl (by decide) (aj.aL rfl (by decide) (aj.aL rfl (by decide) (aj.aL rfl (by decide) (aj.aL rfl (by decide) (aj.aL rfl (by decide) (aj.aL rfl (by decide) (⟨rfl,h,Fr.refl _ _⟩)))))))
 | one s=>
  intro w B g b F x d k h U hn h1 h2;refine c258 _ _ d k w _ ?_;obtain⟨fl,wl,h⟩:=h;refine aj.hit (str s,()) rfl (cB (zs:=[.string (⟨#[]⟩:ByteArray)]) (vs:=[.string (str s)]) rfl rfl fun g1 w1 di ar f1=>aH.of fun w2 _ f2=>bb.all ?_);have h3:=(h.af f1).af f2;refine aE.all (ae.ai h3.aG (x:=fl) rfl (aE.all (ae.ai (f2.af ar) (x:=str s) rfl ?_)));refine YW h3 (d,s,k) (by unfold aJ at h1;omega) fun w3 fl3 h4 f4=>?_;exact⟨rfl,⟨_,_,h4⟩,(f1.trans f2).nM.trans f4⟩
 | gh t ih=>
  intro w B g b F x d k h U hn h1 h2;unfold aJ at hn h1 h2;refine c258 _ _ d k w _ ?_;refine aj.aL rfl (by decide) (aj.hit (t.v,()) rfl (cB (zs:=[.nilIface]) (vs:=[t.v]) rfl (by simp[Ob.bP,Tm.bP,od,pc]) fun g1 w1 di ar f1=>?_));refine ae.ai (c:=.raw) ar (x:=t.v) rfl ?_;have fL:=Nb U;rw[qu] at U;rw[wI (x:=0 - k) (by omega) (by omega),Int.zero_sub];refine ab.of (ih d (-k) (h.af f1) fL (by omega) (by omega) (by omega)) ?_;rintro _ w2 ⟨rfl,h2,f2⟩;exact⟨_,rfl,rfl,h2,f1.nM.trans f2⟩
 | and l r hl hr=>
  intro w B g b F x d k h U hn h1 h2;unfold aJ at hn h1 h2;refine c258 _ _ d k w _ ?_;refine aj.aL rfl (by decide) (aj.aL rfl (by decide) (aj.hit (l.v,r.v,()) rfl (cB (zs:=[.nilIface,.nilIface]) (vs:=[l.v,r.v]) rfl (by simp[Ob.bP,Tm.bP,od,pc]) fun g1 w1 di ar f1=>?_)));refine ae.ai (c:=.raw) ar (x:=l.v) rfl (ae.ai (c:=.raw) ar (x:=r.v) rfl ?_);refine ab.of (Y0 hl hr d k (h.af f1) U (by omega) (by omega) (by omega)) ?_;rintro _ w2 ⟨rfl,h2,f2⟩;exact⟨_,rfl,rfl,h2,f1.nM.trans f2⟩
 | when n t ih=>
  intro w B g b F x d k h U hn h1 h2;unfold aJ at hn h1 h2;refine c258 _ _ d k w _ ?_;refine aj.aL rfl (by decide) (aj.aL rfl (by decide) (aj.aL rfl (by decide) (aj.hit (n,t.v,()) rfl (cB (zs:=[.int .i64 0,.nilIface]) (vs:=[.int .i64 n,t.v]) rfl (by simp[Ob.bP,Tm.bP,od,pc]) fun g1 w1 di ar f1=>?_))));refine ae.ai (c:=.raw) ar (x:=t.v) rfl (ae.ai ar (x:=n) rfl ?_);rw[Hh];refine ab.of (ih (max d n) k (h.af f1) U (by omega) (by omega) (by omega)) ?_;rintro _ w2 ⟨rfl,h2,f2⟩;exact⟨_,rfl,rfl,h2,f1.nM.trans f2⟩
 | scale o t ih=>
  intro w B g b F x d k h U hn h1 h2;unfold aJ at hn h1 h2;refine c258 _ _ d k w _ ?_;refine aj.aL rfl (by decide) (aj.aL rfl (by decide) (aj.aL rfl (by decide) (aj.aL rfl (by decide) (aj.hit (o.v,t.v,()) rfl (cB (zs:=[.nilIface,.nilIface]) (vs:=[o.v,t.v]) rfl (by simp[Ob.bP,Tm.bP,od,pc]) fun g1 w1 di ar f1=>?_)))));refine az.aG (cks:=[.raw,.raw]) (x:=(o.v,t.v,())) ar ?_;refine ab.of (Y1 o ih d k (h.af f1) (by omega) (by omega) (by omega)) ?_;rintro _ w2 ⟨rfl,h2,f2⟩;exact⟨_,rfl,rfl,h2,f1.nM.trans f2⟩
 | cond o l r hl hr=>
  intro w B g b F x d k h U hn h1 h2;unfold aJ at hn h1 h2;refine c258 _ _ d k w _ ?_;refine aj.aL rfl (by decide) (aj.aL rfl (by decide) (aj.aL rfl (by decide) (aj.aL rfl (by decide) (aj.aL rfl (by decide) (aj.hit (o.v,l.v,r.v,()) rfl (cB (zs:=[.nilIface,.nilIface,.nilIface]) (vs:=[o.v,l.v,r.v]) rfl (by simp[Ob.bP,Tm.bP,od,pc]) fun g1 w1 di ar f1=>?_))))));refine az.aG (cks:=[.raw,.raw,.raw]) (x:=(o.v,l.v,r.v,())) ar ?_;refine ab.of (Y3 o hl hr d k (h.af f1) U (by omega) (by omega) (by omega)) ?_;rintro _ w2 ⟨rfl,h2,f2⟩;exact⟨_,rfl,rfl,h2,f1.nM.trans f2⟩
 | or s l r hl hr=>
  intro w B g b F x d k h U hn h1 h2;unfold aJ at hn h1 h2;refine c258 _ _ d k w _ ?_;refine aj.aL rfl (by decide) (aj.aL rfl (by decide) (aj.aL rfl (by decide) (aj.aL rfl (by decide) (aj.aL rfl (by decide) (aj.aL rfl (by decide) (aj.hit (str s,l.v,r.v,()) rfl (cB (zs:=[.string (⟨#[]⟩:ByteArray),.nilIface,.nilIface]) (vs:=[.string (str s),l.v,r.v]) rfl (by simp[Ob.bP,Tm.bP,od,pc]) fun g1 w1 di ar f1=>?_)))))));refine az.aG (cks:=[.str,.raw,.raw]) (x:=(str s,l.v,r.v,())) ar ?_;refine ab.of (Y4 s hl hr d k (h.af f1) U (by omega) (by omega) (by omega)) ?_;rintro _ w2 ⟨rfl,h2,f2⟩;exact⟨_,rfl,rfl,h2,f1.nM.trans f2⟩
theorem Cn (id:List UInt8)(t:Tm)(d:Int)(hn:aJ t<=1000000){w:World}{F:Nat->Prop}{b:Nat}{m:cP}(h:gJ w F b m)(hF:∀ k,F k->k<w.heap.size):
  Ret Tryz.prog 233 #[.string (str id),t.v,.int .i64 d,.pointer (some ⟨b,0,none⟩)] w fun r w'=>∃ fl wl:Sl,r=.tuple #[.slice fl.1 fl.2.1 fl.2.2,.slice wl.1 wl.2.1 wl.2.2,.int .i64 (fm id t d m).2] /\
   aD w' 219 3 fl (kS (fm id t d m).1.1)/\aD w' 154 5 wl (jo (fm id t d m).1.2)/\Fr none1 w w'/\(∀ k,au fl k->w.heap.size<=k)/\(∀ k,au wl k->w.heap.size<=k):=by
 refine c233 (str id) t.v d _ w _ ?_;unfold C233 fm;have nil:∀ (n:Int) {w':World},Fr none1 w w'->∃ fl wl:Sl,(Value.tuple #[.slice none 0 0,.slice none 0 0,.int .i64 n])=.tuple #[.slice fl.1 fl.2.1 fl.2.2,.slice wl.1 wl.2.1 wl.2.2,.int .i64 n] /\
   aD w' 219 3 fl (kS [])/\aD w' 154 5 wl (jo [])/\Fr none1 w w'/\(∀ k,au fl k->w.heap.size<=k)/\(∀ k,au wl k->w.heap.size<=k):=fun n w' f=>⟨(none,0,0),(none,0,0),rfl,.inl ⟨rfl,rfl⟩,.inl ⟨rfl,rfl⟩,f,fun k t=>(jP k t).elim,fun k t=>(jP k t).elim⟩
 refine ab.of (Ej t hn w) ?_;rintro _ w1 ⟨rfl,f1⟩;refine⟨_,rfl,aa.ne (fun aA=>?_) (fun he=>?_)⟩
 ·rw[if_pos (.inl aA)];exact nil 1 f1
 have he:jf t=0:=he;have hn:aJ t<=60:=(GI he).2.1;refine aa.dec (fun hd=>?_) (fun hd=>?_)
 ·rw[if_pos (.inr (.inl hd))];exact nil 1 f1
 refine aa.dec (fun Ay=>?_) (fun Ay=>?_)
 ·rw[if_pos (.inr (.inr Ay))];exact nil 1 f1
 rw[if_neg (by rw[he];simp;omega)];refine aq.of fun g w2 hg aM f2 fQ=>?_;have f12:=f1.trans f2;have hw:mY w2 w.heap.size g b F id m ([],[]) (none,0,0) (none,0,0):=⟨aM,.inl ⟨rfl,rfl⟩,.inl ⟨rfl,rfl⟩,fun k t=>(jP k t).elim,fun k t=>(jP k t).elim,h.af f12,hF,by have:=f1.size;omega⟩;refine ab.of (Y6 id m t d 1 ⟨_,_,hw⟩ rfl (by omega) (by simp;omega) (by simp;omega)) ?_;generalize cg id m t d 1 ([],[])=X;rintro _ w3 ⟨rfl,h3,f3⟩;have f13:Fr none1 w w3:=f12.comp f3 fun k U q=>by have:w.heap.size<=k:=q;omega
 refine⟨X.2,rfl,aa.ne (fun aA=>?_) (fun oH=>?_)⟩
 ·rw[if_pos aA];exact nil _ f13
 have oH:X.2=0:=oH;rw[if_neg (fun t=>t oH)];obtain⟨fl,wl,h3⟩:=h3;refine aH.of fun w4 _ f4=>?_;have h4:=h3.af f4;refine ae.ai h4.aG (x:=fl) rfl (ae.ai h4.aG (x:=wl) rfl ?_);exact⟨fl,wl,rfl,h4.xa,h4.waits,f13.trans f4,fun k U=>(h4.nL k U).1,fun k U=>(h4.kE k U).1⟩
def C126 (p0:Option Addr)(aI aN:Nat)(w:World)(K:Value->World->Prop):Prop:=
 aa (Option.isNone p0)
 (K (.slice none 0 0) w)
 (aw Tryz.prog (Instr.buildSlice 139 0 #[]) w (.v (.one .ah)) (fun(x1:ao) w2=>aw Tryz.prog (Builtin.append_ #[139,139] 139 #[.slice x1.1 x1.2.1 x1.2.2,.slice p0 aI aN]) w2 (.v (.one .ah)) (fun(x3:ao) w4=>K (.slice x3.1 x3.2.1 x3.2.2) w4)))
def pl126:aB:=.auto
theorem c126 (p0:Option Addr)(aI aN:Nat)(w:World)(K:Value->World->Prop)(h:C126 p0 aI aN w K):Ret Tryz.prog 126 #[.slice p0 aI aN] w K:=aC (by kernel_rfl) Tryz.func126 (p:=pl126) (Eq.mpr (by kernel_rfl) h)
def C127 (p0:Option Addr)(aI aN:Nat)(w:World)(K:Value->World->Prop):Prop:=
 aa (Option.isNone p0)
 (K (.slice none 0 0) w)
 (aw Tryz.prog (Instr.buildSlice 140 0 #[]) w (.v (.one .ah)) (fun(x1:ao) w2=>aw Tryz.prog (Builtin.append_ #[140,140] 140 #[.slice x1.1 x1.2.1 x1.2.2,.slice p0 aI aN]) w2 (.v (.one .ah)) (fun(x3:ao) w4=>K (.slice x3.1 x3.2.1 x3.2.2) w4)))
def pl127:aB:=.auto
theorem c127 (p0:Option Addr)(aI aN:Nat)(w:World)(K:Value->World->Prop)(h:C127 p0 aI aN w K):Ret Tryz.prog 127 #[.slice p0 aI aN] w K:=aC (by kernel_rfl) Tryz.func127 (p:=pl127) (Eq.mpr (by kernel_rfl) h)
def C140 (p0:Option Addr)(aI aN:Nat)(w:World)(K:Value->World->Prop):Prop:=
 aa (Option.isNone p0)
 (K (.slice none 0 0) w)
 (aw Tryz.prog (Instr.buildSlice 171 0 #[]) w (.v (.one .ah)) (fun(x1:ao) w2=>aw Tryz.prog (Builtin.append_ #[171,171] 171 #[.slice x1.1 x1.2.1 x1.2.2,.slice p0 aI aN]) w2 (.v (.one .ah)) (fun(x3:ao) w4=>K (.slice x3.1 x3.2.1 x3.2.2) w4)))
def pl140:aB:=.auto
theorem c140 (p0:Option Addr)(aI aN:Nat)(w:World)(K:Value->World->Prop)(h:C140 p0 aI aN w K):Ret Tryz.prog 140 #[.slice p0 aI aN] w K:=aC (by kernel_rfl) Tryz.func140 (p:=pl140) (Eq.mpr (by kernel_rfl) h)
def C89 (p0:List Value)(w:World)(K:Value->World->Prop):Prop:=
 aq (.cells p0.toArray 24) w (fun g1 w2=>eF 16 (ad g1) w2 (fun x3=>aw Tryz.prog (Instr.buildSlice 140 1 #[(0,.int .u64 0)]) w2 (.v (.one .ah)) (fun(x4:ao) w5=>tw [.int .u8,.int .u8,.int .u8,.int .u8,.int .u8,.int .u8,.int .u8,.int .u8,.int .u8,.int .u8,.int .u8,.int .u8,.int .u8,.int .u8,.int .u8,.int .u8] x3 (fun(x6:Int×Int×Int×Int×Int×Int×Int×Int×Int×Int×Int×Int×Int×Int×Int×Int×Unit)=>aq (.cells #[.int .u8 x6.1,.int .u8 x6.2.1,.int .u8 x6.2.2.1,.int .u8 x6.2.2.2.1,.int .u8 x6.2.2.2.2.1,.int .u8 x6.2.2.2.2.2.1,.int .u8 x6.2.2.2.2.2.2.1,.int .u8 x6.2.2.2.2.2.2.2.1,.int .u8 x6.2.2.2.2.2.2.2.2.1,.int .u8 x6.2.2.2.2.2.2.2.2.2.1,.int .u8 x6.2.2.2.2.2.2.2.2.2.2.1,.int .u8 x6.2.2.2.2.2.2.2.2.2.2.2.1,.int .u8 x6.2.2.2.2.2.2.2.2.2.2.2.2.1,.int .u8 x6.2.2.2.2.2.2.2.2.2.2.2.2.2.1,.int .u8 x6.2.2.2.2.2.2.2.2.2.2.2.2.2.2.1,.int .u8 x6.2.2.2.2.2.2.2.2.2.2.2.2.2.2.2.1,.slice none 0 0,.slice x4.1 x4.2.1 x4.2.2] 142) w5 (fun g7 w8=>K (.pointer (some (ad g7))) w8)))))
def pl89:aB:=.auto
theorem c89 (p0:List Value)(w:World)(K:Value->World->Prop)(h:C89 p0 w K):Ret Tryz.prog 89 #[.agg p0.toArray] w K:=aC (by kernel_rfl) Tryz.func89 (p:=pl89) (Eq.mpr (by kernel_rfl) h)
def C159 (p0:List Value)(p1:Int)(p2:iY)(w:World)(K:Value->World->Prop):Prop:=
 aq (.cells p0.toArray 24) w (fun g1 w2=>aq (.cells ((iO p2).toArray) 110) w2 (fun g3 w4=>az nX (ad g3) w4 (fun(x5:iY)=>ab Tryz.prog 153 #[.agg (iO x5).toArray] w4 (.aP [.one .ah,.one (.int .i64)]) (fun(x6:ao×Int×Unit) w7=>aa (x6.2.1 != 0)
 (K (.tuple #[.int .u64 0,.int .i64 x6.2.1]) w7)
 (aH w7 (fun w8=>bb (fun S9=>aE S9 (ad g1) (eF 16 (ad g1) w8 (fun aS=>ab Tryz.prog 49 #[.int .u64 p1] w8 (.v (.one .ah)) (fun(aZ:ao) aO=>ak S9 w8 aO (aw Tryz.prog (Builtin.append_ #[22,22] 22 #[.slice aZ.1 aZ.2.1 aZ.2.2,.slice x6.1.1 x6.1.2.1 x6.1.2.2]) aO (.v (.one .ah)) (fun(bC:ao) bu=>ak S9 aO bu (ab Tryz.prog 50 #[.agg aS.toArray,.slice bC.1 bC.2.1 bC.2.2] bu (.v (.one (.int .u64))) (fun(bm:Int) br=>ak S9 bu br (K (.tuple #[.int .u64 bm,.int .i64 0]) br)))))))))))))))
def pl159:aB:=(.seq .auto (.seq .auto (.seq .auto (.seq (.held (.soft 0 (.soft 1 (.soft 3 (.pick 2 (.pick 4 (.pick 5 (.soft 6 (.soft 7 .done)) .stop) .stop) .stop))))) .auto))))
theorem c159 (p0:List Value)(p1:Int)(p2:iY)(w:World)(K:Value->World->Prop)(h:C159 p0 p1 p2 w K):Ret Tryz.prog 159 #[.agg p0.toArray,.int .u64 p1,.agg (iO p2).toArray] w K:=aC (by kernel_rfl) Tryz.func159 (p:=pl159) (Eq.mpr (by kernel_rfl) h)
def C189 (p0:Addr)(p1:iY)(w:World)(K:Value->World->Prop):Prop:=
 aq (.cells ((iO p1).toArray) 110) w (fun g1 w2=>ae .ah (p0.add 16) w2 (fun(x3:ao)=>aa (decide ((x3.2.1:Int) >= 64))
 (K (.int .i64 5) w2)
 (aH w2 (fun w4=>bb (fun S5=>aE S5 (p0.add 0) (eF 16 (p0.add 0) w4 (fun x6=>aE S5 (ad g1) (az nX (ad g1) w4 (fun(x7:iY)=>ab Tryz.prog 32 #[.pointer (some p0)] w4 (.v (.one (.int .u64))) (fun(x8:Int) w9=>ak S5 w4 w9 (ab Tryz.prog 159 #[.agg x6.toArray,.int .u64 x8,.agg (iO x7).toArray] w9 (.aP [.one (.int .u64),.one (.int .i64)]) (fun(aS:Int×Int×Unit) aR=>aa (aS.2.1 != 0)
 (K (.int .i64 aS.2.1) aR)
 (aH aR (fun aO=>bb (fun et=>aE et (p0.add 16) (ae .ah (p0.add 16) aO (fun(bn:ao)=>aE et (ad g1) (az nX (ad g1) aO (fun(bm:iY)=>aE et (p0.add 17) (ae .ah (p0.add 17) aO (fun(aT:ao)=>kI (ab Tryz.prog 126 #[.slice bn.1 bn.2.1 bn.2.2] aO (.v (.one .ah)) (fun(aX:ao) bx=>ak et aO bx (kI (aw Tryz.prog (Instr.buildSlice 139 1 #[(0,.agg (iO bm).toArray)]) bx (.v (.one .ah)) (fun(bt:ao) bz=>ak et bx bz (kI (aw Tryz.prog (Builtin.append_ #[139,139] 139 #[.slice aX.1 aX.2.1 aX.2.2,.slice bt.1 bt.2.1 bt.2.2]) bz (.v (.one .ah)) (fun(b9:ao) bA=>ak et bz bA (kI (ab Tryz.prog 127 #[.slice aT.1 aT.2.1 aT.2.2] bA (.v (.one .ah)) (fun(cc:ao) bU=>ak et bA bU (aw Tryz.prog (Instr.buildSlice 140 1 #[(0,.int .u64 aS.1)]) bU (.v (.one .ah)) (fun(bG:ao) bZ=>ak et bU bZ (aw Tryz.prog (Builtin.append_ #[140,140] 140 #[.slice cc.1 cc.2.1 cc.2.2,.slice bG.1 bG.2.1 bG.2.2]) bZ (.v (.one .ah)) (fun(cE:ao) bV=>ay (p0.add 16) (.slice b9.1 b9.2.1 b9.2.2) bV (fun eg=>ay (p0.add 17) (.slice cE.1 cE.2.1 cE.2.2) eg (fun cn=>K (.int .i64 0) cn))))))))
 (aw Tryz.prog (Instr.buildSlice 140 1 #[(0,.int .u64 aS.1)]) bA (.v (.one .ah)) (fun(bX:ao) cZ=>ak et bA cZ (ab Tryz.prog 127 #[.slice aT.1 aT.2.1 aT.2.2] cZ (.v (.one .ah)) (fun(dH:ao) fT=>aw Tryz.prog (Builtin.append_ #[140,140] 140 #[.slice dH.1 dH.2.1 dH.2.2,.slice bX.1 bX.2.1 bX.2.2]) fT (.v (.one .ah)) (fun(de:ao) cW=>ay (p0.add 16) (.slice b9.1 b9.2.1 b9.2.2) cW (fun dq=>ay (p0.add 17) (.slice de.1 de.2.1 de.2.2) dq (fun jg=>K (.int .i64 0) jg))))))))))
 (aw Tryz.prog (Instr.buildSlice 140 1 #[(0,.int .u64 aS.1)]) bz (.v (.one .ah)) (fun(eY:ao) ef=>ak et bz ef (aw Tryz.prog (Builtin.append_ #[139,139] 139 #[.slice aX.1 aX.2.1 aX.2.2,.slice bt.1 bt.2.1 bt.2.2]) ef (.v (.one .ah)) (fun(fN:ao) eU=>ak et ef eU (ab Tryz.prog 127 #[.slice aT.1 aT.2.1 aT.2.2] eU (.v (.one .ah)) (fun(jx:ao) fU=>aw Tryz.prog (Builtin.append_ #[140,140] 140 #[.slice jx.1 jx.2.1 jx.2.2,.slice eY.1 eY.2.1 eY.2.2]) fU (.v (.one .ah)) (fun(fY:ao) gN=>ay (p0.add 16) (.slice fN.1 fN.2.1 fN.2.2) gN (fun kx=>ay (p0.add 17) (.slice fY.1 fY.2.1 fY.2.2) kx (fun gu=>K (.int .i64 0) gu))))))))))))
 (aw Tryz.prog (Instr.buildSlice 140 1 #[(0,.int .u64 aS.1)]) bx (.v (.one .ah)) (fun(fR:ao) mR=>ak et bx mR (aw Tryz.prog (Instr.buildSlice 139 1 #[(0,.agg (iO bm).toArray)]) mR (.v (.one .ah)) (fun(ko:ao) kq=>ak et mR kq (aw Tryz.prog (Builtin.append_ #[139,139] 139 #[.slice aX.1 aX.2.1 aX.2.2,.slice ko.1 ko.2.1 ko.2.2]) kq (.v (.one .ah)) (fun(jz:ao) jV=>ak et kq jV (ab Tryz.prog 127 #[.slice aT.1 aT.2.1 aT.2.2] jV (.v (.one .ah)) (fun(sZ:ao) pd=>aw Tryz.prog (Builtin.append_ #[140,140] 140 #[.slice sZ.1 sZ.2.1 sZ.2.2,.slice fR.1 fR.2.1 fR.2.2]) pd (.v (.one .ah)) (fun(oY:ao) pY=>ay (p0.add 16) (.slice jz.1 jz.2.1 jz.2.2) pY (fun og=>ay (p0.add 17) (.slice oY.1 oY.2.1 oY.2.2) og (fun ya=>K (.int .i64 0) ya))))))))))))))
 (kI (aw Tryz.prog (Instr.buildSlice 139 1 #[(0,.agg (iO bm).toArray)]) aO (.v (.one .ah)) (fun(lu:ao) kv=>ak et aO kv (kI (ab Tryz.prog 126 #[.slice bn.1 bn.2.1 bn.2.2] kv (.v (.one .ah)) (fun(oa:ao) mz=>ak et kv mz (kI (aw Tryz.prog (Builtin.append_ #[139,139] 139 #[.slice oa.1 oa.2.1 oa.2.2,.slice lu.1 lu.2.1 lu.2.2]) mz (.v (.one .ah)) (fun(oh:ao) uQ=>ak et mz uQ (kI (ab Tryz.prog 127 #[.slice aT.1 aT.2.1 aT.2.2] uQ (.v (.one .ah)) (fun(qV:ao) zk=>ak et uQ zk (aw Tryz.prog (Instr.buildSlice 140 1 #[(0,.int .u64 aS.1)]) zk (.v (.one .ah)) (fun(Hi:ao) Oy=>ak et zk Oy (aw Tryz.prog (Builtin.append_ #[140,140] 140 #[.slice qV.1 qV.2.1 qV.2.2,.slice Hi.1 Hi.2.1 Hi.2.2]) Oy (.v (.one .ah)) (fun(Hk:ao) Y7=>ay (p0.add 16) (.slice oh.1 oh.2.1 oh.2.2) Y7 (fun qd=>ay (p0.add 17) (.slice Hk.1 Hk.2.1 Hk.2.2) qd (fun Y8=>K (.int .i64 0) Y8))))))))
 (aw Tryz.prog (Instr.buildSlice 140 1 #[(0,.int .u64 aS.1)]) uQ (.v (.one .ah)) (fun(uR:ao) vX=>ak et uQ vX (ab Tryz.prog 127 #[.slice aT.1 aT.2.1 aT.2.2] vX (.v (.one .ah)) (fun(BQ:ao) sy=>aw Tryz.prog (Builtin.append_ #[140,140] 140 #[.slice BQ.1 BQ.2.1 BQ.2.2,.slice uR.1 uR.2.1 uR.2.2]) sy (.v (.one .ah)) (fun(Hl:ao) Gl=>ay (p0.add 16) (.slice oh.1 oh.2.1 oh.2.2) Gl (fun BR=>ay (p0.add 17) (.slice Hl.1 Hl.2.1 Hl.2.2) BR (fun Y9=>K (.int .i64 0) Y9))))))))))
 (aw Tryz.prog (Instr.buildSlice 140 1 #[(0,.int .u64 aS.1)]) mz (.v (.one .ah)) (fun(Hm:ao) Hn=>ak et mz Hn (aw Tryz.prog (Builtin.append_ #[139,139] 139 #[.slice oa.1 oa.2.1 oa.2.2,.slice lu.1 lu.2.1 lu.2.2]) Hn (.v (.one .ah)) (fun(Ho:ao) Oz=>ak et Hn Oz (ab Tryz.prog 127 #[.slice aT.1 aT.2.1 aT.2.2] Oz (.v (.one .ah)) (fun(Hr:ao) Za=>aw Tryz.prog (Builtin.append_ #[140,140] 140 #[.slice Hr.1 Hr.2.1 Hr.2.2,.slice Hm.1 Hm.2.1 Hm.2.2]) Za (.v (.one .ah)) (fun(Hs:ao) Zb=>ay (p0.add 16) (.slice Ho.1 Ho.2.1 Ho.2.2) Zb (fun Zc=>ay (p0.add 17) (.slice Hs.1 Hs.2.1 Hs.2.2) Zc (fun Et=>K (.int .i64 0) Et))))))))))))
 (aw Tryz.prog (Instr.buildSlice 140 1 #[(0,.int .u64 aS.1)]) kv (.v (.one .ah)) (fun(Ht:ao) qZ=>ak et kv qZ (ab Tryz.prog 126 #[.slice bn.1 bn.2.1 bn.2.2] qZ (.v (.one .ah)) (fun(Hw:ao) Hx=>ak et qZ Hx (aw Tryz.prog (Builtin.append_ #[139,139] 139 #[.slice Hw.1 Hw.2.1 Hw.2.2,.slice lu.1 lu.2.1 lu.2.2]) Hx (.v (.one .ah)) (fun(yk:ao) OA=>ak et Hx OA (ab Tryz.prog 127 #[.slice aT.1 aT.2.1 aT.2.2] OA (.v (.one .ah)) (fun(yl:ao) ym=>aw Tryz.prog (Builtin.append_ #[140,140] 140 #[.slice yl.1 yl.2.1 yl.2.2,.slice Ht.1 Ht.2.1 Ht.2.2]) ym (.v (.one .ah)) (fun(yn:ao) yo=>ay (p0.add 16) (.slice yk.1 yk.2.1 yk.2.2) yo (fun Zd=>ay (p0.add 17) (.slice yn.1 yn.2.1 yn.2.2) Zd (fun yp=>K (.int .i64 0) yp))))))))))))))
 (aw Tryz.prog (Instr.buildSlice 140 1 #[(0,.int .u64 aS.1)]) aO (.v (.one .ah)) (fun(qe:ao) q7=>ak et aO q7 (kI (ab Tryz.prog 126 #[.slice bn.1 bn.2.1 bn.2.2] q7 (.v (.one .ah)) (fun(yq:ao) vZ=>ak et q7 vZ (aw Tryz.prog (Instr.buildSlice 139 1 #[(0,.agg (iO bm).toArray)]) vZ (.v (.one .ah)) (fun(HA:ao) HB=>ak et vZ HB (aw Tryz.prog (Builtin.append_ #[139,139] 139 #[.slice yq.1 yq.2.1 yq.2.2,.slice HA.1 HA.2.1 HA.2.2]) HB (.v (.one .ah)) (fun(HC:ao) OB=>ak et HB OB (ab Tryz.prog 127 #[.slice aT.1 aT.2.1 aT.2.2] OB (.v (.one .ah)) (fun(HD:ao) Ze=>aw Tryz.prog (Builtin.append_ #[140,140] 140 #[.slice HD.1 HD.2.1 HD.2.2,.slice qe.1 qe.2.1 qe.2.2]) Ze (.v (.one .ah)) (fun(HE:ao) Zf=>ay (p0.add 16) (.slice HC.1 HC.2.1 HC.2.2) Zf (fun Zg=>ay (p0.add 17) (.slice HE.1 HE.2.1 HE.2.2) Zg (fun Zh=>K (.int .i64 0) Zh)))))))))))
 (aw Tryz.prog (Instr.buildSlice 139 1 #[(0,.agg (iO bm).toArray)]) q7 (.v (.one .ah)) (fun(HF:ao) HG=>ak et q7 HG (ab Tryz.prog 126 #[.slice bn.1 bn.2.1 bn.2.2] HG (.v (.one .ah)) (fun(HI:ao) HJ=>ak et HG HJ (aw Tryz.prog (Builtin.append_ #[139,139] 139 #[.slice HI.1 HI.2.1 HI.2.2,.slice HF.1 HF.2.1 HF.2.2]) HJ (.v (.one .ah)) (fun(HK:ao) OC=>ak et HJ OC (ab Tryz.prog 127 #[.slice aT.1 aT.2.1 aT.2.2] OC (.v (.one .ah)) (fun(HM:ao) Zi=>aw Tryz.prog (Builtin.append_ #[140,140] 140 #[.slice HM.1 HM.2.1 HM.2.2,.slice qe.1 qe.2.1 qe.2.2]) Zi (.v (.one .ah)) (fun(HN:ao) Zj=>ay (p0.add 16) (.slice HK.1 HK.2.1 HK.2.2) Zj (fun Zk=>ay (p0.add 17) (.slice HN.1 HN.2.1 HN.2.2) Zk (fun Zl=>K (.int .i64 0) Zl))))))))))))))))))))))))))))))))))))
def pl189:aB:=(.seq .auto (.seq .auto (.seq (.held (.soft 0 (.soft 1 (.soft 2 (.soft 3 (.soft 4 (.soft 6 (.pick 5 (.last 7 (.soft 8 (.soft 9 (.soft 10 (.soft 11 (.soft 12 .done)))))) .stop)))))))) (.seq .auto (.seq (.held (.soft 0 (.soft 1 (.soft 2 (.soft 3 (.soft 4 (.soft 5 (.soft 7 (.soft 10 (.soft 11 (.soft 12 (.soft 13 (.soft 15 (.pick 6 (.pick 8 (.pick 9 (.pick 14 (.pick 16 (.last 17 (.soft 18 (.soft 19 (.last 20 (.soft 21 (.soft 22 (.last 23 .done))))))) .stop) (.pick 16 (.last 14 (.last 17 (.soft 18 (.soft 19 (.last 20 (.soft 21 (.soft 22 (.last 23 .done)))))))) .stop)) (.pick 16 (.pick 9 (.last 14 (.last 17 (.soft 18 (.soft 19 (.last 20 (.soft 21 (.soft 22 (.last 23 .done)))))))) .stop) .stop)) (.pick 16 (.pick 8 (.pick 9 (.last 14 (.last 17 (.soft 18 (.soft 19 (.last 20 (.soft 21 (.soft 22 (.last 23 .done)))))))) .stop) .stop) .stop)) (.pick 8 (.pick 6 (.pick 9 (.pick 14 (.pick 16 (.last 17 (.soft 18 (.soft 19 (.last 20 (.soft 21 (.soft 22 (.last 23 .done))))))) .stop) (.pick 16 (.last 14 (.last 17 (.soft 18 (.soft 19 (.last 20 (.soft 21 (.soft 22 (.last 23 .done)))))))) .stop)) (.pick 16 (.pick 9 (.last 14 (.last 17 (.soft 18 (.soft 19 (.last 20 (.soft 21 (.soft 22 (.last 23 .done)))))))) .stop) .stop)) (.pick 16 (.pick 6 (.pick 9 (.last 14 (.last 17 (.soft 18 (.soft 19 (.last 20 (.soft 21 (.soft 22 (.last 23 .done)))))))) .stop) .stop) .stop)) (.pick 16 (.pick 6 (.pick 8 (.pick 9 (.last 14 (.last 17 (.soft 18 (.soft 19 (.last 20 (.soft 21 (.soft 22 (.last 23 .done)))))))) .stop) .stop) (.pick 8 (.pick 6 (.pick 9 (.last 14 (.last 17 (.soft 18 (.soft 19 (.last 20 (.soft 21 (.soft 22 (.last 23 .done)))))))) .stop) .stop) .stop)) .stop)))))))))))))))) .auto)))))
theorem c189 (p0:Addr)(p1:iY)(w:World)(K:Value->World->Prop)(h:C189 p0 p1 w K):Ret Tryz.prog 189 #[.pointer (some p0),.agg (iO p1).toArray] w K:=aC (by kernel_rfl) Tryz.func189 (p:=pl189) (Eq.mpr (by kernel_rfl) h)
def C27 (p0:Addr)(w:World)(K:Value->World->Prop):Prop:=
 ae .ah (p0.add 16) w (fun(x1:ao)=>K (.int .i64 (x1.2.1:Int)) w)
def pl27:aB:=.auto
theorem c27 (p0:Addr)(w:World)(K:Value->World->Prop)(h:C27 p0 w K):Ret Tryz.prog 27 #[.pointer (some p0)] w K:=aC (by kernel_rfl) Tryz.func27 (p:=pl27) (Eq.mpr (by kernel_rfl) h)
def C32 (p0:Addr)(w:World)(K:Value->World->Prop):Prop:=
 aH w (fun w1=>ae .ah (p0.add 17) w1 (fun(x2:ao)=>ae .ah (p0.add 17) w1 (fun(x3:ao)=>bK x2.1 x2.2.1 (IntKind.i64.wrap ((x3.2.1:Int) - 1)) 1 (fun a4=>ae (.int .u64) a4 w1 (fun(x5:Int)=>K (.int .u64 x5) w1)))))
def pl32:aB:=(.seq .auto (.seq .still .auto))
theorem c32 (p0:Addr)(w:World)(K:Value->World->Prop)(h:C32 p0 w K):Ret Tryz.prog 32 #[.pointer (some p0)] w K:=aC (by kernel_rfl) Tryz.func32 (p:=pl32) (Eq.mpr (by kernel_rfl) h)
def C69 (p0:Addr)(w:World)(K:Value->World->Prop):Prop:=
 aH w (fun w1=>bb (fun S2=>aE S2 (p0.add 0) (eF 16 (p0.add 0) w1 (fun x3=>aE S2 (p0.add 16) (ae .ah (p0.add 16) w1 (fun(x4:ao)=>aE S2 (p0.add 17) (ae .ah (p0.add 17) w1 (fun(x5:ao)=>ab Tryz.prog 126 #[.slice x4.1 x4.2.1 x4.2.2] w1 (.v (.one .ah)) (fun(x6:ao) w7=>ak S2 w1 w7 (ab Tryz.prog 127 #[.slice x5.1 x5.2.1 x5.2.2] w7 (.v (.one .ah)) (fun(x8:ao) w9=>ak S2 w7 w9 (tw [.int .u8,.int .u8,.int .u8,.int .u8,.int .u8,.int .u8,.int .u8,.int .u8,.int .u8,.int .u8,.int .u8,.int .u8,.int .u8,.int .u8,.int .u8,.int .u8] x3 (fun(aS:Int×Int×Int×Int×Int×Int×Int×Int×Int×Int×Int×Int×Int×Int×Int×Int×Unit)=>aq (.cells #[.int .u8 aS.1,.int .u8 aS.2.1,.int .u8 aS.2.2.1,.int .u8 aS.2.2.2.1,.int .u8 aS.2.2.2.2.1,.int .u8 aS.2.2.2.2.2.1,.int .u8 aS.2.2.2.2.2.2.1,.int .u8 aS.2.2.2.2.2.2.2.1,.int .u8 aS.2.2.2.2.2.2.2.2.1,.int .u8 aS.2.2.2.2.2.2.2.2.2.1,.int .u8 aS.2.2.2.2.2.2.2.2.2.2.1,.int .u8 aS.2.2.2.2.2.2.2.2.2.2.2.1,.int .u8 aS.2.2.2.2.2.2.2.2.2.2.2.2.1,.int .u8 aS.2.2.2.2.2.2.2.2.2.2.2.2.2.1,.int .u8 aS.2.2.2.2.2.2.2.2.2.2.2.2.2.2.1,.int .u8 aS.2.2.2.2.2.2.2.2.2.2.2.2.2.2.2.1,.slice x6.1 x6.2.1 x6.2.2,.slice x8.1 x8.2.1 x8.2.2] 142) w9 (fun g11 aO=>ak S2 w9 aO (K (.pointer (some (ad g11))) aO)))))))))))))))
def pl69:aB:=(.seq .auto (.seq (.held (.soft 0 (.soft 1 (.soft 2 (.soft 3 (.soft 4 (.soft 5 (.soft 6 (.soft 7 (.soft 9 (.soft 10 (.soft 11 (.soft 12 (.pick 8 (.pick 13 (.soft 14 (.pick 15 (.soft 16 .done) .stop)) .stop) .stop)))))))))))))) .auto))
theorem c69 (p0:Addr)(w:World)(K:Value->World->Prop)(h:C69 p0 w K):Ret Tryz.prog 69 #[.pointer (some p0)] w K:=aC (by kernel_rfl) Tryz.func69 (p:=pl69) (Eq.mpr (by kernel_rfl) h)
theorem HO (w:World)(E s:Nat):aD w E s (none,0,0) []:=.inl ⟨rfl,rfl⟩
theorem HP {t E s bytes:Nat}{z:Value}(he:gL Tryz.prog t E s z bytes){w:World}{v:Sl}{xs:List Value}(h:db w s v xs)(h1:∀ x∈xs,bJ x=true)(hb:(2 * v.2.1+192) * bytes<=2 ^ 48){K:Value->World->Prop}
  (k:∀ (u:Sl) w',aD w' E s u xs->Fr none1 w w'->(∀ k,au u k->w.heap.size<=k)->K (.slice u.1 u.2.1 u.2.2) w') :
  aa (Option.isNone v.1) (K (.slice none 0 0) w) (aw Tryz.prog (Instr.buildSlice t 0 #[]) w (.v (.one .ah)) (fun(x:Option Addr×Nat×Nat) w2=>aw Tryz.prog (Builtin.append_ #[t,t] t #[.slice x.1 x.2.1 x.2.2,.slice v.1 v.2.1 v.2.2]) w2 (.v (.one .ah)) (fun(y:Option Addr×Nat×Nat) w4=>K (.slice y.1 y.2.1 y.2.2) w4))):=by
 refine aa.by (fun hn=>?_) (fun hn=>?_)
 ·have hv:v.1=none:=by simpa using hn
  have:=(h.2.1 hv).2.2;subst this;exact k (none,0,0) w (HO _ _ _) (Fr.refl _ _) fun k ⟨a,ha,_⟩=>by cases ha
 ·obtain⟨x,w2,hr,hx,kj,f2,xf⟩:=LA (P:=Tryz.prog) (w:=w) he [] (by simp) (by simp)
  refine⟨x,w2,hr,?_⟩;obtain⟨y,w4,ye,hy,gM,f4,yf⟩:=gb (P:=Tryz.prog) he t hx (h.af f2) h1 (by rw[kj];simpa using hb);refine⟨y,w4,ye,k y w4 (by simpa using hy) (f2.comp f4 fun j hj q=>by have:=xf j q;omega) fun j hj=>?_⟩
  rcases yf j hj with q | q
  ·exact xf j q
  ·exact Nat.le_trans f2.size q
theorem na:gL Tryz.prog 139 110 9 (.agg #[.int .i64 0,.string ⟨#[]⟩,.string ⟨#[]⟩,.string ⟨#[]⟩,.string ⟨#[]⟩,.int .i64 0,.int .i64 0,.nilIface,.bool false]) 112:=⟨Tryz.underlying139,⟨Tryz.t110,by kernel_rfl,rfl,rfl,rfl⟩,rfl,by decide⟩
theorem jq:gL Tryz.prog 140 40 1 (.int .u64 0) 8:=⟨Tryz.underlying140,⟨Tryz.t40,by kernel_rfl,rfl,rfl,rfl⟩,rfl,by decide⟩
theorem Co:gL Tryz.prog 171 262 3 (.agg #[.string ⟨#[]⟩,.int .i64 0,.nilIface]) 40:=⟨Tryz.underlying171,⟨Tryz.t262,by kernel_rfl,rfl,rfl,rfl⟩,rfl,by decide⟩
def HR (w:World)(E s:Nat)(xs:List Value)(r:Value)(w':World):Prop:=∃ u:Sl,r=.slice u.1 u.2.1 u.2.2/\aD w' E s u xs/\Fr none1 w w'/\∀ k,au u k->w.heap.size<=k
theorem xc {w:World}{v:Sl}{xs:List Value}(h:db w 9 v xs)(h1:∀ x∈xs,bJ x=true)(hb:v.2.1<=1000000):Ret Tryz.prog 126 #[.slice v.1 v.2.1 v.2.2] w (HR w 110 9 xs):=by
 refine c126 v.1 v.2.1 v.2.2 w _ ?_;exact HP na h h1 (by omega) fun u w' hu f uf=>⟨u,rfl,hu,f,uf⟩
theorem pH {w:World}{v:Sl}{xs:List Value}(h:db w 1 v xs)(h1:∀ x∈xs,bJ x=true)(hb:v.2.1<=1000000):Ret Tryz.prog 127 #[.slice v.1 v.2.1 v.2.2] w (HR w 40 1 xs):=by
 refine c127 v.1 v.2.1 v.2.2 w _ ?_;exact HP jq h h1 (by omega) fun u w' hu f uf=>⟨u,rfl,hu,f,uf⟩
theorem HS {w:World}{v:Sl}{xs:List Value}(h:db w 3 v xs)(h1:∀ x∈xs,bJ x=true)(hb:v.2.1<=1000000):Ret Tryz.prog 140 #[.slice v.1 v.2.1 v.2.2] w (HR w 262 3 xs):=by
 refine c140 v.1 v.2.1 v.2.2 w _ ?_;exact HP Co h h1 (by omega) fun u w' hu f uf=>⟨u,rfl,hu,f,uf⟩
abbrev rK:List Ck:=[.int .u8,.int .u8,.int .u8,.int .u8,.int .u8,.int .u8,.int .u8,.int .u8,.int .u8,.int .u8,.int .u8,.int .u8,.int .u8,.int .u8,.int .u8,.int .u8]
theorem OD:∀ (n:Nat) (kb:List UInt8),kb.length=n->∃ y:Cs (List.replicate n (.int .u8)),kb.map bc=Cs.vals (List.replicate n (.int .u8)) y
 | 0,[],_=>⟨(),rfl⟩
 | n+1,b::kb,h=>by
  obtain⟨y,hy⟩:=OD n kb (by simpa using h);exact⟨((b.toNat:Int),y),by rw[List.map_cons,hy];rfl⟩
theorem Cp {kb:List UInt8}(U:kb.length=16){K:Cs rK->Prop}(k:∀ y:Cs rK,Cs.vals rK y=cK kb->K y):tw rK (cK kb) K:=by
 obtain⟨y,hy⟩:=OD 16 kb U;exact⟨y,hy,k y hy.symm⟩
def HT (n:Int):Value:=.int .u64 n
def nf (x:fE):List Value:=pz x.1.e x.2
theorem Zm (x:fE):(nf x).length=9:=rfl
theorem rL (x:fE):∀ v∈nf x,bJ v=true:=by
 have:=FG (e:=x.1.e) x.2 (Tm.bP x.1.t);exact fun v hv=>List.all_eq_true.1 this v hv
def rM (es:List fE):List Value:=(es.map nf).flatten
theorem pI (es:List fE):(rM es).length=es.length * 9:=by
 induction es with
 | nil=>rfl
 | cons x es ih=>
  unfold rM at *;rw[List.map_cons,List.flatten_cons,List.length_append,ih,Zm,List.length_cons];omega
theorem xd (es:List fE):∀ v∈rM es,bJ v=true:=by
 intro v hv;unfold rM at hv;rw[List.mem_flatten] at hv;obtain⟨l,hl,hv⟩:=hv;obtain⟨x,_,rfl⟩:=List.mem_map.1 hl;exact rL x v hv
theorem pJ (hs:List Int):∀ v∈hs.map HT,bJ v=true:=by intro v hv;obtain⟨x,_,rfl⟩:=List.mem_map.1 hv;rfl
def mf (kb:List UInt8)(l hd:Sl):List Value:=cK kb++[.slice l.1 l.2.1 l.2.2,.slice hd.1 hd.2.1 hd.2.2]
structure j2 (w:World)(F:Nat->Prop)(c:Nat)(kb:List UInt8)(es:List fE)(hs:List Int):Prop where
 out:∃ l hd:Sl,w.heap[c]? = some (.cells (mf kb l hd).toArray 142 (0,0))/\aD w 110 9 l (rM es)/\aD w 40 1 hd (hs.map HT)/\(∀ k,au l k->F k/\k≠c)/\(∀ k,au hd k->F k/\k≠c)
 mem:F c
theorem j2.ag {w w':World}{F T:Nat->Prop}{c:Nat}{kb:List UInt8}{es:List fE}{hs:List Int}(h:j2 w F c kb es hs)(f:Fr T w w')(hT:∀ k,F k->¬ T k):j2 w' F c kb es hs:=by
 obtain⟨⟨l,hd,h1,h2,h3,h4,h5⟩,hm⟩:=h;exact⟨⟨l,hd,f.ag h1 (hT c hm),h2.ag f (fun k U=>hT k (h4 k U).1),h3.ag f (fun k U=>hT k (h5 k U).1),h4,h5⟩,hm⟩
theorem j2.af {w w':World}{F:Nat->Prop}{c:Nat}{kb:List UInt8}{es:List fE}{hs:List Int}(h:j2 w F c kb es hs)(f:Fr none1 w w'):j2 w' F c kb es hs:=h.ag f fun _ _ t=>t
theorem kF {kb:List UInt8}:(cK kb).length=kb.length:=by unfold cK;simp
theorem te {kb:List UInt8}(U:kb.length=16)(l hd:Sl):(mf kb l hd).toArray[16]? = some (.slice l.1 l.2.1 l.2.2)/\(mf kb l hd).toArray[17]? = some (.slice hd.1 hd.2.1 hd.2.2):=by
 unfold mf;have:=kF (kb:=kb)
 constructor
 ·rw[List.getElem?_toArray,List.getElem?_append_right (by omega),this,U];rfl
 ·rw[List.getElem?_toArray,List.getElem?_append_right (by omega),this,U];rfl
theorem OE {w:World}{c:Nat}{kb:List UInt8}(U:kb.length=16){l hd:Sl}{T:TypeId}{fr:Nat×Nat}(h:w.heap[c]? = some (.cells (mf kb l hd).toArray T fr)){K:List Value->Prop}(k:K (cK kb)):eF 16 ((⟨c,0,none⟩:Addr).add 0) w K:=by
 refine⟨cK kb,by rw[kF,U],?_,k⟩;rw[dw];refine nV h _ 0 fun j hj=>?_;unfold mf;rw[List.getElem?_toArray,Nat.zero_add,List.getElem?_append_left hj]
theorem Zn {kb:List UInt8}(U:kb.length=16)(w:World):Ret Tryz.prog 89 #[.agg (cK kb).toArray] w fun r w'=>∃ c,r=.pointer (some ⟨c,0,none⟩)/\j2 w' (fun k=>w.heap.size<=k/\k<w'.heap.size) c kb [] [0]/\Fr none1 w w':=by
 refine c89 (cK kb) w _ ?_;unfold C89;refine aq.of fun g1 w1 di ar f1 jL=>eF.of ar (by rw[kF,U]) ?_;obtain⟨x,w2,hr,hx,kj,f2,xf⟩:=kX (P:=Tryz.prog) (w:=w1) jq (.int .u64 0) rfl;refine⟨x,w2,hr,Cp U fun y hy=>aq.of fun g w3 hg hb f3 ox=>?_⟩;have hb:w3.heap[g]? = some (.cells (Cs.vals rK y++[Value.slice none 0 0,Value.slice x.1 x.2.1 x.2.2]).toArray 142 (0,0)):=hb;rw[hy] at hb;have s1:=f1.size;have s2:=f2.size;refine⟨g,rfl,⟨⟨(none,0,0),x,hb,HO _ _ _,hx.af f3,fun k ⟨a,ha,_⟩=>(by cases ha),fun k fL=>?_⟩,?_⟩,(f1.trans f2).trans f3⟩
 ·have:=xf k fL;have:=aD.lt hx fL;omega
 ·omega
theorem zO {w:World}{F:Nat->Prop}{c:Nat}{kb:List UInt8}{es:List fE}{hs:List Int}(U:kb.length=16)(h:j2 w F c kb es hs):Ret Tryz.prog 27 #[.pointer (some ⟨c,0,none⟩)] w fun r w'=>r=.int .i64 (es.length:Int)/\w=w':=by
 obtain⟨⟨l,hd,h1,h2,h3,h4,h5⟩,hm⟩:=h;refine c27 _ w _ ?_;have:=h2.len;rw[pI] at this;exact ae.ai h1 (x:=l) (by rw[Nat.zero_add];exact(te U l hd).1) ⟨by rw[show l.2.1=es.length by omega],rfl⟩
theorem OF {w:World}{F:Nat->Prop}{c:Nat}{kb:List UInt8}{es:List fE}{hs:List Int}(U:kb.length=16)(h:j2 w F c kb es hs)(hl:hs.length=es.length+1)(pW:es.length<=1000):Ret Tryz.prog 32 #[.pointer (some ⟨c,0,none⟩)] w fun r w'=>r=.int .u64 (hs.getD es.length 0)/\Fr none1 w w':=by
 obtain⟨⟨l,hd,h1,h2,h3,h4,h5⟩,hm⟩:=h;refine c32 _ w _ ?_;unfold C32;refine aH.of fun w1 _ f1=>?_;have An:=h3.len;rw[List.length_map,Nat.mul_one] at An;have aU:=cj h1;refine ae.ai (f1.af h1) (x:=hd) (by rw[Nat.zero_add];exact(te U l hd).2) (ae.ai (f1.af h1) (x:=hd) (by rw[Nat.zero_add];exact(te U l hd).2) ?_);rw[wI (x:=(hd.2.1:Int) - 1) (by omega) (by omega)];refine aD.ld (h3.af f1) (c:=.int .u64) (by omega) (by omega) (x:=hs.getD es.length 0) ?_ ⟨rfl,f1⟩;rw[show((hd.2.1:Int) - 1).toNat=es.length by omega,List.getElem?_map,List.getElem?_eq_getElem (by omega),List.getD_eq_getElem?_getD,List.getElem?_eq_getElem (by omega)];rfl
theorem OG {w:World}{F:Nat->Prop}{c:Nat}{kb:List UInt8}{es:List fE}{hs:List Int}(U:kb.length=16)(h:j2 w F c kb es hs)(hl:es.length<=1000)(pW:hs.length<=1000):
  Ret Tryz.prog 69 #[.pointer (some ⟨c,0,none⟩)] w fun r w'=>∃ d,r=.pointer (some ⟨d,0,none⟩)/\j2 w' (fun k=>w.heap.size<=k/\k<w'.heap.size) d kb es hs/\Fr none1 w w':=by
 obtain⟨⟨l,hd,h1,h2,h3,h4,h5⟩,hm⟩:=h;refine c69 _ w _ ?_;unfold C69;have e2:=h2.len;rw[pI] at e2;have e3:=h3.len;rw[List.length_map,Nat.mul_one] at e3;refine aH.of fun w1 _ f1=>bb.all ?_;have nJ:=f1.af h1;refine aE.all (OE U nJ (aE.all (ae.ai nJ (x:=l) (by rw[Nat.zero_add];exact(te U l hd).1) (aE.all (ae.ai nJ (x:=hd) (by rw[Nat.zero_add];exact(te U l hd).2) ?_)))));refine ab.of (xc (h2.af f1).rd (xd es) (by omega)) ?_;rintro _ w2 ⟨u,rfl,hu,f2,uf⟩;refine⟨u,rfl,ak.of f2 ?_⟩;refine ab.of (pH ((h3.af f1).af f2).rd (pJ hs) (by omega)) ?_;rintro _ w3 ⟨v,rfl,hv,f3,vf⟩;refine⟨v,rfl,ak.of f3 ?_⟩;refine Cp U fun y hy=>aq.of fun g w4 hg hb f4 rn=>ak.of f4 ?_;have hb:w4.heap[g]? = some (.cells (Cs.vals rK y++[Value.slice u.1 u.2.1 u.2.2,Value.slice v.1 v.2.1 v.2.2]).toArray 142 (0,0)):=hb;rw[hy] at hb;have s1:=f1.size;have s2:=f2.size;have s3:=f3.size;refine⟨g,rfl,⟨⟨u,v,hb,(hu.af f3).af f4,hv.af f4,fun k fL=>?_,fun k fL=>?_⟩,?_⟩,((f1.trans f2).trans f3).trans f4⟩
 ·have:=uf k fL;have:=aD.lt hu fL;omega
 ·have:=vf k fL;have:=aD.lt hv fL;omega
 ·omega
theorem Zo {kb:List UInt8}(U:kb.length=16){h:Int}(h0:0<=h)(h1:h<18446744073709551616){x:fE}(hx:dD x.1){w:World}(ht:TabW w):
  Ret Tryz.prog 159 #[.agg (cK kb).toArray,.int .u64 h,.agg (nf x).toArray] w fun r w'=>r=.tuple #[.int .u64 (iV kb h x).1,.int .i64 (iV kb h x).2]/\Fr none1 w w':=by
 refine c159 (cK kb) h (mP x.1.e x.2) w _ ?_;unfold C159;refine aq.of fun g1 w1 di ar f1 jL=>aq.of fun g3 w3 wA ba f3 ox=>?_;refine az.aG (cks:=qn) (x:=mP x.1.e x.2) ba ?_;have f13:=f1.trans f3;have hz:=hx.e;have jC:=sE x.1.t;refine ab.of (Lu x.1.e x.2 (wz x.1.t) hz (bh x.1.t).1 (by omega) (bh x.1.t).2 w3 (fun _ wa fa=>AZ x.1.t hx.2.2.2.2 wa (ht.af (f13.trans fa)))) ?_;rintro _ w4 ⟨b,rfl,hb,f4,bf⟩;refine⟨(b,(fZ x).2,()),rfl,?_⟩;have hb:bR w4 b (fZ x).1:=hb;unfold iV;refine aa.ne (fun aA=>?_) (fun he=>?_)
 ·rw[if_pos aA];exact⟨rfl,f13.trans f4⟩
 rw[if_neg (fun t=>t he)];refine aH.of fun w5 _ f5=>bb.of (fun k=>k=g1) ⟨rfl,?_⟩;have f35:=f4.trans f5;refine eF.of (f35.af (f3.af ar)) (by rw[kF,U]) ?_;have kK:(fZ x).1.length<=100000000:=by
  have nH:=yH x.1.e hz (bh x.1.t).1 (by omega) (bh x.1.t).2;have nH:(da x.1).1.length<=_:=nH;unfold fZ sJ;split
  ·simp
  ·simp only[List.length_cons]
   have:(iy x.1.e (bh x.1.t).1 (bh x.1.t).2).1.length<=_:=nH;omega
 refine ab.of (Me h h0 h1 w5) ?_;rintro _ w6 ⟨u,rfl,hu,f6,uf⟩;refine⟨u,rfl,ak.of f6 ?_⟩;have s1:=f1.size;have s3:=f3.size;have s35:=f35.size;refine UN hu ((hb.af f5).af f6) (by rw[pq];omega) fun v w7 hv f7 _=>ak.on f7 (fun k U q=>by have:=uf k q;omega) ?_;refine ab.of (FN U hv.rd hv.cap (by rw[List.length_append,pq];omega)) ?_;rintro _ w8 ⟨rfl,f8⟩;have f57:Fr none1 w5 w7:=f6.comp f7 fun k U q=>by have:=uf k q;omega
 exact⟨_,rfl,ak.of f8 ⟨rfl,((f13.trans f35).trans f57).trans f8⟩⟩
def C90  (w:World) (K:Value->World->Prop):Prop:=
 ab Tryz.prog 147 #[] w (.v (.one .ptr)) (fun(x1:Option Addr) w2=>aq (.map #[] 0) w2 (fun g3 w4=>aq (.cells #[.int .i64 0,.slice none 0 0,.pointer x1,.map (some g3)] 175) w4 (fun g5 w6=>K (.pointer (some (ad g5))) w6)))
def pl90:aB:=.auto
theorem c90  (w:World) (K:Value->World->Prop) (h:C90  w K):Ret Tryz.prog 90 #[] w K:=aC (by kernel_rfl) Tryz.func90 (p:=pl90) (Eq.mpr (by kernel_rfl) h)
def C83 (p0:Addr)(w:World)(K:Value->World->Prop):Prop:=
 aH w (fun w1=>bb (fun S2=>aE S2 (p0.add 0) (ae (.int .i64) (p0.add 0) w1 (fun(x3:Int)=>aE S2 (p0.add 1) (ae .ah (p0.add 1) w1 (fun(x4:ao)=>aE S2 (p0.add 2) (ae .ptr (p0.add 2) w1 (fun(x5:Option Addr)=>aE S2 (p0.add 3) (ae .map (p0.add 3) w1 (fun(x6:Option Nat)=>ab Tryz.prog 140 #[.slice x4.1 x4.2.1 x4.2.2] w1 (.v (.one .ah)) (fun(x7:ao) w8=>ak S2 w1 w8 (ab Tryz.prog 141 #[.pointer x5] w8 (.v (.one .ptr)) (fun(x9:Option Addr) aK=>ak S2 w8 aK (ab Tryz.prog 142 #[.map x6] aK (.v (.one .map)) (fun(aZ:Option Nat) aO=>ak S2 aK aO (aq (.cells #[.int .i64 x3,.slice x7.1 x7.2.1 x7.2.2,.pointer x9,.map aZ] 175) aO (fun g13 bu=>ak S2 aO bu (K (.pointer (some (ad g13))) bu))))))))))))))))))
def pl83:aB:=(.seq .auto (.seq (.held (.soft 0 (.soft 1 (.soft 2 (.soft 3 (.soft 4 (.soft 5 (.soft 6 (.soft 7 (.soft 9 (.soft 10 (.soft 11 (.soft 12 (.soft 14 (.soft 15 (.soft 16 (.soft 17 (.pick 8 (.pick 13 (.pick 18 (.soft 19 (.pick 20 (.soft 21 .done) .stop)) .stop) .stop) .stop)))))))))))))))))) .auto))
theorem c83 (p0:Addr)(w:World)(K:Value->World->Prop)(h:C83 p0 w K):Ret Tryz.prog 83 #[.pointer (some p0)] w K:=aC (by kernel_rfl) Tryz.func83 (p:=pl83) (Eq.mpr (by kernel_rfl) h)
def C235 (p0:Addr)(w:World)(K:Value->World->Prop):Prop:=
 ae .ah (p0.add 1) w (fun(x1:ao)=>bj (ao×ao×Int×Unit) (fun _ s2 w3 Gm=>aa (decide (s2.2.2.1<(x1.2.1:Int)))
 (bK x1.1 x1.2.1 s2.2.2.1 3 (fun a5=>az [.str,.int .i64,.raw] a5 w3 (fun(x6:ByteArray×Int×Value×Unit)=>aq (.cells #[.string (⟨#[]⟩:ByteArray),.int .i64 0,.nilIface] 262) w3 (fun g7 w8=>av (ad g7) [.string x6.1,.int .i64 x6.2.1,x6.2.2.1] w8 (fun w9=>aH w9 (fun aK=>bb (fun zP=>aE zP ((ad g7).add 0) (ae .str ((ad g7).add 0) aK (fun(bw:ByteArray)=>aE zP ((ad g7).add 2) (ae .raw ((ad g7).add 2) aK (fun(bC:Value)=>aE zP ((ad g7).add 1) (ae (.int .i64) ((ad g7).add 1) aK (fun(bn:Int)=>aE zP (p0.add 2) (ae .ptr (p0.add 2) aK (fun(bm:Option Addr)=>ab Tryz.prog 233 #[.string bw,bC,.int .i64 bn,.pointer bm] aK (.aP [.one .ah,.one .ah,.one (.int .i64)]) (fun(aT:ao×ao×Int×Unit) cD=>ak zP aK cD (aa (aT.2.2.1 != 0)
 (K (.tuple #[.slice none 0 0,.slice none 0 0,.int .i64 aT.2.2.1]) cD)
 (aw Tryz.prog (Builtin.append_ #[163,163] 163 #[.slice s2.1.1 s2.1.2.1 s2.1.2.2,.slice aT.1.1 aT.1.2.1 aT.1.2.2]) cD (.v (.one .ah)) (fun(bE:ao) bO=>aw Tryz.prog (Builtin.append_ #[151,151] 151 #[.slice s2.2.1.1 s2.2.1.2.1 s2.2.1.2.2,.slice aT.2.1.1 aT.2.1.2.1 aT.2.1.2.2]) bO (.v (.one .ah)) (fun(cm:ao) bq=>Gm ((bE.1,bE.2.1,bE.2.2),(cm.1,cm.2.1,cm.2.2),IntKind.i64.wrap (s2.2.2.1+1),()) bq))))))))))))))))))))
 (K (.tuple #[.slice s2.1.1 s2.1.2.1 s2.1.2.2,.slice s2.2.1.1 s2.2.1.2.1 s2.2.1.2.2,.int .i64 0]) w3))
 ((none,0,0),(none,0,0),0,()) w)
def pl235:aB:=(.seq .auto (.seq .auto (.seq .auto (.seq (.seq .auto (.block (.loop [(5,.one .ah),(6,.one .ah),(17,.one (.int .i64))] (.seq .auto (.seq .auto (.seq (.block (.seq .auto (.seq (.held (.soft 0 (.soft 1 (.soft 2 (.soft 3 (.soft 4 (.soft 5 (.soft 6 (.soft 7 (.soft 8 (.soft 9 (.pick 10 (.soft 11 (.soft 12 (.soft 13 (.soft 14 (.soft 15 (.soft 16 (.soft 17 .done))))))) .stop)))))))))))) .auto))) .auto)))))) .auto))))
theorem c235 (p0:Addr)(w:World)(K:Value->World->Prop)(h:C235 p0 w K):Ret Tryz.prog 235 #[.pointer (some p0)] w K:=aC (by kernel_rfl) Tryz.func235 (p:=pl235) (Eq.mpr (by kernel_rfl) h)
def C261 (p0:Addr)(w:World)(K:Value->World->Prop):Prop:=
 ab Tryz.prog 235 #[.pointer (some p0)] w (.aP [.one .ah,.one .ah,.one (.int .i64)]) (fun(x1:ao×ao×Int×Unit) w2=>K (.slice x1.1.1 x1.1.2.1 x1.1.2.2) w2)
def pl261:aB:=.auto
theorem c261 (p0:Addr)(w:World)(K:Value->World->Prop)(h:C261 p0 w K):Ret Tryz.prog 261 #[.pointer (some p0)] w K:=aC (by kernel_rfl) Tryz.func261 (p:=pl261) (Eq.mpr (by kernel_rfl) h)
def C260 (p0:Addr)(p1:Int)(p2:ByteArray)(w:World)(K:Value->World->Prop):Prop:=
 ae .map (p0.add 3) w (fun(x1:Option Nat)=>aw Tryz.prog (Instr.lookup 173 (.map x1) (.agg #[.int .i64 p1,.string p2]) false) w (.v (.one (.int .i64))) (fun(x2:Int) w3=>K (.int .i64 x2) w3))
def pl260:aB:=.auto
theorem c260 (p0:Addr)(p1:Int)(p2:ByteArray)(w:World)(K:Value->World->Prop)(h:C260 p0 p1 p2 w K):Ret Tryz.prog 260 #[.pointer (some p0),.int .i64 p1,.string p2] w K:=aC (by kernel_rfl) Tryz.func260 (p:=pl260) (Eq.mpr (by kernel_rfl) h)
def C241 (p0:Addr)(p1:Int)(p2:ByteArray)(w:World)(K:Value->World->Prop):Prop:=
 ab Tryz.prog 260 #[.pointer (some p0),.int .i64 p1,.string p2] w (.v (.one (.int .i64))) (fun(x1:Int) w2=>ab Tryz.prog 261 #[.pointer (some p0)] w2 (.v (.one .ah)) (fun(x3:ao) w4=>bj (Int×Int×Unit) (fun _ s5 w6 ss=>aa (decide (s5.2.1<(x3.2.1:Int)))
 (bK x3.1 x3.2.1 s5.2.1 3 (fun a8=>az [.int .i64,.str,.int .i64] a8 w6 (fun(x9:Int×ByteArray×Int×Unit)=>aq (.cells #[.int .i64 0,.string (⟨#[]⟩:ByteArray),.int .i64 0] 219) w6 (fun g10 aR=>av (ad g10) [.int .i64 x9.1,.string x9.2.1,.int .i64 x9.2.2.1] aR (fun aO=>ae (.int .i64) ((ad g10).add 0) aO (fun(bC:Int)=>aa (bC==p1)
 (ae .str ((ad g10).add 1) aO (fun(bn:ByteArray)=>aa (bn.toList==p2.toList)
 (ae (.int .i64) ((ad g10).add 2) aO (fun(bm:Int)=>ss (IntKind.i64.wrap (s5.1+bm),IntKind.i64.wrap (s5.2.1+1),()) aO))
 (ss (s5.1,IntKind.i64.wrap (s5.2.1+1),()) aO)))
 (ss (s5.1,IntKind.i64.wrap (s5.2.1+1),()) aO)))))))
 (K (.int .i64 s5.1) w6))
 (IntKind.i64.wrap (0 - x1),0,()) w4))
def pl241:aB:=(.seq .auto (.seq .auto (.seq (.seq .auto (.block (.loop [(7,.one (.int .i64)),(18,.one (.int .i64))] .auto))) .auto)))
theorem c241 (p0:Addr)(p1:Int)(p2:ByteArray)(w:World)(K:Value->World->Prop)(h:C241 p0 p1 p2 w K):Ret Tryz.prog 241 #[.pointer (some p0),.int .i64 p1,.string p2] w K:=aC (by kernel_rfl) Tryz.func241 (p:=pl241) (Eq.mpr (by kernel_rfl) h)
def C195 (p0:Addr)(p1:bH)(w:World)(K:Value->World->Prop):Prop:=
 aq (.cells ((bS p1).toArray) 36) w (fun g1 w2=>ae .ah (p0.add 1) w2 (fun(x3:ao)=>ab Tryz.prog 231 #[.slice x3.1 x3.2.1 x3.2.2,.func (.func 232) #[] #[.pointer (some (ad g1))]] w2 (.v (.one .bool)) (fun(x4:Bool) w5=>aa x4
 (K (.int .i64 4) w5)
 (ae .ah (p0.add 1) w5 (fun(x6:ao)=>aa (decide ((x6.2.1:Int) >= 8))
 (K (.int .i64 5) w5)
 (aH w5 (fun w7=>bb (fun S8=>aE S8 ((ad g1).add 1) (ae .str ((ad g1).add 1) w7 (fun(x9:ByteArray)=>aE S8 ((ad g1).add 7) (ae .raw ((ad g1).add 7) w7 (fun(aS:Value)=>aE S8 (p0.add 0) (ae (.int .i64) (p0.add 0) w7 (fun(aZ:Int)=>aE S8 (p0.add 2) (ae .ptr (p0.add 2) w7 (fun(bw:Option Addr)=>ab Tryz.prog 233 #[.string x9,aS,.int .i64 aZ,.pointer bw] w7 (.aP [.one .ah,.one .ah,.one (.int .i64)]) (fun(bC:ao×ao×Int×Unit) bu=>aa (bC.2.2.1 != 0)
 (K (.int .i64 bC.2.2.1) bu)
 (aH bu (fun bL=>bb (fun tf=>aE tf (p0.add 1) (ae .ah (p0.add 1) bL (fun(aX:ao)=>aE tf ((ad g1).add 1) (ae .str ((ad g1).add 1) bL (fun(bE:ByteArray)=>aE tf (p0.add 0) (ae (.int .i64) (p0.add 0) bL (fun(bt:Int)=>aE tf ((ad g1).add 7) (ae .raw ((ad g1).add 7) bL (fun(cm:Value)=>iu cm (kI (ab Tryz.prog 140 #[.slice aX.1 aX.2.1 aX.2.2] bL (.v (.one .ah)) (fun(b9:ao) bA=>ak tf bL bA (aw Tryz.prog (Instr.buildSlice 171 1 #[(0,.agg #[.string bE,.int .i64 bt,cm])]) bA (.v (.one .ah)) (fun(cc:ao) bU=>ak tf bA bU (aw Tryz.prog (Builtin.append_ #[171,171] 171 #[.slice b9.1 b9.2.1 b9.2.2,.slice cc.1 cc.2.1 cc.2.2]) bU (.v (.one .ah)) (fun(bG:ao) bZ=>ay (p0.add 1) (.slice bG.1 bG.2.1 bG.2.2) bZ (fun eM=>K (.int .i64 0) eM)))))))
 (aw Tryz.prog (Instr.buildSlice 171 1 #[(0,.agg #[.string bE,.int .i64 bt,cm])]) bL (.v (.one .ah)) (fun(eX:ao) eg=>ak tf bL eg (ab Tryz.prog 140 #[.slice aX.1 aX.2.1 aX.2.2] eg (.v (.one .ah)) (fun(dX:ao) eK=>ak tf eg eK (aw Tryz.prog (Builtin.append_ #[171,171] 171 #[.slice dX.1 dX.2.1 dX.2.2,.slice eX.1 eX.2.1 eX.2.2]) eK (.v (.one .ah)) (fun(dS:ao) dy=>ay (p0.add 1) (.slice dS.1 dS.2.1 dS.2.2) dy (fun fT=>K (.int .i64 0) fT))))))))))))))))))))))))))))))))))))
def pl195:aB:=(.seq .auto (.seq .auto (.seq (.seq (.held (.soft 0 (.soft 1 (.soft 2 (.soft 3 (.soft 4 (.soft 5 (.soft 6 (.soft 7 (.soft 8 (.soft 9 (.soft 10 (.soft 11 (.last 12 (.soft 13 (.soft 14 (.soft 15 (.soft 16 (.soft 17 (.soft 18 (.soft 19 .done))))))))))))))))))))) .auto) (.seq (.held (.soft 0 (.soft 1 (.soft 2 (.soft 3 (.soft 4 (.soft 6 (.soft 7 (.soft 8 (.soft 9 (.soft 10 (.soft 11 (.soft 12 (.soft 13 (.soft 14 (.pick 5 (.pick 15 (.last 16 (.soft 17 (.soft 18 (.last 19 .done)))) .stop) (.pick 15 (.pick 5 (.last 16 (.soft 17 (.soft 18 (.last 19 .done)))) .stop) .stop))))))))))))))))) .auto))))
theorem c195 (p0:Addr)(p1:bH)(w:World)(K:Value->World->Prop)(h:C195 p0 p1 w K):Ret Tryz.prog 195 #[.pointer (some p0),.agg (bS p1).toArray] w K:=aC (by kernel_rfl) Tryz.func195 (p:=pl195) (Eq.mpr (by kernel_rfl) h)
def C232 (p0:ByteArray×Int×Value×Unit)(c0:Addr)(w:World)(K:Value->World->Prop):Prop:=
 aq (.cells #[.string p0.1,.int .i64 p0.2.1,p0.2.2.1] 262) w (fun g1 w2=>ae .str ((ad g1).add 0) w2 (fun(x3:ByteArray)=>ae .str (c0.add 1) w2 (fun(x4:ByteArray)=>K (.bool (x3.toList==x4.toList)) w2)))
def pl232:aB:=.auto
theorem c232 (p0:ByteArray×Int×Value×Unit)(c0:Addr)(w:World)(K:Value->World->Prop)(h:C232 p0 c0 w K):Ret Tryz.prog 232 #[.agg #[.string p0.1,.int .i64 p0.2.1,p0.2.2.1],.pointer (some c0)] w K:=aC (by kernel_rfl) Tryz.func232 (p:=pl232) (Eq.mpr (by kernel_rfl) h)
def C196 (p0:Addr)(p1:bH)(w:World)(K:Value->World->Prop):Prop:=
 aq (.cells ((bS p1).toArray) 36) w (fun g1 w2=>aH w2 (fun w3=>ae (.int .i64) ((ad g1).add 5) w3 (fun(x4:Int)=>ae (.int .i64) (p0.add 0) w3 (fun(x5:Int)=>aa (decide (x4 > x5))
 (K (.int .i64 7) w3)
 (aH w3 (fun w6=>ae .ptr (p0.add 2) w6 (fun(x7:Option Addr)=>ae .str ((ad g1).add 2) w6 (fun(x8:ByteArray)=>ae (.int .i64) ((ad g1).add 5) w6 (fun(x9:Int)=>ae (.int .i64) ((ad g1).add 6) w6 (fun(aS:Int)=>ab Tryz.prog 234 #[.pointer x7,.string x8,.int .i64 x9,.int .i64 aS] w6 (.v (.one (.int .i64))) (fun(aZ:Int) aO=>aa (aZ != 0)
 (K (.int .i64 aZ) aO)
 (ab Tryz.prog 235 #[.pointer (some p0)] aO (.aP [.one .ah,.one .ah,.one (.int .i64)]) (fun(bC:ao×ao×Int×Unit) bu=>K (.int .i64 bC.2.2.1) bu)))))))))))))
def pl196:aB:=(.seq .auto (.seq (.seq .still .auto) (.seq (.seq (.tail 10) .auto) .auto)))
theorem c196 (p0:Addr)(p1:bH)(w:World)(K:Value->World->Prop)(h:C196 p0 p1 w K):Ret Tryz.prog 196 #[.pointer (some p0),.agg (bS p1).toArray] w K:=aC (by kernel_rfl) Tryz.func196 (p:=pl196) (Eq.mpr (by kernel_rfl) h)
def C197 (p0:Addr)(p1:bH)(p2:Int)(w:World)(K:Value->World->Prop):Prop:=
 aq (.cells ((bS p1).toArray) 36) w (fun g1 w2=>ae .ah (p0.add 1) w2 (fun(x3:ao)=>ab Tryz.prog 236 #[.slice x3.1 x3.2.1 x3.2.2,.func (.func 237) #[] #[.pointer (some (ad g1))]] w2 (.v (.one (.int .i64))) (fun(x4:Int) w5=>aa (decide (x4<0))
 (K (.int .i64 3) w5)
 (ae .ah (p0.add 1) w5 (fun(x6:ao)=>bK x6.1 x6.2.1 x4 3 (fun a7=>az [.str,.int .i64,.raw] a7 w5 (fun(x8:ByteArray×Int×Value×Unit)=>aq (.cells #[.string (⟨#[]⟩:ByteArray),.int .i64 0,.nilIface] 262) w5 (fun g9 aK=>av (ad g9) [.string x8.1,.int .i64 x8.2.1,x8.2.2.1] aK (fun aR=>aH aR (fun aO=>bb (fun et=>aE et ((ad g9).add 0) (ae .str ((ad g9).add 0) aO (fun(bn:ByteArray)=>aE et ((ad g9).add 2) (ae .raw ((ad g9).add 2) aO (fun(bm:Value)=>aE et ((ad g9).add 1) (ae (.int .i64) ((ad g9).add 1) aO (fun(aT:Int)=>aE et (p0.add 2) (ae .ptr (p0.add 2) aO (fun(aX:Option Addr)=>ab Tryz.prog 233 #[.string bn,bm,.int .i64 aT,.pointer aX] aO (.aP [.one .ah,.one .ah,.one (.int .i64)]) (fun(bE:ao×ao×Int×Unit) bO=>ak et aO bO (ab Tryz.prog 238 #[.slice bE.2.1.1 bE.2.1.2.1 bE.2.1.2.2,.func (.func 239) #[] #[.pointer (some (ad g1))]] bO (.v (.one (.int .i64))) (fun(cm:Int) bq=>aa (decide (cm<0))
 (K (.int .i64 3) bq)
 (aH bq (fun bA=>bK bE.2.1.1 bE.2.1.2.1 cm 5 (fun a23=>ae (.int .i64) (a23.add 3) bA (fun(cN:Int)=>ae (.int .i64) (p0.add 0) bA (fun(bG:Int)=>aa (decide (cN > bG))
 (K (.int .i64 7) bA)
 (bK bE.2.1.1 bE.2.1.2.1 cm 5 (fun FP=>ae (.int .i64) (FP.add 4) bA (fun(cE:Int)=>aa (cE != p2)
 (K (.int .i64 8) bA)
 (aH bA (fun bV=>ae .ptr (p0.add 2) bV (fun(cH:Option Addr)=>ae .str ((ad g1).add 1) bV (fun(dX:ByteArray)=>ae .str ((ad g1).add 3) bV (fun(bX:ByteArray)=>ae (.int .i64) ((ad g1).add 6) bV (fun(dS:Int)=>ae (.int .i64) (p0.add 0) bV (fun(dH:Int)=>ab Tryz.prog 240 #[.pointer cH,.string dX,.string bX,.int .i64 dS,.int .i64 dH] bV (.v (.one (.int .i64))) (fun(ez:Int) fz=>aa (ez != 0)
 (K (.int .i64 ez) fz)
 (aH fz (fun cW=>bb (fun zQ=>aE zQ ((ad g9).add 0) (ae .str ((ad g9).add 0) cW (fun(dN:ByteArray)=>aE zQ ((ad g9).add 2) (ae .raw ((ad g9).add 2) cW (fun(eY:Value)=>aE zQ ((ad g9).add 1) (ae (.int .i64) ((ad g9).add 1) cW (fun(iw:Int)=>aE zQ (p0.add 2) (ae .ptr (p0.add 2) cW (fun(fN:Option Addr)=>ab Tryz.prog 233 #[.string dN,eY,.int .i64 iw,.pointer fN] cW (.aP [.one .ah,.one .ah,.one (.int .i64)]) (fun(jD:ao×ao×Int×Unit) k8=>ak zQ cW k8 (K (.int .i64 jD.2.2.1) k8)))))))))))))))))))))))))))))))))))))))))))))))))))
def pl197:aB:=(.seq .auto (.seq .auto (.seq .auto (.seq .auto (.seq (.held (.soft 0 (.soft 1 (.soft 2 (.soft 3 (.soft 4 (.soft 5 (.soft 6 (.soft 7 (.soft 8 (.soft 9 (.pick 10 (.soft 11 (.soft 12 (.soft 13 (.soft 14 (.soft 15 (.soft 16 (.soft 17 .done))))))) .stop)))))))))))) (.seq .auto (.seq (.block (.seq .auto (.cond .auto (.seq .still .auto)))) (.seq (.seq (.tail 14) .auto) (.seq (.held (.soft 0 (.soft 1 (.soft 2 (.soft 3 (.soft 4 (.soft 5 (.soft 6 (.soft 7 (.soft 8 (.soft 9 (.pick 10 (.soft 11 (.soft 12 (.soft 13 (.soft 14 (.soft 15 (.soft 16 (.soft 17 .done))))))) .stop)))))))))))) .auto)))))))))
theorem c197 (p0:Addr)(p1:bH)(p2:Int)(w:World)(K:Value->World->Prop)(h:C197 p0 p1 p2 w K):Ret Tryz.prog 197 #[.pointer (some p0),.agg (bS p1).toArray,.int .i64 p2] w K:=aC (by kernel_rfl) Tryz.func197 (p:=pl197) (Eq.mpr (by kernel_rfl) h)
def C237 (p0:ByteArray×Int×Value×Unit)(c0:Addr)(w:World)(K:Value->World->Prop):Prop:=
 aq (.cells #[.string p0.1,.int .i64 p0.2.1,p0.2.2.1] 262) w (fun g1 w2=>ae .str ((ad g1).add 0) w2 (fun(x3:ByteArray)=>ae .str (c0.add 1) w2 (fun(x4:ByteArray)=>K (.bool (x3.toList==x4.toList)) w2)))
def pl237:aB:=.auto
theorem c237 (p0:ByteArray×Int×Value×Unit)(c0:Addr)(w:World)(K:Value->World->Prop)(h:C237 p0 c0 w K):Ret Tryz.prog 237 #[.agg #[.string p0.1,.int .i64 p0.2.1,p0.2.2.1],.pointer (some c0)] w K:=aC (by kernel_rfl) Tryz.func237 (p:=pl237) (Eq.mpr (by kernel_rfl) h)
def C239 (p0:nq)(c0:Addr)(w:World)(K:Value->World->Prop):Prop:=
 aq (.cells ((mn p0).toArray) 154) w (fun g1 w2=>ae .bool ((ad g1).add 0) w2 (fun(x3:Bool)=>aa x3
 (ae .str ((ad g1).add 2) w2 (fun(x4:ByteArray)=>ae .str (c0.add 3) w2 (fun(x5:ByteArray)=>K (.bool (x4.toList==x5.toList)) w2)))
 (K (.bool false) w2)))
def pl239:aB:=.auto
theorem c239 (p0:nq)(c0:Addr)(w:World)(K:Value->World->Prop)(h:C239 p0 c0 w K):Ret Tryz.prog 239 #[.agg (mn p0).toArray,.pointer (some c0)] w K:=aC (by kernel_rfl) Tryz.func239 (p:=pl239) (Eq.mpr (by kernel_rfl) h)
def C198 (p0:Addr)(p1:bH)(w:World)(K:Value->World->Prop):Prop:=
 aq (.cells ((bS p1).toArray) 36) w (fun g1 w2=>ae (.int .i64) ((ad g1).add 5) w2 (fun(x3:Int)=>ae .str ((ad g1).add 4) w2 (fun(x4:ByteArray)=>ab Tryz.prog 241 #[.pointer (some p0),.int .i64 x3,.string x4] w2 (.v (.one (.int .i64))) (fun(x5:Int) w6=>aH w6 (fun w7=>ae (.int .i64) ((ad g1).add 5) w7 (fun(x8:Int)=>ae (.int .i64) (p0.add 0) w7 (fun(x9:Int)=>aa (decide (x8 > x9))
 (K (.int .i64 7) w7)
 (aa (x5==0)
 (K (.int .i64 3) w7)
 (ae (.int .i64) ((ad g1).add 6) w7 (fun(aS:Int)=>aa (x5 != aS)
 (K (.int .i64 1) w7)
 (aH w7 (fun aR=>bb (fun zR=>aE zR (p0.add 3) (ae .map (p0.add 3) aR (fun(bC:Option Nat)=>aE zR ((ad g1).add 5) (ae (.int .i64) ((ad g1).add 5) aR (fun(bn:Int)=>aE zR ((ad g1).add 4) (ae .str ((ad g1).add 4) aR (fun(bm:ByteArray)=>kI (aw Tryz.prog (Instr.lookup 173 (.map bC) (.agg #[.int .i64 bn,.string bm]) false) aR (.v (.one (.int .i64))) (fun(aT:Int) cD=>ak zR aR cD (aw Tryz.prog (Instr.mapEntry 173 (.map bC) (.agg #[.int .i64 bn,.string bm])) cD (.aP [.one (.int .i64),.one (.int .i64)]) (fun(bE:Int×Int×Unit) bO=>iL Tryz.prog (Instr.entryStore 173 (.map bC) (.int .i64 bE.2.1) (.int .i64 (IntKind.i64.wrap (aT+x5)))) bO (fun bz=>K (.int .i64 0) bz)))))
 (aw Tryz.prog (Instr.mapEntry 173 (.map bC) (.agg #[.int .i64 bn,.string bm])) aR (.aP [.one (.int .i64),.one (.int .i64)]) (fun(b9:Int×Int×Unit) bA=>ak zR aR bA (aw Tryz.prog (Instr.lookup 173 (.map bC) (.agg #[.int .i64 bn,.string bm]) false) bA (.v (.one (.int .i64))) (fun(cc:Int) bU=>iL Tryz.prog (Instr.entryStore 173 (.map bC) (.int .i64 b9.2.1) (.int .i64 (IntKind.i64.wrap (cc+x5)))) bU (fun dn=>K (.int .i64 0) dn))))))))))))))))))))))))
def pl198:aB:=(.seq .auto (.seq .auto (.seq (.block (.seq .still .auto)) (.seq (.held (.soft 0 (.soft 1 (.soft 2 (.soft 3 (.soft 4 (.soft 5 (.soft 6 (.soft 7 (.soft 8 (.soft 10 (.pick 9 (.soft 11 (.last 12 (.soft 13 (.last 14 .done)))) (.pick 12 (.soft 13 (.last 9 (.soft 11 (.last 14 .done)))) .stop))))))))))))) .auto))))
theorem c198 (p0:Addr)(p1:bH)(w:World)(K:Value->World->Prop)(h:C198 p0 p1 w K):Ret Tryz.prog 198 #[.pointer (some p0),.agg (bS p1).toArray] w K:=aC (by kernel_rfl) Tryz.func198 (p:=pl198) (Eq.mpr (by kernel_rfl) h)
def C152 (p0:Addr)(p1:bH)(p2:Int)(w:World)(K:Value->World->Prop):Prop:=
 aq (.cells ((bS p1).toArray) 36) w (fun g1 w2=>bQ (Bool×Unit) (fun J3=>aa (p2 != 0)
 (J3 ((p2 != 1),()) w2)
 (J3 (false,()) w2))
 (fun _ s4 w5=>aa s4.1
 (K (.int .i64 1) w5)
 (az dR (ad g1) w5 (fun(x6:bH)=>ab Tryz.prog 70 #[.agg (bS x6).toArray] w5 (.v (.one (.int .i64))) (fun(x7:Int) w8=>aa (x7 != 0)
 (K (.int .i64 x7) w8)
 (ae (.int .i64) ((ad g1).add 0) w8 (fun(x9:Int)=>aa (x9==2)
 (az dR (ad g1) w8 (fun(aS:bH)=>ab Tryz.prog 195 #[.pointer (some p0),.agg (bS aS).toArray] w8 (.v (.one (.int .i64))) (fun(aZ:Int) aO=>K (.int .i64 aZ) aO)))
 (aa (x9==3)
 (az dR (ad g1) w8 (fun(bC:bH)=>ab Tryz.prog 196 #[.pointer (some p0),.agg (bS bC).toArray] w8 (.v (.one (.int .i64))) (fun(bn:Int) bL=>K (.int .i64 bn) bL)))
 (aa (x9==4)
 (az dR (ad g1) w8 (fun(aT:bH)=>ab Tryz.prog 197 #[.pointer (some p0),.agg (bS aT).toArray,.int .i64 p2] w8 (.v (.one (.int .i64))) (fun(aX:Int) bx=>K (.int .i64 aX) bx)))
 (aa (x9==6)
 (az dR (ad g1) w8 (fun(bt:bH)=>ab Tryz.prog 198 #[.pointer (some p0),.agg (bS bt).toArray] w8 (.v (.one (.int .i64))) (fun(cm:Int) bq=>K (.int .i64 cm) bq)))
 (aa (x9==5)
 (aH w8 (fun bA=>ae (.int .i64) ((ad g1).add 5) bA (fun(cc:Int)=>ae (.int .i64) (p0.add 0) bA (fun(cN:Int)=>aa (decide (cc<=cN))
 (K (.int .i64 7) bA)
 (ae (.int .i64) ((ad g1).add 5) bA (fun(bG:Int)=>ay (p0.add 0) (.int .i64 bG) bA (fun bZ=>K (.int .i64 0) bZ)))))))
 (K (.int .i64 0) w8))))))))))))
def pl152:aB:=(.seq .auto (.seq (.join [(13,.one .bool)] .auto .auto) (.seq .auto (.seq (.seq .auto (.block (.seq .auto (.cond .auto (.seq .auto (.cond .auto (.seq .auto (.cond .auto (.seq .auto (.cond .auto (.seq .auto (.cond (.seq (.seq .still .auto) .auto) .auto)))))))))))) .auto))))
theorem c152 (p0:Addr)(p1:bH)(p2:Int)(w:World)(K:Value->World->Prop)(h:C152 p0 p1 p2 w K):Ret Tryz.prog 152 #[.pointer (some p0),.agg (bS p1).toArray,.int .i64 p2] w K:=aC (by kernel_rfl) Tryz.func152 (p:=pl152) (Eq.mpr (by kernel_rfl) h)
def C98 (p0:Addr)(p1:bH)(p2:Int)(w:World)(K:Value->World->Prop):Prop:=
 aq (.cells ((bS p1).toArray) 36) w (fun g1 w2=>aH w2 (fun w3=>bb (fun S4=>aE S4 (ad g1) (az dR (ad g1) w3 (fun(x5:bH)=>ab Tryz.prog 83 #[.pointer (some p0)] w3 (.v (.one .ptr)) (fun(x6:Option Addr) w7=>ak S4 w3 w7 (ab Tryz.prog 152 #[.pointer x6,.agg (bS x5).toArray,.int .i64 p2] w7 (.v (.one (.int .i64))) (fun(x8:Int) w9=>ak S4 w7 w9 (K (.int .i64 x8) w9)))))))))
def pl98:aB:=(.seq .auto (.seq (.held (.soft 0 (.soft 2 (.soft 3 (.pick 1 (.pick 4 (.soft 5 .done) .stop) .stop))))) .auto))
theorem c98 (p0:Addr)(p1:bH)(p2:Int)(w:World)(K:Value->World->Prop)(h:C98 p0 p1 p2 w K):Ret Tryz.prog 98 #[.pointer (some p0),.agg (bS p1).toArray,.int .i64 p2] w K:=aC (by kernel_rfl) Tryz.func98 (p:=pl98) (Eq.mpr (by kernel_rfl) h)
def C190 (p0:Addr)(p1:bH)(p2:Int)(w:World)(K:Value->World->Prop):Prop:=
 aq (.cells ((bS p1).toArray) 36) w (fun g1 w2=>ab Tryz.prog 83 #[.pointer (some p0)] w2 (.v (.one .ptr)) (fun(x3:Option Addr) w4=>az dR (ad g1) w4 (fun(x5:bH)=>ab Tryz.prog 152 #[.pointer x3,.agg (bS x5).toArray,.int .i64 p2] w4 (.v (.one (.int .i64))) (fun(x6:Int) w7=>aa (x6==0)
 (j7 x3 (fun a8=>az QL a8 w7 (fun(x9:Jn)=>av p0 (QM x9) w7 (fun aK=>K (.int .i64 x6) aK))))
 (K (.int .i64 x6) w7)))))
def pl190:aB:=.auto
theorem c190 (p0:Addr)(p1:bH)(p2:Int)(w:World)(K:Value->World->Prop)(h:C190 p0 p1 p2 w K):Ret Tryz.prog 190 #[.pointer (some p0),.agg (bS p1).toArray,.int .i64 p2] w K:=aC (by kernel_rfl) Tryz.func190 (p:=pl190) (Eq.mpr (by kernel_rfl) h)
def C231 (p0:Option Addr)(aI aN:Nat)(p1:Value)(w:World)(K:Value->World->Prop):Prop:=
 ab Tryz.prog 236 #[.slice p0 aI aN,p1] w (.v (.one (.int .i64))) (fun(x1:Int) w2=>K (.bool (decide (x1 >= 0))) w2)
def pl231:aB:=.auto
theorem c231 (p0:Option Addr)(aI aN:Nat)(p1:Value)(w:World)(K:Value->World->Prop)(h:C231 p0 aI aN p1 w K):Ret Tryz.prog 231 #[.slice p0 aI aN,p1] w K:=aC (by kernel_rfl) Tryz.func231 (p:=pl231) (Eq.mpr (by kernel_rfl) h)
def C236 (p0:Option Addr)(aI aN:Nat)(p1:Value)(w:World)(K:Value->World->Prop):Prop:=
 bj (Int×Unit) (fun _ s1 w2 gr=>aa (decide (s1.1<(aI:Int)))
 (bK p0 aI s1.1 3 (fun a4=>az [.str,.int .i64,.raw] a4 w2 (fun(x5:ByteArray×Int×Value×Unit)=>j9 Tryz.prog p1 [.agg #[.string x5.1,.int .i64 x5.2.1,x5.2.2.1]] (.v (.one .bool)) w2 (fun(x6:Bool) w7=>aa x6
 (K (.int .i64 s1.1) w7)
 (gr (IntKind.i64.wrap (s1.1+1),()) w7)))))
 (K (.int .i64 (-1)) w2))
 (0,()) w
def pl236:aB:=(.seq .auto (.seq (.seq .auto (.block (.loop [(8,.one (.int .i64))] .auto))) .auto))
theorem c236 (p0:Option Addr)(aI aN:Nat)(p1:Value)(w:World)(K:Value->World->Prop)(h:C236 p0 aI aN p1 w K):Ret Tryz.prog 236 #[.slice p0 aI aN,p1] w K:=aC (by kernel_rfl) Tryz.func236 (p:=pl236) (Eq.mpr (by kernel_rfl) h)
def C238 (p0:Option Addr)(aI aN:Nat)(p1:Value)(w:World)(K:Value->World->Prop):Prop:=
 bj (Int×Unit) (fun _ s1 w2 gr=>aa (decide (s1.1<(aI:Int)))
 (bK p0 aI s1.1 5 (fun a4=>az vy a4 w2 (fun(x5:nq)=>j9 Tryz.prog p1 [.agg (mn x5).toArray] (.v (.one .bool)) w2 (fun(x6:Bool) w7=>aa x6
 (K (.int .i64 s1.1) w7)
 (gr (IntKind.i64.wrap (s1.1+1),()) w7)))))
 (K (.int .i64 (-1)) w2))
 (0,()) w
def pl238:aB:=(.seq .auto (.seq (.seq .auto (.block (.loop [(8,.one (.int .i64))] .auto))) .auto))
theorem c238 (p0:Option Addr)(aI aN:Nat)(p1:Value)(w:World)(K:Value->World->Prop)(h:C238 p0 aI aN p1 w K):Ret Tryz.prog 238 #[.slice p0 aI aN,p1] w K:=aC (by kernel_rfl) Tryz.func238 (p:=pl238) (Eq.mpr (by kernel_rfl) h)
abbrev Cq:List Ck:=[.str,.int .i64,.raw]
abbrev zS (d:jF):Cs Cq:=(str d.1,d.2.1,d.2.2.v,())
def mg (d:jF):List Value:=[.string (str d.1),.int .i64 d.2.1,d.2.2.v]
def qz (l:List jF):List Value:=(l.map mg).flatten
theorem Cr (l:List jF):∀ x∈l.map mg,x.length=3:=by intro x hx;obtain⟨y,_,rfl⟩:=List.mem_map.1 hx;rfl
theorem zT (l:List jF):(qz l).length=l.length * 3:=by unfold qz;rw[zN (Cr l),List.length_map]
theorem Zp (l:List jF)(x:jF):qz (l++[x])=qz l++mg x:=by unfold qz;simp
theorem OH (x:jF):∀ v∈mg x,bJ v=true:=by intro v hv;simp[mg] at hv;rcases hv with rfl | rfl | rfl<;>first | rfl | exact Tm.bP _
theorem HU (l:List jF):∀ v∈qz l,bJ v=true:=by intro v hv;unfold qz at hv;obtain⟨x,hx,hv⟩:=List.mem_flatten.1 hv;obtain⟨y,_,rfl⟩:=List.mem_map.1 hx;exact OH y v hv
def Ct (k:Int×List UInt8):List Pv:=[.i k.1,.s k.2]
theorem HV:sW Tryz.prog 266 Ct where
 ty a:=by
  have hf:∃ fs,Tryz.prog.underlying 266=some (.struct fs)/\Tryz.prog.fieldsOf 266=fs:=by
   unfold Program.fieldsOf;rw[Tryz.underlying266];exact⟨_,rfl,rfl⟩
  refine⟨by obtain⟨fs,h1,h2⟩:=hf;rw[h1,h2],by kernel_rfl,by kernel_rfl,?_⟩;unfold Program.fieldsOf;rw[Tryz.underlying266];exact⟨by decide,rfl,Tryz.underlying3,by decide,rfl,Tryz.underlying9,trivial⟩
 inj a b h:=by
  injection h with h1 h2;injection h2 with h2 _;injection h1 with h1;injection h2 with h2
  exact Prod.ext h1 h2
structure pK (w:World)(F:Nat->Prop)(g:Nat)(l:cu)(dl:Sl)(b p:Nat)(G:Nat->Prop):Prop where
 aG:w.heap[g]? = some (.cells #[.int .i64 l.day,.slice dl.1 dl.2.1 dl.2.2,.pointer (some ⟨b,0,none⟩),.map (some p)] 175 (0,0))
 cF:aD w 262 3 dl (qz l.cF)
 wr:gJ w G b l.w
 fC:fG Ct rF w p l.fC
 ng:∀ k,au dl k->F k/\k≠g/\k≠p/\¬ G k
 gf:∀ k,G k->F k/\k≠g/\k≠p
 pf:F p/\p≠g
 mem:F g
def dL (w:World)(F:Nat->Prop)(g:Nat)(l:cu):Prop:=∃ dl b p G,pK w F g l dl b p G
theorem pK.ag {w w':World}{F T:Nat->Prop}{g:Nat}{l:cu}{dl:Sl}{b p:Nat}{G:Nat->Prop}(h:pK w F g l dl b p G)(f:Fr T w w')(hT:∀ k,F k->¬ T k):pK w' F g l dl b p G:=
 ⟨f.ag h.aG (hT g h.mem),h.cF.ag f fun k U=>hT k (h.ng k U).1,h.wr.ag f fun k U=>hT k (h.gf k U).1,h.fC.ag f (hT p h.pf.1),h.ng,h.gf,h.pf,h.mem⟩
theorem pK.af {w w':World}{F:Nat->Prop}{g:Nat}{l:cu}{dl:Sl}{b p:Nat}{G:Nat->Prop}(h:pK w F g l dl b p G)(f:Fr none1 w w'):pK w' F g l dl b p G:=h.ag f fun _ _ t=>t
theorem dL.ag {w w':World}{F T:Nat->Prop}{g:Nat}{l:cu}(h:dL w F g l)(f:Fr T w w')(hT:∀ k,F k->¬ T k):dL w' F g l:=by
 obtain⟨dl,b,p,G,h⟩:=h;exact⟨dl,b,p,G,h.ag f hT⟩
theorem dL.af {w w':World}{F:Nat->Prop}{g:Nat}{l:cu}(h:dL w F g l)(f:Fr none1 w w'):dL w' F g l:=h.ag f fun _ _ t=>t
theorem dL.mono {w:World}{F F':Nat->Prop}{g:Nat}{l:cu}(h:dL w F g l)(hF:∀ k,F k->F' k):dL w F' g l:=by
 obtain⟨dl,b,p,G,h⟩:=h;exact⟨dl,b,p,G,h.aG,h.cF,h.wr,h.fC,fun k U=>⟨hF k (h.ng k U).1,(h.ng k U).2⟩,fun k U=>⟨hF k (h.gf k U).1,(h.gf k U).2⟩,⟨hF p h.pf.1,h.pf.2⟩,hF g h.mem⟩
theorem dL.mem {w:World}{F:Nat->Prop}{g:Nat}{l:cu}(h:dL w F g l):F g:=by
 obtain⟨dl,b,p,G,h⟩:=h;exact pK.mem h
def cq (w w':World):Nat->Prop:=fun k=>w.heap.size<=k/\k<w'.heap.size
theorem Zq (w:World):Ret Tryz.prog 90 #[] w fun r w'=>∃ g,r=.pointer (some ⟨g,0,none⟩)/\dL w' (cq w w') g wo/\Fr none1 w w':=by
 refine c90 w _ ?_;unfold C90;refine ab.of (Yr w) ?_;rintro _ w1 ⟨b,rfl,hw,f1⟩;refine⟨some ⟨b,0,none⟩,rfl,aq.of fun p w2 hp aM f2 fQ=>aq.of fun g w3 hg ba f3 ox=>?_⟩;have s1:=f1.size;refine⟨g,rfl,⟨(none,0,0),b,p,_,ba,HO _ _ _,hw.af (f2.trans f3),(fG.new aM).af f3,fun k t=>(jP k t).elim,fun k U=>?_,?_,?_⟩,(f1.trans f2).trans f3⟩
 ·exact⟨⟨U.1,by omega⟩,by omega,by omega⟩
 ·exact⟨⟨by omega,by omega⟩,by omega⟩
 ·exact⟨by omega,by omega⟩
theorem HW {w:World}{F:Nat->Prop}{g:Nat}{l:cu}(h:dL w F g l)(hl:l.cF.length<=100):Ret Tryz.prog 83 #[.pointer (some ⟨g,0,none⟩)] w fun r w'=>∃ c,r=.pointer (some ⟨c,0,none⟩)/\dL w' (cq w w') c l/\Fr none1 w w':=by
 obtain⟨dl,b,p,G,h⟩:=h;refine c83 _ w _ ?_;unfold C83;refine aH.of fun w1 _ f1=>bb.all ?_;have h1:=h.af f1;refine aE.all (ae.ai h1.aG (x:=l.day) rfl (aE.all (ae.ai h1.aG (x:=dl) rfl (aE.all (ae.ai h1.aG (x:=some ⟨b,0,none⟩) rfl (aE.all (ae.ai h1.aG (x:=some p) rfl ?_)))))));have nB:=h1.cF.len;rw[zT] at nB;refine ab.of (HS h1.cF.rd (HU _) (by omega)) ?_;rintro _ w2 ⟨u,rfl,hu,f2,uf⟩;refine⟨u,rfl,ak.of f2 ?_⟩;have h2:=h1.af f2;refine ab.of (Yt h2.wr) ?_;rintro _ w3 ⟨c,rfl,hc,f3⟩;refine⟨some ⟨c,0,none⟩,rfl,ak.of f3 ?_⟩;have h3:=h2.af f3;obtain⟨es,cl,hb,he⟩:=h3.fC;have mc:Ret Tryz.prog 142 #[.map (some p)] w3 fun r w'=>r=.map (some w3.heap.size)/\w'=w3.alloc (.map es cl):=Calls.mono (Tryz.Rn p es cl w3 hb) fun e w' ⟨a,b⟩=>⟨_,a,rfl,b⟩;refine ab.of mc ?_;clear mc;rintro _ w4 ⟨rfl,rfl⟩;have f4:Fr none1 w3 (w3.alloc (.map es cl)):=lH w3 _;have n4:=G6 w3 (.map es cl);have s4:=G7 w3 (.map es cl);generalize w3.alloc (.map es cl)=w4 at *;refine⟨some w3.heap.size,rfl,ak.of f4 (aq.of fun q w5 hq dr f5 yR=>ak.of f5 ?_)⟩;have s1:=f1.size;have s2:=f2.size;have s3:=f3.size;refine⟨q,rfl,⟨u,c,w3.heap.size,_,dr,((hu.af f3).af f4).af f5,hc.af (f4.trans f5),⟨es,cl,f5.af n4,he⟩,fun k U=>?_,fun k U=>?_,?_,?_⟩,(((f1.trans f2).trans f3).trans f4).trans f5⟩
 ·have:=uf k U
  have:=aD.lt hu U;exact⟨⟨by omega,by omega⟩,by omega,by omega,fun t=>by have:=t.1;omega⟩
 ·exact⟨⟨by have:=U.1;omega,by have:=U.2;omega⟩,by have:=U.2;omega,by have:=U.2;omega⟩
 ·exact⟨⟨by omega,by omega⟩,by omega⟩
 ·exact⟨by omega,by omega⟩
theorem OI {w:World}{F:Nat->Prop}{g:Nat}{l:cu}(h:dL w F g l)(hF:∀ k,F k->k<w.heap.size)(hl:l.cF.length<=100)(hn:∀ d∈l.cF,aJ d.2.2<=1000000):
  Ret Tryz.prog 235 #[.pointer (some ⟨g,0,none⟩)] w fun r w'=>∃ fl wl:Sl,r=.tuple #[.slice fl.1 fl.2.1 fl.2.2,.slice wl.1 wl.2.1 wl.2.2,.int .i64 l.all.2] /\
   aD w' 219 3 fl (kS l.all.1.1)/\aD w' 154 5 wl (jo l.all.1.2)/\Fr none1 w w':=by
 obtain⟨dl,b,p,G,h⟩:=h;refine c235 _ w _ ?_;unfold C235;refine ae.ai h.aG (x:=dl) rfl ?_;have nB:=h.cF.len;rw[zT] at nB;have nB:dl.2.1=l.cF.length:=by omega
 refine bj.of (fun s w'=>∃ (i:Nat) (x:gY),s.2.2.1=i/\i<=l.cF.length/\nD l.w l.cF ([],[])=nD l.w (l.cF.drop i) x/\x.1.length<=60 * i/\x.2.length<=60 * i/\aD w' 219 3 s.1 (kS x.1)/\aD w' 154 5 s.2.1 (jo x.2)/\Fr none1 w w' /\
   (∀ k,au s.1 k->w.heap.size<=k)/\(∀ k,au s.2.1 k->w.heap.size<=k/\¬ au s.1 k)) (fun s _=>(dl.2.1 - s.2.2.1).toNat)
  ⟨0,([],[]),rfl,Nat.zero_le _,rfl,by simp,by simp,.inl ⟨rfl,rfl⟩,.inl ⟨rfl,rfl⟩,Fr.refl _ _,fun k t=>(jP k t).elim,fun k t=>(jP k t).elim⟩ ?_
 rintro _ ⟨fl,wl,i',_⟩ w1 ⟨i,x,hi,iz,hx,l1,l2,je,mZ,f1,nL,kE⟩;dsimp only at hi je mZ nL kE ⊢;subst hi;refine aa.dec (fun aU=>?_) (fun dh=>?_)
 rotate_left
 ·have:i=l.cF.length:=by omega
  subst this;rw[List.drop_length] at hx;have e:l.all=(x,0):=hx;rw[e];exact⟨fl,wl,rfl,je,mZ,f1⟩
 have eJ:i<l.cF.length:=by omega
 obtain⟨d,hd⟩:∃ d,l.cF[i]? = some d:=⟨_,List.getElem?_eq_getElem eJ⟩;have wQ:=List.mem_of_getElem? hd;have zU:l.cF.drop i=d::l.cF.drop (i+1):=by
  obtain⟨h1,h2⟩:=List.getElem?_eq_some_iff.1 hd;rw[List.drop_eq_getElem_cons h1,h2]
 rw[zU,nD] at hx;have h1:=h.af f1;refine wX (cks:=Cq) (x:=zS d) h1.cF.rd (by decide) (Cr _) (by rw[List.getElem?_map,hd];rfl) ?_;refine cB (zs:=[.string (⟨#[]⟩:ByteArray),.int .i64 0,.nilIface]) (vs:=mg d) rfl (by simp[mg,od,pc,Tm.bP]) fun g7 w2 Zr hU f2=>?_;refine aH.of fun w3 _ f3=>bb.all ?_;have f13:=(f1.trans f2).trans f3;have h3:=(h1.af f2).af f3;have HX:=f3.af hU;refine aE.all (ae.ai HX (x:=str d.1) rfl (aE.all (ae.ai (c:=.raw) HX (x:=d.2.2.v) rfl (aE.all (ae.ai HX (x:=d.2.1) rfl (aE.all (ae.ai h3.aG (x:=some ⟨b,0,none⟩) rfl ?_)))))));refine ab.of (Cn d.1 d.2.2 d.2.1 (hn d wQ) h3.wr (fun k U=>by have:=hF k (h.gf k U).1;have:=f13.size;omega)) ?_;obtain⟨c1,c2,_⟩:=GJ d.1 d.2.2 d.2.1 l.w;generalize fm d.1 d.2.2 d.2.1 l.w=X at *;rintro _ w4 ⟨f',w',rfl,OJ,wK,f4,ff',Zs⟩;refine⟨(f',w',X.2,()),rfl,ak.of f4 (aa.ne (fun aA=>?_) (fun he=>?_))⟩
 ·have aA:X.2≠0:=aA
  rw[if_pos aA] at hx;have e:l.all=(([],[]),X.2):=hx;rw[e];exact⟨(none,0,0),(none,0,0),rfl,.inl ⟨rfl,rfl⟩,.inl ⟨rfl,rfl⟩,f13.trans f4⟩
 have he:X.2=0:=he;rw[if_neg (fun t=>t he)] at hx;have f24:=(f2.trans f3).trans f4;have e1:=je.len;rw[Cm] at e1;have e2:=OJ.len;rw[Cm] at e2;have e3:=mZ.len;rw[wY] at e3;have e4:=wK.len;rw[wY] at e4;obtain⟨u,w5,Ei,hu,_,f5,uf⟩:=gb Hd 163 (je.af f24) OJ.rd (YS _) (by omega);refine⟨u,w5,Ei,?_⟩;have s3:=f13.size;have s4:=f4.size;have s5:=f5.size;have n5:Fr none1 w w5:=(f13.trans f4).comp f5 fun k U q=>by have:=nL k q;omega
 have Cu:db w5 5 w' (jo X.1.2):=wK.rd.ag f5 fun k U q=>by have:=aD.lt (je.af (f2.trans f3)) q;have:=Zs k U;omega
 obtain⟨v,w6,o9,hv,_,f6,vf⟩:=gb Hc 151 ((mZ.af f24).ag f5 fun k U q=>(kE k U).2 q) Cu (YR _) (by omega);refine⟨v,w6,o9,?_⟩;have cS:∀ k,au u k->w.heap.size<=k:=fun k U=>by
  rcases uf k U with q | q
  ·exact nL k q
  ·omega
 have wu:∀ k,au wl k->¬ au u k:=fun k U q=>by
  rcases uf k q with t | t
  ·exact(kE k U).2 t
  ·have:=aD.lt (mZ.af f24) U;omega
 refine⟨⟨i+1,(x.1++X.1.1,x.2++X.1.2),by rw[wI (by omega) (by omega)];omega,by omega,hx,by simp only[List.length_append];omega,by simp only[List.length_append];omega,?_,?_,n5.comp f6 fun k U q=>by have:=(kE k q).1;omega,cS,fun k U=>?_⟩,by rw[wI (by omega) (by omega)];omega⟩
 ·rw[YQ];exact hu.ag f6 fun k U q=>wu k q U
 ·rw[YP];exact hv
 ·rcases vf k U with q | q
  ·exact⟨(kE k q).1,wu k q⟩
  ·exact⟨by omega,fun t=>by have:=aD.lt hu t;omega⟩
theorem Zt {w:World}{F:Nat->Prop}{g:Nat}{l:cu}(h:dL w F g l)(hF:∀ k,F k->k<w.heap.size)(hl:l.cF.length<=100)(hn:∀ d∈l.cF,aJ d.2.2<=1000000):
  Ret Tryz.prog 261 #[.pointer (some ⟨g,0,none⟩)] w fun r w'=>∃ fl:Sl,r=.slice fl.1 fl.2.1 fl.2.2/\aD w' 219 3 fl (kS l.all.1.1)/\Fr none1 w w':=by
 refine c261 _ w _ ?_;refine ab.of (OI h hF hl hn) ?_;rintro _ w1 ⟨fl,wl,rfl,je,mZ,f1⟩;exact⟨(fl,wl,l.all.2,()),rfl,fl,rfl,je,f1⟩
theorem HY {w:World}{g:Nat}{l:List ((Int×List UInt8)×Int)}(h:fG Ct rF w g l)(d:Int)(c:List UInt8){K:Int->World->Prop}(k:K ((bd (d,c) l).getD 0) w):
  aw Tryz.prog (Instr.lookup 173 (.map (some g)) (.agg #[.int .i64 d,.string (str c)]) false) w (.v (.one (.int .i64))) K:=by
 have:=G4 (z:=.int .i64 0) HV Tryz.underlying173 (by kernel_rfl) h (d,c) false;refine⟨(bd (d,c) l).getD 0,w,this.trans ?_,k⟩;cases bd (d,c) l<;>rfl
theorem Zu {w:World}{F:Nat->Prop}{g:Nat}{l:cu}(h:dL w F g l)(d:Int)(c:List UInt8):Ret Tryz.prog 260 #[.pointer (some ⟨g,0,none⟩),.int .i64 d,.string (str c)] w fun r w'=>r=.int .i64 (l.jG d c)/\w=w':=by
 obtain⟨dl,b,p,G,h⟩:=h;refine c260 _ d (str c) w _ ?_;exact ae.ai h.aG (x:=some p) rfl (HY h.fC d c ⟨rfl,rfl⟩)
theorem Zv (d:Int)(c:List UInt8)(n:Int)(fs:List kN)(i:Nat){f:kN}(h:fs[i]? = some f):jT d c n (fs.take (i+1))=if f.1=d/\f.2.1=c then jT d c n (fs.take i)+f.2.2 else jT d c n (fs.take i):=zL _ _ _ h _
theorem Cv {l:cu}(h:lY l):∀ d∈l.cF,aJ d.2.2<=1000000:=fun d hd=>by have:=(GI (Nf (h.ok d hd)).1).2.1;omega
theorem Zw {w:World}{F:Nat->Prop}{g:Nat}{l:cu}(h:dL w F g l)(hF:∀ k,F k->k<w.heap.size)(ho:lY l)(d:Int)(c:List UInt8):Ret Tryz.prog 241 #[.pointer (some ⟨g,0,none⟩),.int .i64 d,.string (str c)] w fun r w'=>r=.int .i64 (l.nE d c)/\Fr none1 w w':=by
 refine c241 _ d (str c) w _ ?_;have oV:=ho.num;obtain⟨a1,a2,a3⟩:=GK ho;obtain⟨p1,p2⟩:=GM ho d c;refine ab.of (Zu h d c) ?_;rintro _ _ ⟨rfl,rfl⟩;refine⟨_,rfl,?_⟩;refine ab.of (Zt h hF (by omega) (Cv ho)) ?_;rintro _ w1 ⟨fl,rfl,je,f1⟩;refine⟨fl,rfl,?_⟩;unfold cu.nE;generalize l.all.1.1=fs at *;have Ek:=je.len;rw[Cm] at Ek;have Ek:fl.2.1=fs.length:=by omega
 have OK:∀ i,-980000000000000<=jT d c (-l.jG d c) (fs.take i)/\jT d c (-l.jG d c) (fs.take i)<=980000000000000:=fun i=>by
  have:=B3 d c (fs.take i) (-l.jG d c) (fun f hf=>a3 f (List.mem_of_mem_take hf));rw[List.length_take] at this;omega
 refine bj.of (fun s w'=>∃ i:Nat,s.2.1=i/\i<=fs.length/\s.1=jT d c (-l.jG d c) (fs.take i)/\Fr none1 w1 w') (fun s _=>(fl.2.1 - s.2.1).toNat)
  ⟨0,rfl,Nat.zero_le _,by rw[wI (by omega) (by omega),Int.zero_sub];rfl,Fr.refl _ _⟩ ?_
 rintro _ ⟨n,i',_⟩ w2 ⟨i,hi,iz,hs,f2⟩;dsimp only at hi hs ⊢;subst hi;subst hs;refine aa.dec (fun aU=>?_) (fun dh=>?_)
 rotate_left
 ·have:i=fs.length:=by omega
  subst this;rw[List.take_length];exact⟨rfl,f1.trans f2⟩
 have eJ:i<fs.length:=by omega
 obtain⟨f,hf⟩:∃ f,fs[i]? = some f:=⟨_,List.getElem?_eq_getElem eJ⟩;have jh:=Zv d c (-l.jG d c) fs i hf;have r1:=OK i;have r2:=OK (i+1);refine wX (cks:=On) (x:=YM f) (je.af f2).rd (by decide) (Oo _) (by rw[List.getElem?_map,hf];rfl) ?_;refine cB (zs:=[.int .i64 0,.string (⟨#[]⟩:ByteArray),.int .i64 0]) (vs:=tc f) rfl rfl fun g7 w3 Zr hU f3=>?_;have step:∀ n:Int,n=jT d c (-l.jG d c) (fs.take (i+1))->((∃ HZ:Nat,IntKind.wrap .i64 (↑i+1)=(HZ:Int)/\HZ<=fs.length/\n=jT d c (-l.jG d c) (fs.take HZ)/\Fr none1 w1 w3)/\((fl.2.1:Int) - IntKind.wrap .i64 (↑i+1)).toNat<((fl.2.1:Int) - ↑i).toNat):=fun n hn=>
  ⟨⟨i+1,by rw[wI (by omega) (by omega)];omega,by omega,hn,f2.trans f3⟩,by rw[wI (by omega) (by omega)];omega⟩
 refine ae.ai hU (x:=f.1) rfl (aa.eq (fun h1=>ae.ai hU (x:=str f.2.1) rfl ?_) (fun h1=>step _ ?_))
 ·rw[iv]
  refine aa.dec (fun h2=>ae.ai hU (x:=f.2.2) rfl (step _ ?_)) (fun h2=>step _ ?_)
  ·rw[if_pos ⟨h1,h2⟩] at jh
   rw[jh,wI (by omega) (by omega)]
  ·rw[if_neg (fun t=>h2 t.2)] at jh
   exact jh.symm
 ·rw[if_neg (fun t=>h1 t.1)] at jh
  exact jh.symm
theorem OL {α:Type}(q:α->Bool){l:List α}{i:Nat}{d:α}(h1:(l.take i).find? q=none)(h2:l[i]? = some d)(h3:q d=false):(l.take (i+1)).find? q=none:=by
 rw[List.take_add_one,h2,List.find?_append,h1];simp[h3]
theorem OM {α:Type}(q:α->Bool){l:List α}{i:Nat}{d:α}(h1:(l.take i).find? q=none)(h2:l[i]? = some d)(h3:q d=true):l.find? q=some d:=by
 obtain⟨h4,h5⟩:=List.getElem?_eq_some_iff.1 h2
 conv=>lhs;rw[<- List.take_append_drop i l]
 rw[List.find?_append,h1,List.drop_eq_getElem_cons h4,h5];simp[h3]
theorem ON (q:jF->Bool)(v:Value){w:World}{dl:Sl}{l:List jF}(h:db w 3 dl (qz l))(hl:l.length<=1000)
  (hv:∀ (d:jF) (w1:World),Fr none1 w w1->∀ (K:Bool->World->Prop),(∀ w2,Fr none1 w1 w2->K (q d) w2)->j9 Tryz.prog v [.agg (mg d).toArray] (.v (.one .bool)) w1 K) :
  Ret Tryz.prog 236 #[.slice dl.1 dl.2.1 dl.2.2,v] w fun r w'=>(∃ i:Int,r=.int .i64 i/\((i=-1/\l.find? q=none)\/∃ (n:Nat) (d:jF),i=n/\l[n]? = some d/\l.find? q=some d))/\Fr none1 w w':=by
 have hlen:dl.2.1=l.length:=by have:=h.1;rw[zT] at this;omega
 refine c236 dl.1 dl.2.1 dl.2.2 v w _ ?_;refine bj.of (fun st w'=>∃ i:Nat,st.1=i/\i<=l.length/\(l.take i).find? q=none/\Fr none1 w w') (fun st _=>(dl.2.1 - st.1).toNat) ⟨0,rfl,Nat.zero_le _,rfl,Fr.refl _ _⟩ ?_;rintro _ ⟨i',_⟩ w1 ⟨i,hi,iz,gB,f1⟩;dsimp only at hi ⊢;subst hi;refine aa.dec (fun aU=>?_) (fun dh=>?_)
 ·have eJ:i<l.length:=by omega
  obtain⟨x,hx⟩:∃ x,l[i]? = some x:=⟨_,List.getElem?_eq_getElem eJ⟩;refine wX (cks:=Cq) (x:=zS x) (h.af f1) (by decide) (Cr _) (by rw[List.getElem?_map,hx];rfl) ?_;refine hv x w1 f1 _ fun w2 f2=>aa.by (fun hq=>?_) (fun hq=>?_)
  ·exact⟨⟨(i:Int),rfl,.inr ⟨i,x,rfl,hx,OM q gB hx hq⟩⟩,f1.trans f2⟩
  ·exact⟨⟨i+1,by rw[wI (by omega) (by omega)];omega,by omega,OL q gB hx hq,f1.trans f2⟩,by rw[wI (by omega) (by omega)];omega⟩
 ·rw[List.take_of_length_le (by omega)] at gB
  exact⟨⟨-1,rfl,.inl ⟨rfl,gB⟩⟩,f1⟩
theorem Zx (q:fX->Bool)(v:Value){w:World}{dl:Sl}{l:List fX}(h:db w 5 dl (jo l))(hl:l.length<=1000)
  (hv:∀ (d:fX) (w1:World),Fr none1 w w1->∀ (K:Bool->World->Prop),(∀ w2,Fr none1 w1 w2->K (q d) w2)->j9 Tryz.prog v [.agg (ma d).toArray] (.v (.one .bool)) w1 K) :
  Ret Tryz.prog 238 #[.slice dl.1 dl.2.1 dl.2.2,v] w fun r w'=>(∃ i:Int,r=.int .i64 i/\((i=-1/\l.find? q=none)\/∃ (n:Nat) (d:fX),i=n/\l[n]? = some d/\l.find? q=some d))/\Fr none1 w w':=by
 have hlen:dl.2.1=l.length:=by have:=h.1;rw[wY] at this;omega
 refine c238 dl.1 dl.2.1 dl.2.2 v w _ ?_;refine bj.of (fun st w'=>∃ i:Nat,st.1=i/\i<=l.length/\(l.take i).find? q=none/\Fr none1 w w') (fun st _=>(dl.2.1 - st.1).toNat) ⟨0,rfl,Nat.zero_le _,rfl,Fr.refl _ _⟩ ?_;rintro _ ⟨i',_⟩ w1 ⟨i,hi,iz,gB,f1⟩;dsimp only at hi ⊢;subst hi;refine aa.dec (fun aU=>?_) (fun dh=>?_)
 ·have eJ:i<l.length:=by omega
  obtain⟨x,hx⟩:∃ x,l[i]? = some x:=⟨_,List.getElem?_eq_getElem eJ⟩;refine wX (cks:=tb) (x:=pG x) (h.af f1) (by decide) (Cl _) (by rw[List.getElem?_map,hx];rfl) ?_;refine hv x w1 f1 _ fun w2 f2=>aa.by (fun hq=>?_) (fun hq=>?_)
  ·exact⟨⟨(i:Int),rfl,.inr ⟨i,x,rfl,hx,OM q gB hx hq⟩⟩,f1.trans f2⟩
  ·exact⟨⟨i+1,by rw[wI (by omega) (by omega)];omega,by omega,OL q gB hx hq,f1.trans f2⟩,by rw[wI (by omega) (by omega)];omega⟩
 ·rw[List.take_of_length_le (by omega)] at gB
  exact⟨⟨-1,rfl,.inl ⟨rfl,gB⟩⟩,f1⟩
def kG (w:World)(g1:Nat)(m:aQ):Prop:=w.heap[g1]? = some (.cells (gP m.e).toArray 36 (0,0))
theorem kG.af {w w':World}{g1:Nat}{m:aQ}(h:kG w g1 m)(f:Fr none1 w w'):kG w' g1 m:=f.af h
def rN (m:aQ):jF->Bool:=fun d=>d.1==m.id
def H0 (m:aQ):fX->Bool:=fun x=>x.1&&x.2.2.1==m.label
theorem Zy {w:World}{g1:Nat}{m:aQ}(h:kG w g1 m)(d:jF):Ret Tryz.prog 232 #[.agg (mg d).toArray,.pointer (some ⟨g1,0,none⟩)] w fun r w'=>r=.bool (rN m d)/\Fr none1 w w':=by
 refine c232 (zS d) _ w _ ?_;refine aq.of fun g w1 hg hb f1 _=>ae.ai hb (x:=str d.1) rfl (ae.ai (h.af f1) (x:=str m.id) rfl ⟨?_,f1⟩);rw[iv];unfold rN;congr 1;rw[Bool.eq_iff_iff];simp
theorem Zz {w:World}{g1:Nat}{m:aQ}(h:kG w g1 m)(d:jF):Ret Tryz.prog 237 #[.agg (mg d).toArray,.pointer (some ⟨g1,0,none⟩)] w fun r w'=>r=.bool (rN m d)/\Fr none1 w w':=by
 refine c237 (zS d) _ w _ ?_;refine aq.of fun g w1 hg hb f1 _=>ae.ai hb (x:=str d.1) rfl (ae.ai (h.af f1) (x:=str m.id) rfl ⟨?_,f1⟩);rw[iv];unfold rN;congr 1;rw[Bool.eq_iff_iff];simp
theorem ZA {w:World}{g1:Nat}{m:aQ}(h:kG w g1 m)(d:fX):Ret Tryz.prog 239 #[.agg (ma d).toArray,.pointer (some ⟨g1,0,none⟩)] w fun r w'=>r=.bool (H0 m d)/\Fr none1 w w':=by
 refine c239 (pG d) _ w _ ?_;unfold H0;refine aq.of fun g w1 hg hb f1 _=>ae.ai hb (x:=d.1) rfl (aa.by (fun hd=>ae.ai hb (x:=str d.2.2.1) rfl (ae.ai (h.af f1) (x:=str m.label) rfl ⟨?_,f1⟩)) (fun hd=>⟨by rw[hd];rfl,f1⟩));rw[iv,hd];congr 1;rw[Bool.eq_iff_iff];simp
theorem ZB {w:World}{F:Nat->Prop}{g:Nat}{l:cu}(h:dL w F g l)(hF:∀ k,F k->k<w.heap.size)(hl:l.cF.length<=100)(m:aQ)(hm:aJ m.t<=1000000):
  Ret Tryz.prog 195 #[.pointer (some ⟨g,0,none⟩),gV m.e] w fun r w'=>r=.int .i64 (sH l m).2/\dL w' (fun k=>F k\/cq w w' k) g (sH l m).1/\Fr F w w':=by
 obtain⟨dl,b,p,G,h⟩:=h;refine c195 _ m.e w _ ?_;unfold C195 sH;refine aq.of fun g1 w1 di ar f1 _=>?_;have e1:kG w1 g1 m:=ar;have h1:=h.af f1;have nB:=h.cF.len;rw[zT] at nB;have nB:dl.2.1=l.cF.length:=by omega
 have no:∀ {w':World},Fr none1 w w'->dL w' (fun k=>F k\/cq w w' k) g l/\Fr F w w':=fun f=>⟨(show dL _ F g l from⟨dl,b,p,G,h.af f⟩).mono fun k U=>.inl U,f.mono fun _ _ t=>t.elim⟩;refine ae.ai h1.aG (x:=dl) rfl ?_;have hc:Ret Tryz.prog 231 #[.slice dl.1 dl.2.1 dl.2.2,.func (.func 232) #[] #[.pointer (some ⟨g1,0,none⟩)]] w1 fun r w'=>r=.bool (l.cF.any (rN m))/\Fr none1 w1 w':=by
  refine c231 dl.1 dl.2.1 dl.2.2 _ w1 _ ?_;refine ab.of (ON (rN m) _ h1.cF.rd (by omega) fun d w2 f2 K k=>?_) ?_
  ·refine lC (by kernel_rfl) Tryz.func232 (by kernel_rfl) ((Zy (e1.af f2) d).mono ?_)
   rintro _ w3 ⟨rfl,f3⟩;exact⟨_,rfl,k w3 f3⟩
  rintro _ w2 ⟨⟨i,rfl,hi⟩,f2⟩;refine⟨i,rfl,?_,f2⟩;rw[show l.cF.any (rN m)=(l.cF.find? (rN m)).isSome by rw[Bool.eq_iff_iff];simp]
  rcases hi with⟨rfl,hn⟩ | ⟨n,d,rfl,hd,hn⟩
  ·rw[hn];rfl
  ·rw[hn,decide_eq_true (by omega)];rfl
 refine ab.of hc ?_;clear hc;rintro _ w2 ⟨rfl,f2⟩;have f12:=f1.trans f2;have h2:=h1.af f2;refine⟨_,rfl,aa.by (fun ha=>?_) (fun ha=>?_)⟩
 ·have ha:l.cF.any (fun d=>d.1==m.id)=true:=ha
  rw[if_pos ha];exact⟨rfl,no f12⟩
 have ha:l.cF.any (fun d=>d.1==m.id)=false:=ha;rw[if_neg (by rw[ha];simp)];refine ae.ai h2.aG (x:=dl) rfl (aa.dec (fun h8=>?_) (fun h8=>?_))
 ·rw[if_pos (by omega)];exact⟨rfl,no f12⟩
 rw[if_neg (by omega)];refine aH.of fun w3 _ f3=>bb.all ?_;have f13:=f12.trans f3;have h3:=h2.af f3;have e3:=(e1.af f2).af f3;refine aE.all (ae.ai e3 (x:=str m.id) rfl (aE.all (ae.ai (c:=.raw) e3 (x:=m.t.v) rfl (aE.all (ae.ai h3.aG (x:=l.day) rfl (aE.all (ae.ai h3.aG (x:=some ⟨b,0,none⟩) rfl ?_)))))));refine ab.of (Cn m.id m.t l.day hm h3.wr (fun k U=>by have:=hF k (h.gf k U).1;have:=f13.size;omega)) ?_;rintro _ w4 ⟨fl,wl,rfl,_,_,f4,_,_⟩;have f14:=f13.trans f4;have h4:=h3.af f4;refine⟨(fl,wl,(fm m.id m.t l.day l.w).2,()),rfl,aa.ne (fun aA=>?_) (fun he=>?_)⟩
 ·rw[if_pos aA];exact⟨rfl,no f14⟩
 rw[if_neg (fun t=>t he)];refine aH.of fun w5 _ f5=>bb.all ?_;have f15:=f14.trans f5;have h5:=h4.af f5;have e5:=(e3.af f4).af f5
 -- the end, alike in both abx
 have fin:∀ {w6:World} {u y:Sl},Fr none1 w5 w6->aD w6 262 3 u (qz l.cF)->aD w6 262 3 y (mg (m.id,l.day,m.t))->y.2.1=1->(∀ k,au u k->w5.heap.size<=k) ->
   aw Tryz.prog (Builtin.append_ #[171,171] 171 #[.slice u.1 u.2.1 u.2.2,.slice y.1 y.2.1 y.2.2]) w6 (.v (.one .ah)) fun(v:Option Addr×Nat×Nat) w7=>ay ((⟨g,0,none⟩:Addr).add 1) (.slice v.1 v.2.1 v.2.2) w7 fun w8=>(Value.int .i64 0=.int .i64 0/\dL w8 (fun k=>F k\/cq w w8 k) g { l with cF:=l.cF++[(m.id,l.day,m.t)] }/\Fr F w w8):=by
  intro w6 u y f6 hu hy BM uf;have cS:=hu.len;rw[zT] at cS;obtain⟨v,w7,o8,hv,_,f7,vf⟩:=gb Co 171 hu hy.rd (OH _) (by omega);refine⟨v,w7,o8,?_⟩;have s5:=f15.size;have s6:=f6.size;have s7:=f7.size;have gl:=hF g h.mem;have uJ:∀ k,F k->¬ au u k:=fun k U q=>by have:=uf k q;have:=hF k U;omega
  have h7:=(h5.af f6).ag f7 uJ;refine ay.ai h7.aG (show 1<4 by decide) rfl fun w8 jW f8 s8=>⟨rfl,⟨v,b,p,G,jW,?_,h7.wr.ag f8 (fun k U q=>(h.gf k U).2.1 q),h7.fC.ag f8 (fun q=>h.pf.2 q),fun k U=>?_,fun k U=>⟨.inl (h.gf k U).1,(h.gf k U).2⟩,⟨.inl h.pf.1,h.pf.2⟩,.inl h.mem⟩,?_⟩
  ·dsimp only
   rw[Zp];refine hv.ag f8 fun k U q=>?_;have:k=g:=q
   rcases vf k U with t | t
   ·have:=uf k t;omega
   ·omega
  ·have ZC:w.heap.size<=k/\k<w7.heap.size:=by
    refine⟨?_,aD.lt hv U⟩
    rcases vf k U with t | t
    ·have:=uf k t;omega
    ·omega
   refine⟨.inr ⟨ZC.1,by omega⟩,by omega,fun e=>by have:=hF p h.pf.1;omega,fun t=>by have:=hF k (h.gf k t).1;omega⟩
  ·refine(((f15.trans f6).mono fun _ _ t=>t.elim).comp f7 fun k U q=>by have:=uf k q;omega).comp f8 fun k _ q=>by have:k=g:=q;rw[this];exact h.mem
 refine aE.all (ae.ai h5.aG (x:=dl) rfl (aE.all (ae.ai e5 (x:=str m.id) rfl (aE.all (ae.ai h5.aG (x:=l.day) rfl (aE.all (ae.ai (c:=.raw) e5 (x:=m.t.v) rfl ⟨m.t.fp,⟨?a,?b⟩⟩)))))))
 case' a=>
  refine ab.of (HS h5.cF.rd (HU _) (by omega)) ?_;rintro _ w6 ⟨u,rfl,hu,f6,uf⟩;refine⟨u,rfl,ak.of f6 ?_⟩;obtain⟨y,w7,o8,hy,gM,f7,yf⟩:=oI (P:=Tryz.prog) (w:=w6) Co (mg (m.id,l.day,m.t)) rfl (by decide);exact⟨y,w7,o8,ak.of f7 (fin (f6.trans f7) (hu.af f7) hy gM uf)⟩
 case' b=>
  obtain⟨y,w6,o9,hy,gM,f6,yf⟩:=oI (P:=Tryz.prog) (w:=w5) Co (mg (m.id,l.day,m.t)) rfl (by decide);refine⟨y,w6,o9,ak.of f6 ?_⟩;have h6:=h5.af f6;refine ab.of (HS h6.cF.rd (HU _) (by omega)) ?_;rintro _ w7 ⟨u,rfl,hu,f7,uf⟩;exact⟨u,rfl,ak.of f7 (fin (f6.trans f7) hu (hy.af f7) gM fun k U=>by have:=uf k U;have:=f6.size;omega)⟩
theorem ZD {w:World}{v:Sl}{l:List fX}(h:db w 5 v (jo l)){i:Nat}{x:fX}(hx:l[i]? = some x){K:Addr->Prop}(k:∀ a:Addr,(∀ {j:Nat} {c:Ck} {y:c.C} {M:c.C->Prop},(ma x)[j]? = some (c.val y)->M y->ae c (a.add j) w M)->K a):bK v.1 v.2.1 (i:Int) 5 K:=by
 have hlen:v.2.1=l.length:=by have:=h.1;rw[wY] at this;omega
 have hi:=(List.getElem?_eq_some_iff.1 hx).1;cases hv:v.1 with
 | none=>have:=(h.2.1 hv).1;omega
 | some p=>
  refine⟨p,rfl,by omega,by omega,?_⟩;rw[Int.toNat_natCast];have hl:az tb (p.add (i * 5)) w (fun y=>pG x=y):=h.uC (vs:=l.map ma) (Cl l) (x:=pG x) (by rw[List.getElem?_map,hx];rfl) (by omega) rfl hv;obtain⟨y,hc,hy⟩:=hl;subst hy;refine k _ fun{j c y M} hj hm=>?_;refine⟨y,?_,hm⟩;have:=xF _ 0 j _ hc hj;rwa[Nat.zero_add] at this
theorem pK.world {w w':World}{F:Nat->Prop}{g:Nat}{l:cu}{dl:Sl}{b p:Nat}{G:Nat->Prop}(h:pK w F g l dl b p G)(f:Fr G w w'){m:cP}(hw:gJ w' G b m):pK w' F g { l with w:=m } dl b p G:=
 ⟨f.ag h.aG fun q=>(h.gf g q).2.1 rfl,h.cF.ag f fun k U q=>(h.ng k U).2.2.2 q,hw,h.fC.ag f fun q=>(h.gf p q).2.2 rfl,h.ng,h.gf,h.pf,h.mem⟩
theorem ZE {w:World}{F:Nat->Prop}{g:Nat}{l:cu}(h:dL w F g l)(hF:∀ k,F k->k<w.heap.size)(ho:lY l)(m:aQ):
  Ret Tryz.prog 196 #[.pointer (some ⟨g,0,none⟩),gV m.e] w fun r w'=>r=.int .i64 (rk l m).2/\((rk l m).2=0->dL w' F g (rk l m).1)/\Fr F w w':=by
 obtain⟨dl,b,p,G,h⟩:=h;have oV:=ho.num;refine c196 _ m.e w _ ?_;unfold C196 rk;refine aq.of fun g1 w1 di ar f1 _=>aH.of fun w2 _ f2=>?_;have e2:kG w2 g1 m:=f2.af ar;have f12:=f1.trans f2;have h2:=h.af f12;have no:∀ {w':World} {n:Int},Fr none1 w w'->(n=0->dL w' F g l)/\Fr F w w':=fun f=>⟨fun _=>⟨dl,b,p,G,h.af f⟩,f.mono fun _ _ t=>t.elim⟩;refine ae.ai e2 (x:=m.day) rfl (ae.ai h2.aG (x:=l.day) rfl (aa.dec (fun hd=>?_) (fun hd=>?_)))
 ·rw[if_pos (by omega)];exact⟨rfl,no f12⟩
 rw[if_neg (by omega)];refine aH.of fun w3 _ f3=>?_;have e3:=e2.af f3;have f13:=f12.trans f3;have h3:=h2.af f3;refine ae.ai h3.aG (x:=some ⟨b,0,none⟩) rfl (ae.ai e3 (x:=str m.name) rfl (ae.ai e3 (x:=m.day) rfl (ae.ai e3 (x:=m.val) rfl ?_)));have s3:=f13.size;refine ab.of (Yu h3.wr (fun k U=>by have:=hF k (h.gf k U).1;omega) m.name m.day m.val) ?_;rintro _ w4 ⟨rfl,ZF,f4⟩;have h4:=h3.world f4 ZF;have f14:Fr F w w4:=(f13.mono fun _ _ t=>t.elim).comp f4 fun k _ q=>(h.gf k q).1;refine⟨_,rfl,aa.ne (fun aA=>?_) (fun he=>?_)⟩
 ·rw[if_pos aA];exact⟨rfl,fun h=>absurd h aA,f14⟩
 rw[if_neg (fun t=>t he)];refine ab.of (OI ⟨dl,b,p,G,h4⟩ (fun k U=>by have:=hF k U;have:=f14.size;omega) (by dsimp only;omega) (fun d hd=>Cv ho d hd)) ?_;rintro _ w5 ⟨fl,wl,rfl,_,_,f5⟩;refine⟨(fl,wl,_,()),rfl,?_⟩;have h5:=h4.af f5;split
 ·rename_i aA;exact⟨rfl,fun h=>absurd h aA,f14.dp f5⟩
 ·rename_i he;exact⟨congrArg (fun n=>Value.int .i64 n) (Classical.not_not.1 he),fun _=>⟨dl,b,p,G,h5⟩,f14.dp f5⟩
theorem ZG {w:World}{F:Nat->Prop}{g:Nat}{l:cu}(h:dL w F g l)(hF:∀ k,F k->k<w.heap.size)(ho:lY l)(m:aQ)(dY:Int):
  Ret Tryz.prog 197 #[.pointer (some ⟨g,0,none⟩),gV m.e,.int .i64 dY] w fun r w'=>r=.int .i64 (rl l m dY).2/\((rl l m dY).2=0->dL w' F g (rl l m dY).1)/\Fr F w w':=by
 obtain⟨dl,b,p,G,h⟩:=h;have oV:=ho.num;refine c197 _ m.e dY w _ ?_;unfold C197 rl;refine aq.of fun g1 w1 di ar f1 _=>?_;have e1:kG w1 g1 m:=ar;have h1:=h.af f1;have no:∀ {w':World} {n:Int},Fr none1 w w'->(n=0->dL w' F g l)/\Fr F w w':=fun f=>⟨fun _=>⟨dl,b,p,G,h.af f⟩,f.mono fun _ _ t=>t.elim⟩;refine ae.ai h1.aG (x:=dl) rfl ?_;refine ab.of (ON (rN m) _ h1.cF.rd (by omega) fun d w2 f2 K k=>?_) ?_
 ·refine lC (by kernel_rfl) Tryz.func237 (by kernel_rfl) ((Zz (e1.af f2) d).mono ?_)
  rintro _ w3 ⟨rfl,f3⟩;exact⟨_,rfl,k w3 f3⟩
 rintro _ w2 ⟨⟨i,rfl,hi⟩,f2⟩;have f12:=f1.trans f2;have h2:=h1.af f2;refine⟨i,rfl,?_⟩
 rcases hi with⟨rfl,hn⟩ | ⟨n,d,rfl,hd,hn⟩
 ·have hn:l.cF.find? (fun d=>d.1==m.id)=none:=hn
  rw[hn];exact aa.yes (by decide) ⟨rfl,no f12⟩
 have hn:l.cF.find? (fun d=>d.1==m.id)=some d:=hn;rw[hn];dsimp only;have wQ:=List.mem_of_getElem? hd;refine aa.no (by omega) ?_;refine ae.ai h2.aG (x:=dl) rfl (wX (cks:=Cq) (x:=zS d) h2.cF.rd (by decide) (Cr _) (by rw[List.getElem?_map,hd];rfl) ?_);refine cB (zs:=[.string (⟨#[]⟩:ByteArray),.int .i64 0,.nilIface]) (vs:=mg d) rfl (by simp[mg,od,pc,Tm.bP]) fun g9 w3 Oc nF f3=>?_;refine aH.of fun w4 _ f4=>bb.all ?_;have f14:=(f12.trans f3).trans f4;have h4:=(h2.af f3).af f4;have Cw:=f4.af nF;refine aE.all (ae.ai Cw (x:=str d.1) rfl (aE.all (ae.ai (c:=.raw) Cw (x:=d.2.2.v) rfl (aE.all (ae.ai Cw (x:=d.2.1) rfl (aE.all (ae.ai h4.aG (x:=some ⟨b,0,none⟩) rfl ?_)))))));have uJ:∀ {w':World},Fr none1 w w'->∀ k,G k->k<w'.heap.size:=fun f k U=>by have:=hF k (h.gf k U).1;have:=f.size;omega
 refine ab.of (Cn d.1 d.2.2 d.2.1 (Cv ho d wQ) h4.wr (uJ f14)) ?_;have sM:=(GJ d.1 d.2.2 d.2.1 l.w).2.1;rintro _ w5 ⟨fl,wl,rfl,_,mZ,f5,_,_⟩;have f15:=f14.trans f5;have h5:=h4.af f5;have e5:kG w5 g1 m:=(((e1.af f2).af f3).af f4).af f5;refine⟨(fl,wl,(fm d.1 d.2.2 d.2.1 l.w).2,()),rfl,ak.of f5 ?_⟩;refine ab.of (Zx (H0 m) _ mZ.rd (by omega) fun x w6 f6 K k=>?_) ?_
 ·refine lC (by kernel_rfl) Tryz.func239 (by kernel_rfl) ((ZA (e5.af f6) x).mono ?_)
  rintro _ w7 ⟨rfl,f7⟩;exact⟨_,rfl,k w7 f7⟩
 rintro _ w6 ⟨⟨i,rfl,hi⟩,f6⟩;have f16:=f15.trans f6;have h6:=h5.af f6;refine⟨i,rfl,?_⟩
 rcases hi with⟨rfl,kf⟩ | ⟨n2,x,rfl,hx,kf⟩
 ·have kf:(fm d.1 d.2.2 d.2.1 l.w).1.2.find? (fun x=>x.1&&x.2.2.1==m.label)=none:=kf
  rw[kf];exact aa.yes (by decide) ⟨rfl,no f16⟩
 have kf:(fm d.1 d.2.2 d.2.1 l.w).1.2.find? (fun x=>x.1&&x.2.2.1==m.label)=some x:=kf;rw[kf];dsimp only;refine aa.no (by omega) ?_;refine aH.of fun w7 _ f7=>?_;have f17:=f16.trans f7;have h7:=h6.af f7;have ZH:=((mZ.af f6).af f7).rd;have OO:∀ {K:Addr->Prop},(∀ a,(∀ {j:Nat} {c:Ck} {y:c.C} {M:c.C->Prop},(ma x)[j]? = some (c.val y)->M y->ae c (a.add j) w7 M)->K a)->bK wl.1 wl.2.1 (n2:Int) 5 K:=fun k=>ZD ZH hx k;refine OO fun a ha=>ha (j:=3) (y:=x.2.2.2.1) rfl (ae.ai h7.aG (x:=l.day) rfl (aa.dec (fun hd=>?_) (fun hd=>?_)))
 ·rw[if_pos (by omega)];exact⟨rfl,no f17⟩
 rw[if_neg (by omega)];refine OO fun a ha=>ha (j:=4) (y:=x.2.2.2.2) rfl (aa.ne (fun aA=>?_) (fun he=>?_))
 ·have aA:x.2.2.2.2≠dY:=aA
  rw[if_pos aA];exact⟨rfl,no f17⟩
 have he:x.2.2.2.2=dY:=he;rw[if_neg (fun t=>t he)];refine aH.of fun w8 _ f8=>?_;have f18:=f17.trans f8;have h8:=h7.af f8;have e8:=((e5.af f6).af f7).af f8;refine ae.ai h8.aG (x:=some ⟨b,0,none⟩) rfl (ae.ai e8 (x:=str m.id) rfl (ae.ai e8 (x:=str m.label) rfl (ae.ai e8 (x:=m.val) rfl (ae.ai h8.aG (x:=l.day) rfl ?_))));refine ab.of (Yv h8.wr m.id m.label m.val l.day) ?_;rintro _ w9 ⟨rfl,ZI,f9⟩;have h9:=h8.world f9 ZI;have f19:Fr F w w9:=(f18.mono fun _ _ t=>t.elim).comp f9 fun k _ q=>(h.gf k q).1;refine⟨_,rfl,aa.ne (fun aA=>?_) (fun he=>?_)⟩
 ·have aA:(kP l.w m.id m.label m.val l.day).2≠0:=aA
  rw[if_pos aA];exact⟨rfl,fun h=>absurd h aA,f19⟩
 have he:(kP l.w m.id m.label m.val l.day).2=0:=he;rw[if_neg (fun t=>t he)];refine aH.of fun aK _ f10=>bb.all ?_;have nI:=h9.af f10;have ZJ:¬ G g9:=fun q=>by have:=hF g9 (h.gf g9 q).1;have:=f12.size;omega
 have H2:=f10.af (f9.ag ((((f5.trans f6).trans f7).trans f8).af Cw) ZJ);refine aE.all (ae.ai H2 (x:=str d.1) rfl (aE.all (ae.ai (c:=.raw) H2 (x:=d.2.2.v) rfl (aE.all (ae.ai H2 (x:=d.2.1) rfl (aE.all (ae.ai nI.aG (x:=some ⟨b,0,none⟩) rfl ?_)))))));refine ab.of (Cn d.1 d.2.2 d.2.1 (Cv ho d wQ) nI.wr (fun k U=>by have:=hF k (h.gf k U).1;have:=f19.size;have:=f10.size;omega)) ?_;rintro _ aR ⟨ZK,ZL,rfl,_,_,f11,_,_⟩;refine⟨(ZK,ZL,_,()),rfl,ak.of f11 ?_⟩;have nJ:=nI.af f11;have OP:=(f19.dp f10).dp f11;dsimp only;split
 ·rename_i aA;exact⟨rfl,fun h=>absurd h aA,OP⟩
 ·rename_i he;exact⟨congrArg (fun n=>Value.int .i64 n) (Classical.not_not.1 he),fun _=>⟨dl,b,p,G,nJ⟩,OP⟩
abbrev ir:List Ck:=[.int .i64,.str,.str,.str,.str,.int .i64,.int .i64,.raw]
theorem ZM (m:aQ)(hm:aJ m.t<=1000000){w:World}(ht:TabW w):Ret Tryz.prog 70 #[gV m.e] w fun r w'=>r=.int .i64 (iF m)/\Fr none1 w w':=
 DX m.e (wz m.t) (bh m.t).2 w fun _ wa fa=>(AZ m.t hm wa (ht.af fa)).mono fun r w' ⟨h,f⟩=>⟨⟨_,h⟩,f⟩
theorem ZN {l:cu}(ho:lY l)(d:Int)(c:List UInt8):-980000000000000<=l.nE d c/\l.nE d c<=980000000000000:=by
 obtain⟨a1,a2,a3⟩:=GK ho;obtain⟨p1,p2⟩:=GM ho d c;have:=B3 d c l.all.1.1 (-l.jG d c) a3;unfold cu.nE;omega
theorem ZO {w:World}{F:Nat->Prop}{g:Nat}{l:cu}(h:dL w F g l)(hF:∀ k,F k->k<w.heap.size)(ho:lY l)(m:aQ):
  Ret Tryz.prog 198 #[.pointer (some ⟨g,0,none⟩),gV m.e] w fun r w'=>r=.int .i64 (sI l m).2/\dL w' F g (sI l m).1/\Fr F w w':=by
 have h0:=h;obtain⟨dl,b,p,G,h⟩:=h;refine c198 _ m.e w _ ?_;unfold C198 sI;refine aq.of fun g1 w1 di ar f1 _=>?_;have e1:kG w1 g1 m:=ar;have no:∀ {w':World},Fr none1 w w'->dL w' F g l/\Fr F w w':=fun f=>⟨⟨dl,b,p,G,h.af f⟩,f.mono fun _ _ t=>t.elim⟩;refine ae.ai e1 (x:=m.day) rfl (ae.ai e1 (x:=str m.cur) rfl ?_);refine ab.of (Zw (h0.af f1) (fun k U=>by have:=hF k U;have:=f1.size;omega) ho m.day m.cur) ?_;rintro _ w2 ⟨rfl,f2⟩;obtain⟨r1,r2⟩:=ZN ho m.day m.cur;obtain⟨p1,p2⟩:=GM ho m.day m.cur;refine⟨_,rfl,aH.of fun w3 _ f3=>?_⟩;have f13:=(f1.trans f2).trans f3;have h3:=h.af f13;have e3:=(e1.af f2).af f3;refine ae.ai e3 (x:=m.day) rfl (ae.ai h3.aG (x:=l.day) rfl (aa.dec (fun hd=>?_) (fun hd=>?_)))
 ·rw[if_pos (by omega)];exact⟨rfl,no f13⟩
 rw[if_neg (by omega)];refine aa.eq (fun hz=>?_) (fun hz=>?_)
 ·rw[if_pos hz];exact⟨rfl,no f13⟩
 rw[if_neg hz];refine ae.ai e3 (x:=m.val) rfl (aa.ne (fun hv=>?_) (fun hv=>?_))
 ·rw[if_pos hv];exact⟨rfl,no f13⟩
 rw[if_neg (fun t=>t hv)];refine aH.of fun w4 _ f4=>bb.of (fun k=>k=g\/k=g1) ?_;have f14:=f13.trans f4;have h4:=h3.af f4;have e4:=e3.af f4;have gp:¬ (only p) g:=fun q=>h.pf.2 (Eq.symm q);have ZP:g1≠p:=fun q=>by have:=hF p h.pf.1;omega
 have fin:∀ {w6 w7:World},Fr (only p) w4 w6->Fr (only p) w6 w7->fG Ct rF w7 p (ji (m.day,m.cur) (l.jG m.day m.cur+l.nE m.day m.cur) l.fC) ->
   (Value.int .i64 0=.int .i64 0/\dL w7 F g { l with fC:=ji (m.day,m.cur) (l.jG m.day m.cur+l.nE m.day m.cur) l.fC }/\Fr F w w7):=fun{w6 w7} f6 f7 hm=>
  ⟨rfl,⟨dl,b,p,G,(f6.trans f7).ag h4.aG gp,h4.cF.ag (f6.trans f7) (fun k U q=>(h.ng k U).2.2.1 q),h4.wr.ag (f6.trans f7) (fun k U q=>(h.gf k U).2.2 q),hm,h.ng,h.gf,h.pf,h.mem⟩,(f14.mono fun _ _ t=>t.elim).comp (f6.trans f7) fun k _ q=>by have:k=p:=q;rw[this];exact h.pf.1⟩
 have ag:∀ {w':World} {K:Prop},Fr (only p) w4 w'->K->ak (fun k=>k=g\/k=g1) w4 w' K:=fun f k=>ak.on f (fun k U q=>by have:k=p:=q;rcases U with rfl | rfl;exact h.pf.2 this.symm;exact ZP this) k
 refine⟨by rw[dw];exact .inl rfl,ae.ai h4.aG (x:=some p) rfl ⟨by rw[dw];exact .inr rfl,ae.ai e4 (x:=m.day) rfl ⟨by rw[dw];exact .inr rfl,ae.ai e4 (x:=str m.cur) rfl ⟨?a,?b⟩⟩⟩⟩
 case' a=>
  refine HY h4.fC m.day m.cur (ag (Fr.refl _ _) ?_);obtain⟨w6,n,l2,o9,f6,_,OQ,_,cV⟩:=N3 (ev:=rF) (z:=0) HV Tryz.underlying173 (by kernel_rfl) h4.fC (m.day,m.cur);refine⟨((bd (m.day,m.cur) l.fC).getD 0,n,()),w6,o9,?_⟩;have e:(bd (m.day,m.cur) l.fC).getD 0=l.jG m.day m.cur:=rfl;rw[e,wI (by omega) (by omega)];obtain⟨w7,o8,f7,_,zK⟩:=cV (l.jG m.day m.cur+l.nE m.day m.cur);exact⟨w7,o8,fin f6 f7 zK⟩
 case' b=>
  obtain⟨w6,n,l2,o9,f6,_,OQ,mI,cV⟩:=N3 (ev:=rF) (z:=0) HV Tryz.underlying173 (by kernel_rfl) h4.fC (m.day,m.cur);refine⟨((bd (m.day,m.cur) l.fC).getD 0,n,()),w6,o9,ag f6 ?_⟩;refine HY OQ m.day m.cur ?_;rw[mI];have e:(bd (m.day,m.cur) l.fC).getD 0=l.jG m.day m.cur:=rfl;rw[e,wI (by omega) (by omega)];obtain⟨w7,o8,f7,_,zK⟩:=cV (l.jG m.day m.cur+l.nE m.day m.cur);exact⟨w7,o8,fin f6 f7 zK⟩
theorem OR {w:World}{F:Nat->Prop}{g:Nat}{l:cu}(h:dL w F g l)(hF:∀ k,F k->k<w.heap.size)(ho:lY l)(m:aQ)(hm:aJ m.t<=1000000)(ht:TabW w)(dY:Int):
  Ret Tryz.prog 152 #[.pointer (some ⟨g,0,none⟩),gV m.e,.int .i64 dY] w fun r w'=>r=.int .i64 (gZ l m dY).2/\((gZ l m dY).2=0->dL w' (fun k=>F k\/cq w w' k) g (gZ l m dY).1)/\Fr F w w':=by
 have oV:=ho.num;refine c152 _ m.e dY w _ ?_;unfold C152 gZ;refine aq.of fun g1 w1 di ar f1 _=>?_;have e1:kG w1 g1 m:=ar;have bad:∀ {w':World} {n:Int} {X:cu},n≠0->Fr none1 w w'->(n=0->dL w' (fun k=>F k\/cq w w' k) g X)/\Fr F w w':=fun hn f=>⟨fun h=>absurd h hn,f.mono fun _ _ t=>t.elim⟩;refine bQ.of (fun s w'=>s.1=decide (dY≠0/\dY≠1)/\w1=w') ?_ ?_
 ·refine aa.ne (fun aA=>⟨?_,rfl⟩) (fun he=>⟨?_,rfl⟩)
  ·by_cases h1:dY=1
   ·subst h1;rfl
   ·rw[decide_eq_true ⟨aA,h1⟩];simpa using h1
  ·rw[decide_eq_false (fun t=>t.1 he)]
 rintro _ ⟨s,_⟩ _ ⟨hs,rfl⟩;dsimp only at hs ⊢;subst hs;refine aa.dec (fun hb=>?_) (fun hb=>?_)
 ·rw[if_pos hb];exact⟨rfl,bad (show(1:Int)≠0 by decide) f1⟩
 rw[if_neg hb];refine az.aG (cks:=ir) (x:=m.e) e1 ?_;refine ab.of (ZM m hm (ht.af f1)) ?_;rintro _ w2 ⟨rfl,f2⟩;have f12:=f1.trans f2;have e2:=e1.af f2;refine⟨_,rfl,aa.ne (fun aA=>?_) (fun he=>?_)⟩
 ·have aA:iF m≠0:=aA
  rw[if_pos aA];exact⟨rfl,bad aA f12⟩
 rw[if_neg (fun t=>t he)];have h2:=h.af f12;have Cx:∀ k,F k->k<w2.heap.size:=fun k U=>by have:=hF k U;have:=f12.size;omega
 have eW:=f12.size;have fF:∀ {w':World},Fr F w2 w'->Fr F w w':=fun f=>f12.eG f;refine ae.ai e2 (x:=m.kind) rfl (aa.eq (fun U=>?_) (fun U=>?_))
 ·rw[if_pos U]
  refine az.aG (cks:=ir) (x:=m.e) e2 (ab.of (ZB h2 Cx (by omega) m hm) ?_);rintro _ w3 ⟨rfl,h3,f3⟩;exact⟨_,rfl,rfl,fun _=>h3.mono fun k U=>U.imp_right fun q=>⟨by have:=q.1;omega,q.2⟩,fF f3⟩
 have U:m.kind≠2:=U;rw[if_neg U];refine aa.eq (fun U=>?_) (fun U=>?_)
 ·rw[if_pos U]
  refine az.aG (cks:=ir) (x:=m.e) e2 (ab.of (ZE h2 Cx ho m) ?_);rintro _ w3 ⟨rfl,h3,f3⟩;exact⟨_,rfl,rfl,fun q=>(h3 q).mono fun k U=>.inl U,fF f3⟩
 have U:m.kind≠3:=U;rw[if_neg U];refine aa.eq (fun U=>?_) (fun U=>?_)
 ·rw[if_pos U]
  refine az.aG (cks:=ir) (x:=m.e) e2 (ab.of (ZG h2 Cx ho m dY) ?_);rintro _ w3 ⟨rfl,h3,f3⟩;exact⟨_,rfl,rfl,fun q=>(h3 q).mono fun k U=>.inl U,fF f3⟩
 have U:m.kind≠4:=U;rw[if_neg U];refine aa.eq (fun U=>?_) (fun U=>?_)
 ·rw[if_pos U]
  refine az.aG (cks:=ir) (x:=m.e) e2 (ab.of (ZO h2 Cx ho m) ?_);rintro _ w3 ⟨rfl,h3,f3⟩;exact⟨_,rfl,rfl,fun q=>h3.mono fun k U=>.inl U,fF f3⟩
 have U:m.kind≠6:=U;rw[if_neg U];refine aa.eq (fun U=>?_) (fun U=>?_)
 ·rw[if_pos U]
  refine aH.of fun w3 _ f3=>?_;have f13:=f12.trans f3;obtain⟨dl,b,p,G,h⟩:=h;have h3:=h.af f13;have e3:=e2.af f3;refine ae.ai e3 (x:=m.day) rfl (ae.ai h3.aG (x:=l.day) rfl (aa.dec (fun hd=>?_) (fun hd=>?_)))
  ·rw[if_pos hd];exact⟨rfl,bad (show(7:Int)≠0 by decide) f13⟩
  rw[if_neg hd];refine ae.ai e3 (x:=m.day) rfl (ay.ai h3.aG (show 0<4 by decide) rfl fun w4 dm f4 s4=>⟨rfl,fun _=>⟨dl,b,p,G,dm,h3.cF.ag f4 (fun k U q=>(h.ng k U).2.1 q),h3.wr.ag f4 (fun k U q=>(h.gf k U).2.1 q),h3.fC.ag f4 (fun q=>h.pf.2 q),fun k U=>⟨.inl (h.ng k U).1,(h.ng k U).2⟩,fun k U=>⟨.inl (h.gf k U).1,(h.gf k U).2⟩,⟨.inl h.pf.1,h.pf.2⟩,.inl h.mem⟩,?_⟩);exact(f13.mono fun _ _ t=>t.elim).comp f4 fun k _ q=>by have:k=g:=q;rw[this];exact h.mem
 have U:m.kind≠5:=U;rw[if_neg U];exact⟨rfl,fun _=>h2.mono fun k U=>.inl U,f12.mono fun _ _ t=>t.elim⟩
theorem OS {w:World}{F:Nat->Prop}{g:Nat}{l:cu}(h:dL w F g l)(ho:lY l)(m:aQ)(hm:aJ m.t<=1000000)(ht:TabW w)(dY:Int):
  Ret Tryz.prog 98 #[.pointer (some ⟨g,0,none⟩),gV m.e,.int .i64 dY] w fun r w'=>r=.int .i64 (mN l m dY)/\Fr none1 w w':=by
 have oV:=ho.num;refine c98 _ m.e dY w _ ?_;unfold C98 mN;refine aq.of fun g1 w1 di ar f1 _=>aH.of fun w2 _ f2=>bb.of (fun k=>k=g1) ?_;have e2:kG w2 g1 m:=f2.af ar;have f12:=f1.trans f2;refine⟨rfl,az.aG (cks:=ir) (x:=m.e) e2 ?_⟩;refine ab.of (HW (h.af f12) (by omega)) ?_;rintro _ w3 ⟨c,rfl,hc,f3⟩;refine⟨some ⟨c,0,none⟩,rfl,ak.of f3 ?_⟩;refine ab.of (OR hc (fun k U=>U.2) ho m hm (ht.af (f12.trans f3)) dY) ?_;rintro _ w4 ⟨rfl,_,f4⟩;exact⟨_,rfl,ak.on f4 (fun k U q=>by have:=q.1;have:=f2.size;have:=cj ar;omega) ⟨rfl,(f12.trans f3).comp f4 fun k U q=>by have:=q.1;have:=f12.size;omega⟩⟩
theorem ZQ {w:World}{F:Nat->Prop}{g:Nat}{l:cu}(h:dL w F g l)(hF:∀ k,F k->k<w.heap.size)(ho:lY l)(m:aQ)(hm:aJ m.t<=1000000)(ht:TabW w)(dY:Int):
  Ret Tryz.prog 190 #[.pointer (some ⟨g,0,none⟩),gV m.e,.int .i64 dY] w fun r w'=>r=.int .i64 (gZ l m dY).2/\dL w' (fun k=>F k\/cq w w' k) g (gZ l m dY).1/\Fr (only g) w w':=by
 have oV:=ho.num;refine c190 _ m.e dY w _ ?_;unfold C190;refine aq.of fun g1 w1 di ar f1 _=>?_;have e1:kG w1 g1 m:=ar;refine ab.of (HW (h.af f1) (by omega)) ?_;rintro _ w2 ⟨c,rfl,hc,f2⟩;have f12:=f1.trans f2;refine⟨some ⟨c,0,none⟩,rfl,az.aG (cks:=ir) (x:=m.e) (e1.af f2) ?_⟩;refine ab.of (OR hc (fun k U=>U.2) ho m hm (ht.af f12) dY) ?_;rintro _ w3 ⟨rfl,h3,f3⟩;have s1:=f1.size;have s2:=f2.size;have s3:=f3.size;have f13:Fr none1 w w3:=f12.comp f3 fun k U q=>by have:=q.1;omega
 refine⟨_,rfl,aa.eq (fun he=>?_) (fun he=>?_)⟩
 ·have he:(gZ l m dY).2=0:=he
  have h3:=h3 he;generalize(gZ l m dY).1=l2 at *;obtain⟨dl,b,p,G,h3⟩:=h3;obtain⟨dl0,b0,p0,G0,h⟩:=h;have gl:=hF g h.mem;have nw:∀ k,(cq w1 w2 k\/cq w2 w3 k)->w.heap.size<=k/\k<w3.heap.size:=fun k U=>by rcases U with q | q<;>exact⟨by have:=q.1;omega,by have:=q.2;omega⟩
  refine az.aG (cks:=[.int .i64,.ah,.ptr,.map]) (x:=(l2.day,dl,some ⟨b,0,none⟩,some p,())) h3.aG ?_;refine av.aG (f13.af h.aG) rfl rfl fun w4 dm f4 s4=>?_;refine⟨rfl,⟨dl,b,p,G,dm,h3.cF.ag f4 (fun k U q=>?_),h3.wr.ag f4 (fun k U q=>?_),h3.fC.ag f4 (fun q=>?_),fun k U=>?_,fun k U=>?_,?_,.inl h.mem⟩,f13.eG f4⟩
  ·have:=nw k (h3.ng k U).1;have:k=g:=q;omega
  ·have:=nw k (h3.gf k U).1;have:k=g:=q;omega
  ·have:=nw p h3.pf.1;have:p=g:=q;omega
  ·have q:=nw k (h3.ng k U).1
   exact⟨.inr ⟨q.1,by omega⟩,by omega,(h3.ng k U).2.2⟩
  ·have q:=nw k (h3.gf k U).1
   exact⟨.inr ⟨q.1,by omega⟩,by omega,(h3.gf k U).2.2⟩
  ·have q:=nw p h3.pf.1
   exact⟨.inr ⟨q.1,by omega⟩,by omega⟩
 ·have he:(gZ l m dY).2≠0:=he
  rw[TC he];exact⟨rfl,(h.af f13).mono fun k U=>.inl U,f13.mono fun _ _ t=>t.elim⟩
theorem ZR {kb:List UInt8}(U:kb.length=16)(l hd z:Sl):(mf kb l hd).toArray.setIfInBounds 16 (.slice z.1 z.2.1 z.2.2)=(mf kb z hd).toArray:=by
 apply Array.ext';unfold mf;have:=kF (kb:=kb);rw[Array.toList_setIfInBounds,List.set_append_right _ _ (by omega)];simp[this,U]
theorem ZS {kb:List UInt8}(U:kb.length=16)(l hd z:Sl):(mf kb l hd).toArray.setIfInBounds 17 (.slice z.1 z.2.1 z.2.2)=(mf kb l z).toArray:=by
 apply Array.ext';unfold mf;have:=kF (kb:=kb);rw[Array.toList_setIfInBounds,List.set_append_right _ _ (by omega)];simp[this,U]
theorem OT {kb:List UInt8}(U:kb.length=16)(l hd:Sl):(mf kb l hd).toArray.size=18:=by
 unfold mf;have:=kF (kb:=kb);simp[this,U]
def tg (kb:List UInt8)(es:List fE)(hs:List Int)(x:fE):Int:=if 64<=es.length then 5 else(iV kb (hs.getD es.length 0) x).2
theorem ZT {w:World}{F:Nat->Prop}{c:Nat}{kb:List UInt8}{es:List fE}{hs:List Int}(U:kb.length=16)(h:j2 w F c kb es hs)(hF:∀ k,F k->k<w.heap.size)(hl:hs.length=es.length+1)(pW:es.length<=1000)(hr:∀ n∈hs,0<=n/\n<18446744073709551616)
  {x:fE} (hx:dD x.1) (ht:TabW w) :
  Ret Tryz.prog 189 #[.pointer (some ⟨c,0,none⟩),.agg (nf x).toArray] w fun r w'=>r=.int .i64 (tg kb es hs x)/\(tg kb es hs x=0->j2 w' (fun k=>F k\/cq w w' k) c kb (es++[x]) (hs++[(iV kb (hs.getD es.length 0) x).1]))/\Fr (only c) w w':=by
 have hR:=h;obtain⟨⟨l,hd,h1,h2,h3,h4,h5⟩,hm⟩:=h;refine c189 _ (mP x.1.e x.2) w _ ?_;unfold C189 tg;refine aq.of fun g1 wa di ar fa _=>?_;have e2:=h2.len;rw[pI] at e2;have bad:∀ {w':World} {n:Int} {P:Prop},n≠0->Fr none1 w w'->(n=0->P)/\Fr (only c) w w':=fun hn f=>⟨fun t=>absurd t hn,f.mono fun _ _ t=>t.elim⟩;refine ae.ai (fa.af h1) (x:=l) (by rw[Nat.zero_add];exact(te U l hd).1) (aa.dec (fun H3=>?_) (fun H3=>?_))
 ·rw[if_pos (by omega)];exact⟨rfl,bad (by decide) fa⟩
 rw[if_neg (by omega)];refine aH.of fun wb _ fb=>bb.all ?_;have zV:=fa.trans fb;refine aE.all (OE U (zV.af h1) (aE.all (az.aG (cks:=qn) (x:=mP x.1.e x.2) (fb.af ar) ?_)));refine ab.of (OF U (hR.af zV) hl pW) ?_;have hh:0<=hs.getD es.length 0/\hs.getD es.length 0<18446744073709551616:=by
  rw[List.getD_eq_getElem?_getD,List.getElem?_eq_getElem (show es.length<hs.length by omega)];exact hr _ (List.getElem_mem _)
 generalize hs.getD es.length 0=yz at *;rintro _ wc ⟨rfl,fc⟩;refine⟨_,rfl,ak.of fc ?_⟩;refine ab.of (Zo U hh.1 hh.2 hx (ht.af (zV.trans fc))) ?_;rintro _ wd ⟨rfl,fd⟩;generalize iV kb yz x=N at *;obtain⟨n,e⟩:=N;refine⟨(n,e,()),rfl,aa.ne (fun aA=>⟨rfl,bad aA ((zV.trans fc).trans fd)⟩) (fun he=>?_)⟩;have he:e=0:=he;subst he;refine aH.of fun w0 _ fe=>bb.of (fun k=>k<w0.heap.size) ?_;have f0:Fr none1 w w0:=((zV.trans fc).trans fd).trans fe;have hc:=f0.af h1;have HL:=h2.af f0;have HH:=h3.af f0;have z0:=f0.size;have dQ:=cj hc;have rh:=((fc.trans fd).trans fe).af (fb.af ar);have lr:=cj rh;have BL:∀ k,au l k->k<w0.heap.size:=fun k U=>aD.lt HL U;have BH:∀ k,au hd k->k<w0.heap.size:=fun k U=>aD.lt HH U;have e3:=h3.len;rw[List.length_map,Nat.mul_one] at e3;refine⟨by rw[dw];exact dQ,ae.ai hc (x:=l) (by rw[Nat.zero_add];exact(te U l hd).1) ⟨lr,az.aG (cks:=qn) (x:=mP x.1.e x.2) rh ⟨by rw[dw];exact dQ,ae.ai hc (x:=hd) (by rw[Nat.zero_add];exact(te U l hd).2) ?_⟩⟩⟩;have fin:∀ {w9:World} {z q:Sl},Fr none1 w0 w9->w9.heap[c]? = some (.cells (mf kb l hd).toArray 142 (0,0))->aD w9 110 9 z (rM es++nf x)->aD w9 40 1 q (hs.map HT++[.int .u64 n])->(∀ k,au z k->w0.heap.size<=k)->(∀ k,au q k->w0.heap.size<=k) ->
   ay ((⟨c,0,none⟩:Addr).add 16) (.slice z.1 z.2.1 z.2.2) w9 fun aK=>ay ((⟨c,0,none⟩:Addr).add 17) (.slice q.1 q.2.1 q.2.2) aK fun aR=>(Value.int .i64 0=.int .i64 0/\((0:Int)=0->j2 aR (fun k=>F k\/cq w aR k) c kb (es++[x]) (hs++[n]))/\Fr (only c) w aR):=by
  intro w9 z q f9 ZU hz hq zb qb;refine ay.ai ZU (by rw[OT U];decide) rfl fun aK rr f10 yS=>?_;rw[Nat.zero_add,ZR U] at rr;refine ay.ai rr (by rw[OT U];decide) rfl fun aR pw f11 rI=>?_;rw[Nat.zero_add,ZS U] at pw;have ff:=f10.trans f11;have s9:=f9.size;refine⟨rfl,fun _=>⟨⟨z,q,pw,?_,?_,fun k fL=>?_,fun k fL=>?_⟩,.inl hm⟩,(f0.trans f9).eG ff⟩
  ·have:rM (es++[x])=rM es++nf x:=by unfold rM;simp
   rw[this];exact hz.ag ff fun k fL t=>by have:=zb k fL;have:k=c:=t;omega
  ·rw[List.map_append]
   exact hq.ag ff fun k fL t=>by have:=qb k fL;have:k=c:=t;omega
  ·have:=zb k fL;have:=aD.lt hz fL;exact⟨.inr ⟨by omega,by omega⟩,by omega⟩
  ·have:=qb k fL;have:=aD.lt hq fL;exact⟨.inr ⟨by omega,by omega⟩,by omega⟩
 have FT:=Fr.refl none1 w0;refine⟨?_,?_⟩
 ·skip
  refine ab.of (xc HL.rd (xd _) (by omega)) ?_;rintro _ w1 ⟨u,rfl,Hu,f,xf⟩;refine⟨u,rfl,?_⟩;have s1:=f.size
  try refine ak.of f ?_
  have Bu:∀ k,au u k->w0.heap.size<=k/\k<w1.heap.size:=fun k U=>⟨xf k U,aD.lt Hu U⟩;have FT:=FT.trans f;have hc:=f.af hc;have HL:=HL.af f;have HH:=HH.af f;refine⟨?_,?_⟩
  ·skip
   obtain⟨y,w2,hr,Hy,gM,f,xf⟩:=oI (P:=Tryz.prog) (w:=w1) na (nf x) rfl (by decide);refine⟨y,w2,hr,?_⟩;have s2:=f.size
   try refine ak.of f ?_
   have By:∀ k,au y k->w1.heap.size<=k/\k<w2.heap.size:=fun k U=>⟨xf k U,aD.lt Hy U⟩;have FT:=FT.trans f;have hc:=f.af hc;have HL:=HL.af f;have HH:=HH.af f;have Hu:=Hu.af f;refine⟨?_,?_⟩
   ·skip
    have cS:=Hu.len;rw[pI] at cS;obtain⟨z,w3,hr,Hz,_,f,xf⟩:=gb na 139 Hu Hy.rd (rL x) (by omega);refine⟨z,w3,hr,?_⟩;have s3:=f.size
    try refine ak.on f (fun k U t=>by have U:k<w0.heap.size:=U;have:=Bu k t;omega) ?_
    have Bz:∀ k,au z k->(w0.heap.size<=k/\k<w1.heap.size)\/(w2.heap.size<=k/\k<w3.heap.size):=fun k U=>(xf k U).elim (fun t=>.inl (Bu k t)) (fun t=>.inr ⟨t,aD.lt Hz U⟩);have FT:=FT.comp f fun k U t=>by have:=Bu k t;omega
    have hc:=f.ag hc fun t=>by have:=Bu c t;omega
    have HL:=HL.ag f fun k U t=>by have:=BL k U;have:=Bu k t;omega
    have HH:=HH.ag f fun k U t=>by have:=BH k U;have:=Bu k t;omega
    refine⟨?_,?_⟩
    ·skip
     refine ab.of (pH HH.rd (pJ _) (by omega)) ?_;rintro _ w4 ⟨v,rfl,Hv,f,xf⟩;refine⟨v,rfl,?_⟩;have s4:=f.size
     try refine ak.of f ?_
     have Bv:∀ k,au v k->w3.heap.size<=k/\k<w4.heap.size:=fun k U=>⟨xf k U,aD.lt Hv U⟩;have FT:=FT.trans f;have hc:=f.af hc;have HL:=HL.af f;have HH:=HH.af f;have Hz:=Hz.af f;obtain⟨p,w5,hr,Hp,nH,f,xf⟩:=kX (P:=Tryz.prog) (w:=w4) jq (.int .u64 n) rfl;refine⟨p,w5,hr,?_⟩;have s5:=f.size
     try refine ak.of f ?_
     have Bp:∀ k,au p k->w4.heap.size<=k/\k<w5.heap.size:=fun k U=>⟨xf k U,aD.lt Hp U⟩;have FT:=FT.trans f;have hc:=f.af hc;have HL:=HL.af f;have HH:=HH.af f;have Hz:=Hz.af f;have Hv:=Hv.af f;have cC:=Hv.len;rw[List.length_map,Nat.mul_one] at cC;obtain⟨q,w6,hr,Hq,_,f,xf⟩:=gb jq 140 Hv Hp.rd (by intro t ht;simp at ht;subst ht;rfl) (by omega);refine⟨q,w6,hr,?_⟩;have s6:=f.size
     try refine ak.on f (fun k U t=>by have U:k<w0.heap.size:=U;have:=Bv k t;omega) ?_
     have Bq:∀ k,au q k->(w3.heap.size<=k/\k<w4.heap.size)\/(w5.heap.size<=k/\k<w6.heap.size):=fun k U=>(xf k U).elim (fun t=>.inl (Bv k t)) (fun t=>.inr ⟨t,aD.lt Hq U⟩);have FT:=FT.comp f fun k U t=>by have:=Bv k t;omega
     have hc:=f.ag hc fun t=>by have:=Bv c t;omega
     have HL:=HL.ag f fun k U t=>by have:=BL k U;have:=Bv k t;omega
     have HH:=HH.ag f fun k U t=>by have:=BH k U;have:=Bv k t;omega
     have Hz:=Hz.ag f fun k U t=>by have:=Bz k U;have:=Bv k t;omega
     exact fin FT hc Hz Hq (fun k U=>by have:=Bz k U;omega) (fun k U=>by have:=Bq k U;omega)
    ·skip
     obtain⟨p,w4,hr,Hp,nH,f,xf⟩:=kX (P:=Tryz.prog) (w:=w3) jq (.int .u64 n) rfl;refine⟨p,w4,hr,?_⟩;have s4:=f.size
     try refine ak.of f ?_
     have Bp:∀ k,au p k->w3.heap.size<=k/\k<w4.heap.size:=fun k U=>⟨xf k U,aD.lt Hp U⟩;have FT:=FT.trans f;have hc:=f.af hc;have HL:=HL.af f;have HH:=HH.af f;have Hz:=Hz.af f;refine ab.of (pH HH.rd (pJ _) (by omega)) ?_;rintro _ w5 ⟨v,rfl,Hv,f,xf⟩;refine⟨v,rfl,?_⟩;have s5:=f.size
     try refine ak.of f ?_
     have Bv:∀ k,au v k->w4.heap.size<=k/\k<w5.heap.size:=fun k U=>⟨xf k U,aD.lt Hv U⟩;have FT:=FT.trans f;have hc:=f.af hc;have HL:=HL.af f;have HH:=HH.af f;have Hz:=Hz.af f;have Hp:=Hp.af f;have cC:=Hv.len;rw[List.length_map,Nat.mul_one] at cC;obtain⟨q,w6,hr,Hq,_,f,xf⟩:=gb jq 140 Hv Hp.rd (by intro t ht;simp at ht;subst ht;rfl) (by omega);refine⟨q,w6,hr,?_⟩;have s6:=f.size
     try refine ak.on f (fun k U t=>by have U:k<w0.heap.size:=U;have:=Bv k t;omega) ?_
     have Bq:∀ k,au q k->(w4.heap.size<=k/\k<w5.heap.size)\/(w5.heap.size<=k/\k<w6.heap.size):=fun k U=>(xf k U).elim (fun t=>.inl (Bv k t)) (fun t=>.inr ⟨t,aD.lt Hq U⟩);have FT:=FT.comp f fun k U t=>by have:=Bv k t;omega
     have hc:=f.ag hc fun t=>by have:=Bv c t;omega
     have HL:=HL.ag f fun k U t=>by have:=BL k U;have:=Bv k t;omega
     have HH:=HH.ag f fun k U t=>by have:=BH k U;have:=Bv k t;omega
     have Hz:=Hz.ag f fun k U t=>by have:=Bz k U;have:=Bv k t;omega
     exact fin FT hc Hz Hq (fun k U=>by have:=Bz k U;omega) (fun k U=>by have:=Bq k U;omega)
   ·skip
    obtain⟨p,w3,hr,Hp,nH,f,xf⟩:=kX (P:=Tryz.prog) (w:=w2) jq (.int .u64 n) rfl;refine⟨p,w3,hr,?_⟩;have s3:=f.size
    try refine ak.of f ?_
    have Bp:∀ k,au p k->w2.heap.size<=k/\k<w3.heap.size:=fun k U=>⟨xf k U,aD.lt Hp U⟩;have FT:=FT.trans f;have hc:=f.af hc;have HL:=HL.af f;have HH:=HH.af f;have Hu:=Hu.af f;have Hy:=Hy.af f;have cS:=Hu.len;rw[pI] at cS;obtain⟨z,w4,hr,Hz,_,f,xf⟩:=gb na 139 Hu Hy.rd (rL x) (by omega);refine⟨z,w4,hr,?_⟩;have s4:=f.size
    try refine ak.on f (fun k U t=>by have U:k<w0.heap.size:=U;have:=Bu k t;omega) ?_
    have Bz:∀ k,au z k->(w0.heap.size<=k/\k<w1.heap.size)\/(w3.heap.size<=k/\k<w4.heap.size):=fun k U=>(xf k U).elim (fun t=>.inl (Bu k t)) (fun t=>.inr ⟨t,aD.lt Hz U⟩);have FT:=FT.comp f fun k U t=>by have:=Bu k t;omega
    have hc:=f.ag hc fun t=>by have:=Bu c t;omega
    have HL:=HL.ag f fun k U t=>by have:=BL k U;have:=Bu k t;omega
    have HH:=HH.ag f fun k U t=>by have:=BH k U;have:=Bu k t;omega
    have Hp:=Hp.ag f fun k U t=>by have:=Bp k U;have:=Bu k t;omega
    refine ab.of (pH HH.rd (pJ _) (by omega)) ?_;rintro _ w5 ⟨v,rfl,Hv,f,xf⟩;refine⟨v,rfl,?_⟩;have s5:=f.size
    try refine ak.of f ?_
    have Bv:∀ k,au v k->w4.heap.size<=k/\k<w5.heap.size:=fun k U=>⟨xf k U,aD.lt Hv U⟩;have FT:=FT.trans f;have hc:=f.af hc;have HL:=HL.af f;have HH:=HH.af f;have Hp:=Hp.af f;have Hz:=Hz.af f;have cC:=Hv.len;rw[List.length_map,Nat.mul_one] at cC;obtain⟨q,w6,hr,Hq,_,f,xf⟩:=gb jq 140 Hv Hp.rd (by intro t ht;simp at ht;subst ht;rfl) (by omega);refine⟨q,w6,hr,?_⟩;have s6:=f.size
    try refine ak.on f (fun k U t=>by have U:k<w0.heap.size:=U;have:=Bv k t;omega) ?_
    have Bq:∀ k,au q k->(w4.heap.size<=k/\k<w5.heap.size)\/(w5.heap.size<=k/\k<w6.heap.size):=fun k U=>(xf k U).elim (fun t=>.inl (Bv k t)) (fun t=>.inr ⟨t,aD.lt Hq U⟩);have FT:=FT.comp f fun k U t=>by have:=Bv k t;omega
    have hc:=f.ag hc fun t=>by have:=Bv c t;omega
    have HL:=HL.ag f fun k U t=>by have:=BL k U;have:=Bv k t;omega
    have HH:=HH.ag f fun k U t=>by have:=BH k U;have:=Bv k t;omega
    have Hz:=Hz.ag f fun k U t=>by have:=Bz k U;have:=Bv k t;omega
    exact fin FT hc Hz Hq (fun k U=>by have:=Bz k U;omega) (fun k U=>by have:=Bq k U;omega)
  ·skip
   obtain⟨p,w2,hr,Hp,nH,f,xf⟩:=kX (P:=Tryz.prog) (w:=w1) jq (.int .u64 n) rfl;refine⟨p,w2,hr,?_⟩;have s2:=f.size
   try refine ak.of f ?_
   have Bp:∀ k,au p k->w1.heap.size<=k/\k<w2.heap.size:=fun k U=>⟨xf k U,aD.lt Hp U⟩;have FT:=FT.trans f;have hc:=f.af hc;have HL:=HL.af f;have HH:=HH.af f;have Hu:=Hu.af f;obtain⟨y,w3,hr,Hy,gM,f,xf⟩:=oI (P:=Tryz.prog) (w:=w2) na (nf x) rfl (by decide);refine⟨y,w3,hr,?_⟩;have s3:=f.size
   try refine ak.of f ?_
   have By:∀ k,au y k->w2.heap.size<=k/\k<w3.heap.size:=fun k U=>⟨xf k U,aD.lt Hy U⟩;have FT:=FT.trans f;have hc:=f.af hc;have HL:=HL.af f;have HH:=HH.af f;have Hu:=Hu.af f;have Hp:=Hp.af f;have cS:=Hu.len;rw[pI] at cS;obtain⟨z,w4,hr,Hz,_,f,xf⟩:=gb na 139 Hu Hy.rd (rL x) (by omega);refine⟨z,w4,hr,?_⟩;have s4:=f.size
   try refine ak.on f (fun k U t=>by have U:k<w0.heap.size:=U;have:=Bu k t;omega) ?_
   have Bz:∀ k,au z k->(w0.heap.size<=k/\k<w1.heap.size)\/(w3.heap.size<=k/\k<w4.heap.size):=fun k U=>(xf k U).elim (fun t=>.inl (Bu k t)) (fun t=>.inr ⟨t,aD.lt Hz U⟩);have FT:=FT.comp f fun k U t=>by have:=Bu k t;omega
   have hc:=f.ag hc fun t=>by have:=Bu c t;omega
   have HL:=HL.ag f fun k U t=>by have:=BL k U;have:=Bu k t;omega
   have HH:=HH.ag f fun k U t=>by have:=BH k U;have:=Bu k t;omega
   have Hp:=Hp.ag f fun k U t=>by have:=Bp k U;have:=Bu k t;omega
   refine ab.of (pH HH.rd (pJ _) (by omega)) ?_;rintro _ w5 ⟨v,rfl,Hv,f,xf⟩;refine⟨v,rfl,?_⟩;have s5:=f.size
   try refine ak.of f ?_
   have Bv:∀ k,au v k->w4.heap.size<=k/\k<w5.heap.size:=fun k U=>⟨xf k U,aD.lt Hv U⟩;have FT:=FT.trans f;have hc:=f.af hc;have HL:=HL.af f;have HH:=HH.af f;have Hp:=Hp.af f;have Hz:=Hz.af f;have cC:=Hv.len;rw[List.length_map,Nat.mul_one] at cC;obtain⟨q,w6,hr,Hq,_,f,xf⟩:=gb jq 140 Hv Hp.rd (by intro t ht;simp at ht;subst ht;rfl) (by omega);refine⟨q,w6,hr,?_⟩;have s6:=f.size
   try refine ak.on f (fun k U t=>by have U:k<w0.heap.size:=U;have:=Bv k t;omega) ?_
   have Bq:∀ k,au q k->(w4.heap.size<=k/\k<w5.heap.size)\/(w5.heap.size<=k/\k<w6.heap.size):=fun k U=>(xf k U).elim (fun t=>.inl (Bv k t)) (fun t=>.inr ⟨t,aD.lt Hq U⟩);have FT:=FT.comp f fun k U t=>by have:=Bv k t;omega
   have hc:=f.ag hc fun t=>by have:=Bv c t;omega
   have HL:=HL.ag f fun k U t=>by have:=BL k U;have:=Bv k t;omega
   have HH:=HH.ag f fun k U t=>by have:=BH k U;have:=Bv k t;omega
   have Hz:=Hz.ag f fun k U t=>by have:=Bz k U;have:=Bv k t;omega
   exact fin FT hc Hz Hq (fun k U=>by have:=Bz k U;omega) (fun k U=>by have:=Bq k U;omega)
 ·skip
  refine⟨?_,?_⟩
  ·skip
   obtain⟨y,w1,hr,Hy,gM,f,xf⟩:=oI (P:=Tryz.prog) (w:=w0) na (nf x) rfl (by decide);refine⟨y,w1,hr,?_⟩;have s1:=f.size
   try refine ak.of f ?_
   have By:∀ k,au y k->w0.heap.size<=k/\k<w1.heap.size:=fun k U=>⟨xf k U,aD.lt Hy U⟩;have FT:=FT.trans f;have hc:=f.af hc;have HL:=HL.af f;have HH:=HH.af f;refine⟨?_,?_⟩
   ·skip
    refine ab.of (xc HL.rd (xd _) (by omega)) ?_;rintro _ w2 ⟨u,rfl,Hu,f,xf⟩;refine⟨u,rfl,?_⟩;have s2:=f.size
    try refine ak.of f ?_
    have Bu:∀ k,au u k->w1.heap.size<=k/\k<w2.heap.size:=fun k U=>⟨xf k U,aD.lt Hu U⟩;have FT:=FT.trans f;have hc:=f.af hc;have HL:=HL.af f;have HH:=HH.af f;have Hy:=Hy.af f;refine⟨?_,?_⟩
    ·skip
     have cS:=Hu.len;rw[pI] at cS;obtain⟨z,w3,hr,Hz,_,f,xf⟩:=gb na 139 Hu Hy.rd (rL x) (by omega);refine⟨z,w3,hr,?_⟩;have s3:=f.size
     try refine ak.on f (fun k U t=>by have U:k<w0.heap.size:=U;have:=Bu k t;omega) ?_
     have Bz:∀ k,au z k->(w1.heap.size<=k/\k<w2.heap.size)\/(w2.heap.size<=k/\k<w3.heap.size):=fun k U=>(xf k U).elim (fun t=>.inl (Bu k t)) (fun t=>.inr ⟨t,aD.lt Hz U⟩);have FT:=FT.comp f fun k U t=>by have:=Bu k t;omega
     have hc:=f.ag hc fun t=>by have:=Bu c t;omega
     have HL:=HL.ag f fun k U t=>by have:=BL k U;have:=Bu k t;omega
     have HH:=HH.ag f fun k U t=>by have:=BH k U;have:=Bu k t;omega
     refine⟨?_,?_⟩
     ·skip
      refine ab.of (pH HH.rd (pJ _) (by omega)) ?_;rintro _ w4 ⟨v,rfl,Hv,f,xf⟩;refine⟨v,rfl,?_⟩;have s4:=f.size
      try refine ak.of f ?_
      have Bv:∀ k,au v k->w3.heap.size<=k/\k<w4.heap.size:=fun k U=>⟨xf k U,aD.lt Hv U⟩;have FT:=FT.trans f;have hc:=f.af hc;have HL:=HL.af f;have HH:=HH.af f;have Hz:=Hz.af f;obtain⟨p,w5,hr,Hp,nH,f,xf⟩:=kX (P:=Tryz.prog) (w:=w4) jq (.int .u64 n) rfl;refine⟨p,w5,hr,?_⟩;have s5:=f.size
      try refine ak.of f ?_
      have Bp:∀ k,au p k->w4.heap.size<=k/\k<w5.heap.size:=fun k U=>⟨xf k U,aD.lt Hp U⟩;have FT:=FT.trans f;have hc:=f.af hc;have HL:=HL.af f;have HH:=HH.af f;have Hz:=Hz.af f;have Hv:=Hv.af f;have cC:=Hv.len;rw[List.length_map,Nat.mul_one] at cC;obtain⟨q,w6,hr,Hq,_,f,xf⟩:=gb jq 140 Hv Hp.rd (by intro t ht;simp at ht;subst ht;rfl) (by omega);refine⟨q,w6,hr,?_⟩;have s6:=f.size
      try refine ak.on f (fun k U t=>by have U:k<w0.heap.size:=U;have:=Bv k t;omega) ?_
      have Bq:∀ k,au q k->(w3.heap.size<=k/\k<w4.heap.size)\/(w5.heap.size<=k/\k<w6.heap.size):=fun k U=>(xf k U).elim (fun t=>.inl (Bv k t)) (fun t=>.inr ⟨t,aD.lt Hq U⟩);have FT:=FT.comp f fun k U t=>by have:=Bv k t;omega
      have hc:=f.ag hc fun t=>by have:=Bv c t;omega
      have HL:=HL.ag f fun k U t=>by have:=BL k U;have:=Bv k t;omega
      have HH:=HH.ag f fun k U t=>by have:=BH k U;have:=Bv k t;omega
      have Hz:=Hz.ag f fun k U t=>by have:=Bz k U;have:=Bv k t;omega
      exact fin FT hc Hz Hq (fun k U=>by have:=Bz k U;omega) (fun k U=>by have:=Bq k U;omega)
     ·skip
      obtain⟨p,w4,hr,Hp,nH,f,xf⟩:=kX (P:=Tryz.prog) (w:=w3) jq (.int .u64 n) rfl;refine⟨p,w4,hr,?_⟩;have s4:=f.size
      try refine ak.of f ?_
      have Bp:∀ k,au p k->w3.heap.size<=k/\k<w4.heap.size:=fun k U=>⟨xf k U,aD.lt Hp U⟩;have FT:=FT.trans f;have hc:=f.af hc;have HL:=HL.af f;have HH:=HH.af f;have Hz:=Hz.af f;refine ab.of (pH HH.rd (pJ _) (by omega)) ?_;rintro _ w5 ⟨v,rfl,Hv,f,xf⟩;refine⟨v,rfl,?_⟩;have s5:=f.size
      try refine ak.of f ?_
      have Bv:∀ k,au v k->w4.heap.size<=k/\k<w5.heap.size:=fun k U=>⟨xf k U,aD.lt Hv U⟩;have FT:=FT.trans f;have hc:=f.af hc;have HL:=HL.af f;have HH:=HH.af f;have Hz:=Hz.af f;have Hp:=Hp.af f;have cC:=Hv.len;rw[List.length_map,Nat.mul_one] at cC;obtain⟨q,w6,hr,Hq,_,f,xf⟩:=gb jq 140 Hv Hp.rd (by intro t ht;simp at ht;subst ht;rfl) (by omega);refine⟨q,w6,hr,?_⟩;have s6:=f.size
      try refine ak.on f (fun k U t=>by have U:k<w0.heap.size:=U;have:=Bv k t;omega) ?_
      have Bq:∀ k,au q k->(w4.heap.size<=k/\k<w5.heap.size)\/(w5.heap.size<=k/\k<w6.heap.size):=fun k U=>(xf k U).elim (fun t=>.inl (Bv k t)) (fun t=>.inr ⟨t,aD.lt Hq U⟩);have FT:=FT.comp f fun k U t=>by have:=Bv k t;omega
      have hc:=f.ag hc fun t=>by have:=Bv c t;omega
      have HL:=HL.ag f fun k U t=>by have:=BL k U;have:=Bv k t;omega
      have HH:=HH.ag f fun k U t=>by have:=BH k U;have:=Bv k t;omega
      have Hz:=Hz.ag f fun k U t=>by have:=Bz k U;have:=Bv k t;omega
      exact fin FT hc Hz Hq (fun k U=>by have:=Bz k U;omega) (fun k U=>by have:=Bq k U;omega)
    ·skip
     obtain⟨p,w3,hr,Hp,nH,f,xf⟩:=kX (P:=Tryz.prog) (w:=w2) jq (.int .u64 n) rfl;refine⟨p,w3,hr,?_⟩;have s3:=f.size
     try refine ak.of f ?_
     have Bp:∀ k,au p k->w2.heap.size<=k/\k<w3.heap.size:=fun k U=>⟨xf k U,aD.lt Hp U⟩;have FT:=FT.trans f;have hc:=f.af hc;have HL:=HL.af f;have HH:=HH.af f;have Hy:=Hy.af f;have Hu:=Hu.af f;have cS:=Hu.len;rw[pI] at cS;obtain⟨z,w4,hr,Hz,_,f,xf⟩:=gb na 139 Hu Hy.rd (rL x) (by omega);refine⟨z,w4,hr,?_⟩;have s4:=f.size
     try refine ak.on f (fun k U t=>by have U:k<w0.heap.size:=U;have:=Bu k t;omega) ?_
     have Bz:∀ k,au z k->(w1.heap.size<=k/\k<w2.heap.size)\/(w3.heap.size<=k/\k<w4.heap.size):=fun k U=>(xf k U).elim (fun t=>.inl (Bu k t)) (fun t=>.inr ⟨t,aD.lt Hz U⟩);have FT:=FT.comp f fun k U t=>by have:=Bu k t;omega
     have hc:=f.ag hc fun t=>by have:=Bu c t;omega
     have HL:=HL.ag f fun k U t=>by have:=BL k U;have:=Bu k t;omega
     have HH:=HH.ag f fun k U t=>by have:=BH k U;have:=Bu k t;omega
     have Hp:=Hp.ag f fun k U t=>by have:=Bp k U;have:=Bu k t;omega
     refine ab.of (pH HH.rd (pJ _) (by omega)) ?_;rintro _ w5 ⟨v,rfl,Hv,f,xf⟩;refine⟨v,rfl,?_⟩;have s5:=f.size
     try refine ak.of f ?_
     have Bv:∀ k,au v k->w4.heap.size<=k/\k<w5.heap.size:=fun k U=>⟨xf k U,aD.lt Hv U⟩;have FT:=FT.trans f;have hc:=f.af hc;have HL:=HL.af f;have HH:=HH.af f;have Hp:=Hp.af f;have Hz:=Hz.af f;have cC:=Hv.len;rw[List.length_map,Nat.mul_one] at cC;obtain⟨q,w6,hr,Hq,_,f,xf⟩:=gb jq 140 Hv Hp.rd (by intro t ht;simp at ht;subst ht;rfl) (by omega);refine⟨q,w6,hr,?_⟩;have s6:=f.size
     try refine ak.on f (fun k U t=>by have U:k<w0.heap.size:=U;have:=Bv k t;omega) ?_
     have Bq:∀ k,au q k->(w4.heap.size<=k/\k<w5.heap.size)\/(w5.heap.size<=k/\k<w6.heap.size):=fun k U=>(xf k U).elim (fun t=>.inl (Bv k t)) (fun t=>.inr ⟨t,aD.lt Hq U⟩);have FT:=FT.comp f fun k U t=>by have:=Bv k t;omega
     have hc:=f.ag hc fun t=>by have:=Bv c t;omega
     have HL:=HL.ag f fun k U t=>by have:=BL k U;have:=Bv k t;omega
     have HH:=HH.ag f fun k U t=>by have:=BH k U;have:=Bv k t;omega
     have Hz:=Hz.ag f fun k U t=>by have:=Bz k U;have:=Bv k t;omega
     exact fin FT hc Hz Hq (fun k U=>by have:=Bz k U;omega) (fun k U=>by have:=Bq k U;omega)
   ·skip
    obtain⟨p,w2,hr,Hp,nH,f,xf⟩:=kX (P:=Tryz.prog) (w:=w1) jq (.int .u64 n) rfl;refine⟨p,w2,hr,?_⟩;have s2:=f.size
    try refine ak.of f ?_
    have Bp:∀ k,au p k->w1.heap.size<=k/\k<w2.heap.size:=fun k U=>⟨xf k U,aD.lt Hp U⟩;have FT:=FT.trans f;have hc:=f.af hc;have HL:=HL.af f;have HH:=HH.af f;have Hy:=Hy.af f;refine ab.of (xc HL.rd (xd _) (by omega)) ?_;rintro _ w3 ⟨u,rfl,Hu,f,xf⟩;refine⟨u,rfl,?_⟩;have s3:=f.size
    try refine ak.of f ?_
    have Bu:∀ k,au u k->w2.heap.size<=k/\k<w3.heap.size:=fun k U=>⟨xf k U,aD.lt Hu U⟩;have FT:=FT.trans f;have hc:=f.af hc;have HL:=HL.af f;have HH:=HH.af f;have Hy:=Hy.af f;have Hp:=Hp.af f;have cS:=Hu.len;rw[pI] at cS;obtain⟨z,w4,hr,Hz,_,f,xf⟩:=gb na 139 Hu Hy.rd (rL x) (by omega);refine⟨z,w4,hr,?_⟩;have s4:=f.size
    try refine ak.on f (fun k U t=>by have U:k<w0.heap.size:=U;have:=Bu k t;omega) ?_
    have Bz:∀ k,au z k->(w2.heap.size<=k/\k<w3.heap.size)\/(w3.heap.size<=k/\k<w4.heap.size):=fun k U=>(xf k U).elim (fun t=>.inl (Bu k t)) (fun t=>.inr ⟨t,aD.lt Hz U⟩);have FT:=FT.comp f fun k U t=>by have:=Bu k t;omega
    have hc:=f.ag hc fun t=>by have:=Bu c t;omega
    have HL:=HL.ag f fun k U t=>by have:=BL k U;have:=Bu k t;omega
    have HH:=HH.ag f fun k U t=>by have:=BH k U;have:=Bu k t;omega
    have Hp:=Hp.ag f fun k U t=>by have:=Bp k U;have:=Bu k t;omega
    refine ab.of (pH HH.rd (pJ _) (by omega)) ?_;rintro _ w5 ⟨v,rfl,Hv,f,xf⟩;refine⟨v,rfl,?_⟩;have s5:=f.size
    try refine ak.of f ?_
    have Bv:∀ k,au v k->w4.heap.size<=k/\k<w5.heap.size:=fun k U=>⟨xf k U,aD.lt Hv U⟩;have FT:=FT.trans f;have hc:=f.af hc;have HL:=HL.af f;have HH:=HH.af f;have Hp:=Hp.af f;have Hz:=Hz.af f;have cC:=Hv.len;rw[List.length_map,Nat.mul_one] at cC;obtain⟨q,w6,hr,Hq,_,f,xf⟩:=gb jq 140 Hv Hp.rd (by intro t ht;simp at ht;subst ht;rfl) (by omega);refine⟨q,w6,hr,?_⟩;have s6:=f.size
    try refine ak.on f (fun k U t=>by have U:k<w0.heap.size:=U;have:=Bv k t;omega) ?_
    have Bq:∀ k,au q k->(w4.heap.size<=k/\k<w5.heap.size)\/(w5.heap.size<=k/\k<w6.heap.size):=fun k U=>(xf k U).elim (fun t=>.inl (Bv k t)) (fun t=>.inr ⟨t,aD.lt Hq U⟩);have FT:=FT.comp f fun k U t=>by have:=Bv k t;omega
    have hc:=f.ag hc fun t=>by have:=Bv c t;omega
    have HL:=HL.ag f fun k U t=>by have:=BL k U;have:=Bv k t;omega
    have HH:=HH.ag f fun k U t=>by have:=BH k U;have:=Bv k t;omega
    have Hz:=Hz.ag f fun k U t=>by have:=Bz k U;have:=Bv k t;omega
    exact fin FT hc Hz Hq (fun k U=>by have:=Bz k U;omega) (fun k U=>by have:=Bq k U;omega)
  ·skip
   obtain⟨p,w1,hr,Hp,nH,f,xf⟩:=kX (P:=Tryz.prog) (w:=w0) jq (.int .u64 n) rfl;refine⟨p,w1,hr,?_⟩;have s1:=f.size
   try refine ak.of f ?_
   have Bp:∀ k,au p k->w0.heap.size<=k/\k<w1.heap.size:=fun k U=>⟨xf k U,aD.lt Hp U⟩;have FT:=FT.trans f;have hc:=f.af hc;have HL:=HL.af f;have HH:=HH.af f;refine⟨?_,?_⟩
   ·skip
    refine ab.of (xc HL.rd (xd _) (by omega)) ?_;rintro _ w2 ⟨u,rfl,Hu,f,xf⟩;refine⟨u,rfl,?_⟩;have s2:=f.size
    try refine ak.of f ?_
    have Bu:∀ k,au u k->w1.heap.size<=k/\k<w2.heap.size:=fun k U=>⟨xf k U,aD.lt Hu U⟩;have FT:=FT.trans f;have hc:=f.af hc;have HL:=HL.af f;have HH:=HH.af f;have Hp:=Hp.af f;obtain⟨y,w3,hr,Hy,gM,f,xf⟩:=oI (P:=Tryz.prog) (w:=w2) na (nf x) rfl (by decide);refine⟨y,w3,hr,?_⟩;have s3:=f.size
    try refine ak.of f ?_
    have By:∀ k,au y k->w2.heap.size<=k/\k<w3.heap.size:=fun k U=>⟨xf k U,aD.lt Hy U⟩;have FT:=FT.trans f;have hc:=f.af hc;have HL:=HL.af f;have HH:=HH.af f;have Hp:=Hp.af f;have Hu:=Hu.af f;have cS:=Hu.len;rw[pI] at cS;obtain⟨z,w4,hr,Hz,_,f,xf⟩:=gb na 139 Hu Hy.rd (rL x) (by omega);refine⟨z,w4,hr,?_⟩;have s4:=f.size
    try refine ak.on f (fun k U t=>by have U:k<w0.heap.size:=U;have:=Bu k t;omega) ?_
    have Bz:∀ k,au z k->(w1.heap.size<=k/\k<w2.heap.size)\/(w3.heap.size<=k/\k<w4.heap.size):=fun k U=>(xf k U).elim (fun t=>.inl (Bu k t)) (fun t=>.inr ⟨t,aD.lt Hz U⟩);have FT:=FT.comp f fun k U t=>by have:=Bu k t;omega
    have hc:=f.ag hc fun t=>by have:=Bu c t;omega
    have HL:=HL.ag f fun k U t=>by have:=BL k U;have:=Bu k t;omega
    have HH:=HH.ag f fun k U t=>by have:=BH k U;have:=Bu k t;omega
    have Hp:=Hp.ag f fun k U t=>by have:=Bp k U;have:=Bu k t;omega
    refine ab.of (pH HH.rd (pJ _) (by omega)) ?_;rintro _ w5 ⟨v,rfl,Hv,f,xf⟩;refine⟨v,rfl,?_⟩;have s5:=f.size
    try refine ak.of f ?_
    have Bv:∀ k,au v k->w4.heap.size<=k/\k<w5.heap.size:=fun k U=>⟨xf k U,aD.lt Hv U⟩;have FT:=FT.trans f;have hc:=f.af hc;have HL:=HL.af f;have HH:=HH.af f;have Hp:=Hp.af f;have Hz:=Hz.af f;have cC:=Hv.len;rw[List.length_map,Nat.mul_one] at cC;obtain⟨q,w6,hr,Hq,_,f,xf⟩:=gb jq 140 Hv Hp.rd (by intro t ht;simp at ht;subst ht;rfl) (by omega);refine⟨q,w6,hr,?_⟩;have s6:=f.size
    try refine ak.on f (fun k U t=>by have U:k<w0.heap.size:=U;have:=Bv k t;omega) ?_
    have Bq:∀ k,au q k->(w4.heap.size<=k/\k<w5.heap.size)\/(w5.heap.size<=k/\k<w6.heap.size):=fun k U=>(xf k U).elim (fun t=>.inl (Bv k t)) (fun t=>.inr ⟨t,aD.lt Hq U⟩);have FT:=FT.comp f fun k U t=>by have:=Bv k t;omega
    have hc:=f.ag hc fun t=>by have:=Bv c t;omega
    have HL:=HL.ag f fun k U t=>by have:=BL k U;have:=Bv k t;omega
    have HH:=HH.ag f fun k U t=>by have:=BH k U;have:=Bv k t;omega
    have Hz:=Hz.ag f fun k U t=>by have:=Bz k U;have:=Bv k t;omega
    exact fin FT hc Hz Hq (fun k U=>by have:=Bz k U;omega) (fun k U=>by have:=Bq k U;omega)
   ·skip
    obtain⟨y,w2,hr,Hy,gM,f,xf⟩:=oI (P:=Tryz.prog) (w:=w1) na (nf x) rfl (by decide);refine⟨y,w2,hr,?_⟩;have s2:=f.size
    try refine ak.of f ?_
    have By:∀ k,au y k->w1.heap.size<=k/\k<w2.heap.size:=fun k U=>⟨xf k U,aD.lt Hy U⟩;have FT:=FT.trans f;have hc:=f.af hc;have HL:=HL.af f;have HH:=HH.af f;have Hp:=Hp.af f;refine ab.of (xc HL.rd (xd _) (by omega)) ?_;rintro _ w3 ⟨u,rfl,Hu,f,xf⟩;refine⟨u,rfl,?_⟩;have s3:=f.size
    try refine ak.of f ?_
    have Bu:∀ k,au u k->w2.heap.size<=k/\k<w3.heap.size:=fun k U=>⟨xf k U,aD.lt Hu U⟩;have FT:=FT.trans f;have hc:=f.af hc;have HL:=HL.af f;have HH:=HH.af f;have Hp:=Hp.af f;have Hy:=Hy.af f;have cS:=Hu.len;rw[pI] at cS;obtain⟨z,w4,hr,Hz,_,f,xf⟩:=gb na 139 Hu Hy.rd (rL x) (by omega);refine⟨z,w4,hr,?_⟩;have s4:=f.size
    try refine ak.on f (fun k U t=>by have U:k<w0.heap.size:=U;have:=Bu k t;omega) ?_
    have Bz:∀ k,au z k->(w2.heap.size<=k/\k<w3.heap.size)\/(w3.heap.size<=k/\k<w4.heap.size):=fun k U=>(xf k U).elim (fun t=>.inl (Bu k t)) (fun t=>.inr ⟨t,aD.lt Hz U⟩);have FT:=FT.comp f fun k U t=>by have:=Bu k t;omega
    have hc:=f.ag hc fun t=>by have:=Bu c t;omega
    have HL:=HL.ag f fun k U t=>by have:=BL k U;have:=Bu k t;omega
    have HH:=HH.ag f fun k U t=>by have:=BH k U;have:=Bu k t;omega
    have Hp:=Hp.ag f fun k U t=>by have:=Bp k U;have:=Bu k t;omega
    refine ab.of (pH HH.rd (pJ _) (by omega)) ?_;rintro _ w5 ⟨v,rfl,Hv,f,xf⟩;refine⟨v,rfl,?_⟩;have s5:=f.size
    try refine ak.of f ?_
    have Bv:∀ k,au v k->w4.heap.size<=k/\k<w5.heap.size:=fun k U=>⟨xf k U,aD.lt Hv U⟩;have FT:=FT.trans f;have hc:=f.af hc;have HL:=HL.af f;have HH:=HH.af f;have Hp:=Hp.af f;have Hz:=Hz.af f;have cC:=Hv.len;rw[List.length_map,Nat.mul_one] at cC;obtain⟨q,w6,hr,Hq,_,f,xf⟩:=gb jq 140 Hv Hp.rd (by intro t ht;simp at ht;subst ht;rfl) (by omega);refine⟨q,w6,hr,?_⟩;have s6:=f.size
    try refine ak.on f (fun k U t=>by have U:k<w0.heap.size:=U;have:=Bv k t;omega) ?_
    have Bq:∀ k,au q k->(w4.heap.size<=k/\k<w5.heap.size)\/(w5.heap.size<=k/\k<w6.heap.size):=fun k U=>(xf k U).elim (fun t=>.inl (Bv k t)) (fun t=>.inr ⟨t,aD.lt Hq U⟩);have FT:=FT.comp f fun k U t=>by have:=Bv k t;omega
    have hc:=f.ag hc fun t=>by have:=Bv c t;omega
    have HL:=HL.ag f fun k U t=>by have:=BL k U;have:=Bv k t;omega
    have HH:=HH.ag f fun k U t=>by have:=BH k U;have:=Bv k t;omega
    have Hz:=Hz.ag f fun k U t=>by have:=Bz k U;have:=Bv k t;omega
    exact fin FT hc Hz Hq (fun k U=>by have:=Bz k U;omega) (fun k U=>by have:=Bq k U;omega)
def C40 (p0:List Value)(p1:Int)(w:World)(K:Value->World->Prop):Prop:=
 aq (.cells p0.toArray 24) w (fun g1 w2=>aa (p1 != 0)
 (aH w2 (fun w3=>bb (fun S4=>aE S4 (ad g1) (eF 16 (ad g1) w3 (fun x5=>aE S4 (ad g1) (eF 16 (ad g1) w3 (fun x6=>ab Tryz.prog 89 #[.agg x6.toArray] w3 (.v (.one .ptr)) (fun(x7:Option Addr) w8=>ak S4 w3 w8 (ab Tryz.prog 90 #[] w8 (.v (.one .ptr)) (fun(x9:Option Addr) aK=>ak S4 w8 aK (tw [.int .u8,.int .u8,.int .u8,.int .u8,.int .u8,.int .u8,.int .u8,.int .u8,.int .u8,.int .u8,.int .u8,.int .u8,.int .u8,.int .u8,.int .u8,.int .u8] x5 (fun(aZ:Int×Int×Int×Int×Int×Int×Int×Int×Int×Int×Int×Int×Int×Int×Int×Int×Unit)=>aq (.cells #[.int .u8 aZ.1,.int .u8 aZ.2.1,.int .u8 aZ.2.2.1,.int .u8 aZ.2.2.2.1,.int .u8 aZ.2.2.2.2.1,.int .u8 aZ.2.2.2.2.2.1,.int .u8 aZ.2.2.2.2.2.2.1,.int .u8 aZ.2.2.2.2.2.2.2.1,.int .u8 aZ.2.2.2.2.2.2.2.2.1,.int .u8 aZ.2.2.2.2.2.2.2.2.2.1,.int .u8 aZ.2.2.2.2.2.2.2.2.2.2.1,.int .u8 aZ.2.2.2.2.2.2.2.2.2.2.2.1,.int .u8 aZ.2.2.2.2.2.2.2.2.2.2.2.2.1,.int .u8 aZ.2.2.2.2.2.2.2.2.2.2.2.2.2.1,.int .u8 aZ.2.2.2.2.2.2.2.2.2.2.2.2.2.2.1,.int .u8 aZ.2.2.2.2.2.2.2.2.2.2.2.2.2.2.2.1,.int .i64 1,.pointer x7,.pointer x9,.int .i64 0,.string (⟨#[]⟩:ByteArray),.string (⟨#[]⟩:ByteArray),.string (⟨#[]⟩:ByteArray),.string (⟨#[]⟩:ByteArray),.int .i64 0,.int .i64 0,.nilIface,.bool false,.int .i64 0,.string (⟨#[]⟩:ByteArray),.string (⟨#[]⟩:ByteArray),.string (⟨#[]⟩:ByteArray),.string (⟨#[]⟩:ByteArray),.int .i64 0,.int .i64 0,.nilIface,.bool false,.bool false,.bool false,.int .i64 0] 138) aK (fun g12 aW=>ak S4 aK aW (K (.pointer (some (ad g12))) aW))))))))))))))
 (aH w2 (fun bu=>bb (fun rH=>aE rH (ad g1) (eF 16 (ad g1) bu (fun aT=>aE rH (ad g1) (eF 16 (ad g1) bu (fun aX=>ab Tryz.prog 89 #[.agg aX.toArray] bu (.v (.one .ptr)) (fun(bE:Option Addr) bO=>ak rH bu bO (ab Tryz.prog 90 #[] bO (.v (.one .ptr)) (fun(cm:Option Addr) bq=>ak rH bO bq (tw [.int .u8,.int .u8,.int .u8,.int .u8,.int .u8,.int .u8,.int .u8,.int .u8,.int .u8,.int .u8,.int .u8,.int .u8,.int .u8,.int .u8,.int .u8,.int .u8] aT (fun(cr:Int×Int×Int×Int×Int×Int×Int×Int×Int×Int×Int×Int×Int×Int×Int×Int×Unit)=>aq (.cells #[.int .u8 cr.1,.int .u8 cr.2.1,.int .u8 cr.2.2.1,.int .u8 cr.2.2.2.1,.int .u8 cr.2.2.2.2.1,.int .u8 cr.2.2.2.2.2.1,.int .u8 cr.2.2.2.2.2.2.1,.int .u8 cr.2.2.2.2.2.2.2.1,.int .u8 cr.2.2.2.2.2.2.2.2.1,.int .u8 cr.2.2.2.2.2.2.2.2.2.1,.int .u8 cr.2.2.2.2.2.2.2.2.2.2.1,.int .u8 cr.2.2.2.2.2.2.2.2.2.2.2.1,.int .u8 cr.2.2.2.2.2.2.2.2.2.2.2.2.1,.int .u8 cr.2.2.2.2.2.2.2.2.2.2.2.2.2.1,.int .u8 cr.2.2.2.2.2.2.2.2.2.2.2.2.2.2.1,.int .u8 cr.2.2.2.2.2.2.2.2.2.2.2.2.2.2.2.1,.int .i64 p1,.pointer bE,.pointer cm,.int .i64 0,.string (⟨#[]⟩:ByteArray),.string (⟨#[]⟩:ByteArray),.string (⟨#[]⟩:ByteArray),.string (⟨#[]⟩:ByteArray),.int .i64 0,.int .i64 0,.nilIface,.bool false,.int .i64 0,.string (⟨#[]⟩:ByteArray),.string (⟨#[]⟩:ByteArray),.string (⟨#[]⟩:ByteArray),.string (⟨#[]⟩:ByteArray),.int .i64 0,.int .i64 0,.nilIface,.bool false,.bool false,.bool false,.int .i64 0] 138) bq (fun g23 bU=>ak rH bq bU (K (.pointer (some (ad g23))) bU)))))))))))))))
def pl40:aB:=(.seq .auto (.seq .auto (.seq (.held (.soft 0 (.soft 1 (.soft 2 (.pick 3 (.pick 4 (.soft 5 (.pick 6 (.soft 7 .done) .stop)) .stop) .stop))))) .auto)))
theorem c40 (p0:List Value)(p1:Int)(w:World)(K:Value->World->Prop)(h:C40 p0 p1 w K):Ret Tryz.prog 40 #[.agg p0.toArray,.int .i64 p1] w K:=aC (by kernel_rfl) Tryz.func40 (p:=pl40) (Eq.mpr (by kernel_rfl) h)
def C100 (p0:Int)(w:World)(K:Value->World->Prop):Prop:=
 tu 2 (aa ((Int.tmod p0 2)==0)
 (K (.int .i64 0) w)
 (K (.int .i64 1) w))
def pl100:aB:=.auto
theorem c100 (p0:Int)(w:World)(K:Value->World->Prop)(h:C100 p0 w K):Ret Tryz.prog 100 #[.int .i64 p0] w K:=aC (by kernel_rfl) Tryz.func100 (p:=pl100) (Eq.mpr (by kernel_rfl) h)
def C26 (p0:Addr)(w:World)(K:Value->World->Prop):Prop:=
 ae .ptr (p0.add 17) w (fun(x1:Option Addr)=>ab Tryz.prog 69 #[.pointer x1] w (.v (.one .ptr)) (fun(x2:Option Addr) w3=>K (.pointer x2) w3))
def pl26:aB:=.auto
theorem c26 (p0:Addr)(w:World)(K:Value->World->Prop)(h:C26 p0 w K):Ret Tryz.prog 26 #[.pointer (some p0)] w K:=aC (by kernel_rfl) Tryz.func26 (p:=pl26) (Eq.mpr (by kernel_rfl) h)
def C97 (p0:Addr)(w:World)(K:Value->World->Prop):Prop:=
 ae .ptr (p0.add 17) w (fun(x1:Option Addr)=>ab Tryz.prog 27 #[.pointer x1] w (.v (.one (.int .i64))) (fun(x2:Int) w3=>K (.bool (decide (x2 >= 64))) w3))
def pl97:aB:=.auto
theorem c97 (p0:Addr)(w:World)(K:Value->World->Prop)(h:C97 p0 w K):Ret Tryz.prog 97 #[.pointer (some p0)] w K:=aC (by kernel_rfl) Tryz.func97 (p:=pl97) (Eq.mpr (by kernel_rfl) h)
def C45 (p0:Addr)(p1:bH)(w:World)(K:Value->World->Prop):Prop:=
 aq (.cells ((bS p1).toArray) 36) w (fun g1 w2=>ae .bool (p0.add 38) w2 (fun(x3:Bool)=>aa x3
 (K (.int .i64 13) w2)
 (bQ (Bool×Unit) (fun J4=>ae .bool ((p0.add 19).add 8) w2 (fun(x7:Bool)=>aa x7
 (J4 (true,()) w2)
 (ae .bool ((p0.add 28).add 8) w2 (fun(x8:Bool)=>aa x8
 (ae (.int .i64) (((p0.add 28).add 0).add 0) w2 (fun(x9:Int)=>J4 ((x9 != 1),()) w2))
 (J4 (false,()) w2)))))
 (fun _ s5 w6=>aa s5.1
 (K (.int .i64 9) w6)
 (ab Tryz.prog 97 #[.pointer (some p0)] w6 (.v (.one .bool)) (fun(aS:Bool) aR=>aa aS
 (K (.int .i64 5) aR)
 (aH aR (fun aO=>ae .ptr (p0.add 18) aO (fun(bC:Option Addr)=>az dR (ad g1) aO (fun(bn:bH)=>ae (.int .i64) (p0.add 16) aO (fun(bm:Int)=>ab Tryz.prog 98 #[.pointer bC,.agg (bS bn).toArray,.int .i64 bm] aO (.v (.one (.int .i64))) (fun(aT:Int) cD=>aa (aT != 0)
 (K (.int .i64 aT) cD)
 (az dR (ad g1) cD (fun(bE:bH)=>av (p0.add 19) [.int .i64 bE.1,.string bE.2.1,.string bE.2.2.1,.string bE.2.2.2.1,.string bE.2.2.2.2.1,.int .i64 bE.2.2.2.2.2.1,.int .i64 bE.2.2.2.2.2.2.1,bE.2.2.2.2.2.2.2.1,.bool true] cD (fun bO=>K (.int .i64 0) bO)))))))))))))))
def pl45:aB:=(.seq .auto (.seq (.block (.seq .auto (.cond .auto (.join [(11,.one .bool)] .auto .auto)))) (.seq (.seq (.tail 9) .auto) .auto)))
theorem c45 (p0:Addr)(p1:bH)(w:World)(K:Value->World->Prop)(h:C45 p0 p1 w K):Ret Tryz.prog 45 #[.pointer (some p0),.agg (bS p1).toArray] w K:=aC (by kernel_rfl) Tryz.func45 (p:=pl45) (Eq.mpr (by kernel_rfl) h)
def C101 (p0:Addr)(p1:Int)(w:World)(K:Value->World->Prop):Prop:=
 aq (.cells #[.int .i64 0,.int .i64 0,.int .i64 0,.int .i64 0,.int .i64 0,.int .u64 0,.bool false,.int .i64 0,.string (⟨#[]⟩:ByteArray),.string (⟨#[]⟩:ByteArray),.string (⟨#[]⟩:ByteArray),.string (⟨#[]⟩:ByteArray),.int .i64 0,.int .i64 0,.nilIface] 42) w (fun g1 w2=>aH w2 (fun w3=>bb (fun S4=>aE S4 (p0.add 17) (ae .ptr (p0.add 17) w3 (fun(x5:Option Addr)=>aE S4 (p0.add 17) (ae .ptr (p0.add 17) w3 (fun(x6:Option Addr)=>ab Tryz.prog 27 #[.pointer x5] w3 (.v (.one (.int .i64))) (fun(x7:Int) w8=>ak S4 w3 w8 (ab Tryz.prog 32 #[.pointer x6] w8 (.v (.one (.int .u64))) (fun(x9:Int) aK=>ak S4 w8 aK (av (ad g1) [.int .i64 0,.int .i64 0,.int .i64 0,.int .i64 p1,.int .i64 x7,.int .u64 x9,.bool false,.int .i64 0,.string (⟨#[]⟩:ByteArray),.string (⟨#[]⟩:ByteArray),.string (⟨#[]⟩:ByteArray),.string (⟨#[]⟩:ByteArray),.int .i64 0,.int .i64 0,.nilIface] aK (fun aR=>ak S4 aK aR (az ig (ad g1) aR (fun(bw:fM)=>K (.agg (gd bw).toArray) aR))))))))))))))
def pl101:aB:=(.seq .auto (.seq (.held (.soft 0 (.soft 1 (.soft 2 (.soft 3 (.soft 4 (.soft 6 (.soft 7 (.soft 8 (.soft 9 (.pick 5 (.pick 10 (.soft 11 (.pick 12 .done .stop)) .stop) .stop))))))))))) .auto))
theorem c101 (p0:Addr)(p1:Int)(w:World)(K:Value->World->Prop)(h:C101 p0 p1 w K):Ret Tryz.prog 101 #[.pointer (some p0),.int .i64 p1] w K:=aC (by kernel_rfl) Tryz.func101 (p:=pl101) (Eq.mpr (by kernel_rfl) h)
def C102 (p0:Addr)(p1:bH)(w:World)(K:Value->World->Prop):Prop:=
 aq (.cells ((bS p1).toArray) 36) w (fun g1 w2=>ab Tryz.prog 101 #[.pointer (some p0),.int .i64 1] w2 (.v (.agg ig)) (fun(x3:fM) w4=>aq (.cells #[.int .i64 0,.int .i64 0,.int .i64 0,.int .i64 0,.int .i64 0,.int .u64 0,.bool false,.int .i64 0,.string (⟨#[]⟩:ByteArray),.string (⟨#[]⟩:ByteArray),.string (⟨#[]⟩:ByteArray),.string (⟨#[]⟩:ByteArray),.int .i64 0,.int .i64 0,.nilIface] 42) w4 (fun g5 w6=>av (ad g5) (gd x3) w6 (fun w7=>az dR (ad g1) w7 (fun(x8:bH)=>av ((ad g5).add 7) (bS x8) w7 (fun w9=>az ig (ad g5) w9 (fun(aS:fM)=>aw Tryz.prog (Instr.buildSlice 111 1 #[(0,.agg (gd aS).toArray)]) w9 (.v (.one .ah)) (fun(aZ:ao) aO=>K (.slice aZ.1 aZ.2.1 aZ.2.2) aO))))))))
def pl102:aB:=.auto
theorem c102 (p0:Addr)(p1:bH)(w:World)(K:Value->World->Prop)(h:C102 p0 p1 w K):Ret Tryz.prog 102 #[.pointer (some p0),.agg (bS p1).toArray] w K:=aC (by kernel_rfl) Tryz.func102 (p:=pl102) (Eq.mpr (by kernel_rfl) h)
def C103 (p0:Addr)(p1:bH)(w:World)(K:Value->World->Prop):Prop:=
 aq (.cells ((bS p1).toArray) 36) w (fun g1 w2=>aq (.cells #[.bool false,.bool false,.int .i64 0,.string (⟨#[]⟩:ByteArray),.string (⟨#[]⟩:ByteArray),.string (⟨#[]⟩:ByteArray),.string (⟨#[]⟩:ByteArray),.int .i64 0,.int .i64 0,.nilIface,.bool false,.int .i64 0,.string (⟨#[]⟩:ByteArray),.string (⟨#[]⟩:ByteArray),.string (⟨#[]⟩:ByteArray),.string (⟨#[]⟩:ByteArray),.int .i64 0,.int .i64 0,.nilIface,.bool false,.bool false,.bool false,.bool false,.slice none 0 0] 113) w2 (fun g3 w4=>aH w4 (fun w5=>ae .ptr (p0.add 18) w5 (fun(x6:Option Addr)=>az dR (ad g1) w5 (fun(x7:bH)=>ae (.int .i64) (p0.add 16) w5 (fun(x8:Int)=>ab Tryz.prog 98 #[.pointer x6,.agg (bS x7).toArray,.int .i64 x8] w5 (.v (.one (.int .i64))) (fun(x9:Int) aK=>aa (x9 != 0)
 (av (ad g3) [.bool false,.bool false,.int .i64 0,.string (⟨#[]⟩:ByteArray),.string (⟨#[]⟩:ByteArray),.string (⟨#[]⟩:ByteArray),.string (⟨#[]⟩:ByteArray),.int .i64 0,.int .i64 0,.nilIface,.bool false,.int .i64 0,.string (⟨#[]⟩:ByteArray),.string (⟨#[]⟩:ByteArray),.string (⟨#[]⟩:ByteArray),.string (⟨#[]⟩:ByteArray),.int .i64 0,.int .i64 0,.nilIface,.bool true,.bool false,.bool false,.bool false,.slice none 0 0] aK (fun aR=>az lJ (ad g3) aR (fun(bw:iP)=>K (.agg (iZ bw).toArray) aR)))
 (aH aK (fun aW=>bb (fun sY=>aE sY (ad g1) (az dR (ad g1) aW (fun(bm:bH)=>aE sY (ad g1) (az dR (ad g1) aW (fun(aT:bH)=>ab Tryz.prog 102 #[.pointer (some p0),.agg (bS aT).toArray] aW (.v (.one .ah)) (fun(aX:ao) bx=>ak sY aW bx (av (ad g3) [.bool false,.bool true,.int .i64 0,.string (⟨#[]⟩:ByteArray),.string (⟨#[]⟩:ByteArray),.string (⟨#[]⟩:ByteArray),.string (⟨#[]⟩:ByteArray),.int .i64 0,.int .i64 0,.nilIface,.bool false,.int .i64 bm.1,.string bm.2.1,.string bm.2.2.1,.string bm.2.2.2.1,.string bm.2.2.2.2.1,.int .i64 bm.2.2.2.2.2.1,.int .i64 bm.2.2.2.2.2.2.1,bm.2.2.2.2.2.2.2.1,.bool false,.bool false,.bool false,.bool false,.slice aX.1 aX.2.1 aX.2.2] bx (fun bO=>ak sY bx bO (az lJ (ad g3) bO (fun(cm:iP)=>K (.agg (iZ cm).toArray) bO)))))))))))))))))))
def pl103:aB:=(.seq .auto (.seq (.seq (.tail 9) .auto) (.seq (.held (.soft 0 (.soft 1 (.soft 2 (.pick 3 (.soft 4 (.pick 5 .done .stop)) .stop))))) .auto)))
theorem c103 (p0:Addr)(p1:bH)(w:World)(K:Value->World->Prop)(h:C103 p0 p1 w K):Ret Tryz.prog 103 #[.pointer (some p0),.agg (bS p1).toArray] w K:=aC (by kernel_rfl) Tryz.func103 (p:=pl103) (Eq.mpr (by kernel_rfl) h)
def C47 (p0:Addr)(w:World)(K:Value->World->Prop):Prop:=
 aq (.cells #[.bool false,.bool false,.int .i64 0,.string (⟨#[]⟩:ByteArray),.string (⟨#[]⟩:ByteArray),.string (⟨#[]⟩:ByteArray),.string (⟨#[]⟩:ByteArray),.int .i64 0,.int .i64 0,.nilIface,.bool false,.int .i64 0,.string (⟨#[]⟩:ByteArray),.string (⟨#[]⟩:ByteArray),.string (⟨#[]⟩:ByteArray),.string (⟨#[]⟩:ByteArray),.int .i64 0,.int .i64 0,.nilIface,.bool false,.bool false,.bool false,.bool false,.slice none 0 0] 113) w (fun g1 w2=>aH w2 (fun w3=>bb (fun S4=>aE S4 (p0.add 17) (ae .ptr (p0.add 17) w3 (fun(x5:Option Addr)=>aE S4 (p0.add 16) (ae (.int .i64) (p0.add 16) w3 (fun(x6:Int)=>ab Tryz.prog 27 #[.pointer x5] w3 (.v (.one (.int .i64))) (fun(x7:Int) w8=>ak S4 w3 w8 (ab Tryz.prog 100 #[.int .i64 x7] w8 (.v (.one (.int .i64))) (fun(x9:Int) aK=>ak S4 w8 aK (ae .bool (p0.add 38) aK (fun(aZ:Bool)=>aa aZ
 (ab Tryz.prog 101 #[.pointer (some p0),.int .i64 4] aK (.v (.agg ig)) (fun(bw:fM) aW=>aq (.cells #[.int .i64 0,.int .i64 0,.int .i64 0,.int .i64 0,.int .i64 0,.int .u64 0,.bool false,.int .i64 0,.string (⟨#[]⟩:ByteArray),.string (⟨#[]⟩:ByteArray),.string (⟨#[]⟩:ByteArray),.string (⟨#[]⟩:ByteArray),.int .i64 0,.int .i64 0,.nilIface] 42) aW (fun g14 bL=>av (ad g14) (gd bw) bL (fun br=>ay ((ad g14).add 6) (.bool true) br (fun cD=>az ig (ad g14) cD (fun(bE:fM)=>aw Tryz.prog (Instr.buildSlice 111 1 #[(0,.agg (gd bE).toArray)]) cD (.v (.one .ah)) (fun(bt:ao) bz=>av (ad g1) [.bool false,.bool false,.int .i64 0,.string (⟨#[]⟩:ByteArray),.string (⟨#[]⟩:ByteArray),.string (⟨#[]⟩:ByteArray),.string (⟨#[]⟩:ByteArray),.int .i64 0,.int .i64 0,.nilIface,.bool false,.int .i64 0,.string (⟨#[]⟩:ByteArray),.string (⟨#[]⟩:ByteArray),.string (⟨#[]⟩:ByteArray),.string (⟨#[]⟩:ByteArray),.int .i64 0,.int .i64 0,.nilIface,.bool false,.bool false,.bool false,.bool false,.slice bt.1 bt.2.1 bt.2.2] bz (fun bq=>az lJ (ad g1) bq (fun(cr:iP)=>K (.agg (iZ cr).toArray) bq)))))))))
 (ab Tryz.prog 97 #[.pointer (some p0)] aK (.v (.one .bool)) (fun(cc:Bool) bU=>aa cc
 (av (ad g1) [.bool false,.bool false,.int .i64 0,.string (⟨#[]⟩:ByteArray),.string (⟨#[]⟩:ByteArray),.string (⟨#[]⟩:ByteArray),.string (⟨#[]⟩:ByteArray),.int .i64 0,.int .i64 0,.nilIface,.bool false,.int .i64 0,.string (⟨#[]⟩:ByteArray),.string (⟨#[]⟩:ByteArray),.string (⟨#[]⟩:ByteArray),.string (⟨#[]⟩:ByteArray),.int .i64 0,.int .i64 0,.nilIface,.bool false,.bool false,.bool false,.bool false,.slice none 0 0] bU (fun dn=>az lJ (ad g1) dn (fun(dk:iP)=>K (.agg (iZ dk).toArray) dn)))
 (ae .bool ((p0.add 28).add 8) bU (fun(cE:Bool)=>aa cE
 (az dR ((p0.add 28).add 0) bU (fun(eX:bH)=>ab Tryz.prog 102 #[.pointer (some p0),.agg (bS eX).toArray] bU (.v (.one .ah)) (fun(cH:ao) cn=>av (ad g1) [.bool false,.bool false,.int .i64 0,.string (⟨#[]⟩:ByteArray),.string (⟨#[]⟩:ByteArray),.string (⟨#[]⟩:ByteArray),.string (⟨#[]⟩:ByteArray),.int .i64 0,.int .i64 0,.nilIface,.bool false,.int .i64 0,.string (⟨#[]⟩:ByteArray),.string (⟨#[]⟩:ByteArray),.string (⟨#[]⟩:ByteArray),.string (⟨#[]⟩:ByteArray),.int .i64 0,.int .i64 0,.nilIface,.bool false,.bool false,.bool false,.bool false,.slice cH.1 cH.2.1 cH.2.2] cn (fun eK=>az lJ (ad g1) eK (fun(dS:iP)=>K (.agg (iZ dS).toArray) eK)))))
 (bQ (Bool×Unit) (fun sX=>aa (x9==x6)
 (ae .bool ((p0.add 19).add 8) bU (fun(dO:Bool)=>sX (dO,()) bU))
 (sX (false,()) bU))
 (fun _ B0 fz=>aa B0.1
 (az dR ((p0.add 19).add 0) fz (fun(ij:bH)=>ab Tryz.prog 103 #[.pointer (some p0),.agg (bS ij).toArray] fz (.v (.agg lJ)) (fun(dN:iP) gg=>av (ad g1) (iZ dN) gg (fun ef=>az lJ (ad g1) ef (fun(fN:iP)=>K (.agg (iZ fN).toArray) ef)))))
 (bQ (Bool×Unit) (fun zW=>aa (x9==x6)
 (ae .bool (p0.add 37) fz (fun(fY:Bool)=>zW (fY,()) fz))
 (zW (false,()) fz))
 (fun _ OU fU=>aa OU.1
 (ab Tryz.prog 103 #[.pointer (some p0),.agg #[.int .i64 1,.string (⟨#[]⟩:ByteArray),.string (⟨#[]⟩:ByteArray),.string (⟨#[]⟩:ByteArray),.string (⟨#[]⟩:ByteArray),.int .i64 0,.int .i64 0,.nilIface]] fU (.v (.agg lJ)) (fun(mv:iP) kx=>av (ad g1) (iZ mv) kx (fun gu=>az lJ (ad g1) gu (fun(fR:iP)=>K (.agg (iZ fR).toArray) gu))))
 (aa (!(x9==x6))
 (ae .bool ((p0.add 19).add 8) fU (fun(jy:Bool)=>aa jy
 (ab Tryz.prog 101 #[.pointer (some p0),.int .i64 3] fU (.v (.agg ig)) (fun(ko:fM) kq=>aw Tryz.prog (Instr.buildSlice 111 1 #[(0,.agg (gd ko).toArray)]) kq (.v (.one .ah)) (fun(jz:ao) jV=>av (ad g1) [.bool false,.bool false,.int .i64 0,.string (⟨#[]⟩:ByteArray),.string (⟨#[]⟩:ByteArray),.string (⟨#[]⟩:ByteArray),.string (⟨#[]⟩:ByteArray),.int .i64 0,.int .i64 0,.nilIface,.bool false,.int .i64 0,.string (⟨#[]⟩:ByteArray),.string (⟨#[]⟩:ByteArray),.string (⟨#[]⟩:ByteArray),.string (⟨#[]⟩:ByteArray),.int .i64 0,.int .i64 0,.nilIface,.bool false,.bool false,.bool false,.bool false,.slice jz.1 jz.2.1 jz.2.2] jV (fun iQ=>az lJ (ad g1) iQ (fun(my:iP)=>K (.agg (iZ my).toArray) iQ)))))
 (av (ad g1) [.bool false,.bool false,.int .i64 0,.string (⟨#[]⟩:ByteArray),.string (⟨#[]⟩:ByteArray),.string (⟨#[]⟩:ByteArray),.string (⟨#[]⟩:ByteArray),.int .i64 0,.int .i64 0,.nilIface,.bool false,.int .i64 0,.string (⟨#[]⟩:ByteArray),.string (⟨#[]⟩:ByteArray),.string (⟨#[]⟩:ByteArray),.string (⟨#[]⟩:ByteArray),.int .i64 0,.int .i64 0,.nilIface,.bool false,.bool false,.bool false,.bool false,.slice none 0 0] fU (fun nz=>az lJ (ad g1) nz (fun(ny:iP)=>K (.agg (iZ ny).toArray) nz)))))
 (av (ad g1) [.bool false,.bool false,.int .i64 0,.string (⟨#[]⟩:ByteArray),.string (⟨#[]⟩:ByteArray),.string (⟨#[]⟩:ByteArray),.string (⟨#[]⟩:ByteArray),.int .i64 0,.int .i64 0,.nilIface,.bool false,.int .i64 0,.string (⟨#[]⟩:ByteArray),.string (⟨#[]⟩:ByteArray),.string (⟨#[]⟩:ByteArray),.string (⟨#[]⟩:ByteArray),.int .i64 0,.int .i64 0,.nilIface,.bool false,.bool false,.bool false,.bool false,.slice none 0 0] fU (fun og=>az lJ (ad g1) og (fun(nt:iP)=>K (.agg (iZ nt).toArray) og))))))))))))))))))))))))
def pl47:aB:=(.seq .auto (.seq (.held (.soft 0 (.soft 1 (.soft 2 (.soft 3 (.soft 6 (.soft 7 (.soft 8 (.soft 9 (.pick 4 (.pick 5 (.soft 10 (.soft 11 .done)) .stop) .stop)))))))))) (.seq (.block (.seq .auto (.cond .auto (.seq .auto (.cond .auto (.seq .auto (.cond .auto (.join [(45,.one .bool)] .auto (.cond .auto (.join [(61,.one .bool)] .auto .auto)))))))))) .auto)))
theorem c47 (p0:Addr)(w:World)(K:Value->World->Prop)(h:C47 p0 w K):Ret Tryz.prog 47 #[.pointer (some p0)] w K:=aC (by kernel_rfl) Tryz.func47 (p:=pl47) (Eq.mpr (by kernel_rfl) h)
def C148 (p0:Addr)(p1:iY)(w:World)(K:Value->World->Prop):Prop:=
 aq (.cells ((iO p1).toArray) 110) w (fun g1 w2=>aH w2 (fun w3=>bb (fun S4=>aE S4 (p0.add 17) (ae .ptr (p0.add 17) w3 (fun(x5:Option Addr)=>aE S4 (p0.add 18) (ae .ptr (p0.add 18) w3 (fun(x6:Option Addr)=>ab Tryz.prog 69 #[.pointer x5] w3 (.v (.one .ptr)) (fun(x7:Option Addr) w8=>ak S4 w3 w8 (ab Tryz.prog 83 #[.pointer x6] w8 (.v (.one .ptr)) (fun(x9:Option Addr) aK=>ak S4 w8 aK (ab Tryz.prog 27 #[.pointer x7] aK (.v (.one (.int .i64))) (fun(aZ:Int) aO=>ab Tryz.prog 100 #[.int .i64 aZ] aO (.v (.one (.int .i64))) (fun(bC:Int) bu=>az nX (ad g1) bu (fun(bm:iY)=>ab Tryz.prog 189 #[.pointer x7,.agg (iO bm).toArray] bu (.v (.one (.int .i64))) (fun(aT:Int) cD=>aa (aT != 0)
 (K (.int .i64 aT) cD)
 (ae .bool ((ad g1).add 8) cD (fun(bE:Bool)=>aa (!bE)
 (az dR ((ad g1).add 0) cD (fun(bt:bH)=>ab Tryz.prog 190 #[.pointer x9,.agg (bS bt).toArray,.int .i64 bC] cD (.v (.one (.int .i64))) (fun(cm:Int) bq=>aa (cm != 0)
 (K (.int .i64 cm) bq)
 (ay (p0.add 17) (.pointer x7) bq (fun bA=>ay (p0.add 18) (.pointer x9) bA (fun dW=>av (p0.add 28) [.int .i64 0,.string (⟨#[]⟩:ByteArray),.string (⟨#[]⟩:ByteArray),.string (⟨#[]⟩:ByteArray),.string (⟨#[]⟩:ByteArray),.int .i64 0,.int .i64 0,.nilIface,.bool false] dW (fun bU=>ay (p0.add 37) (.bool false) bU (fun dn=>K (.int .i64 0) dn))))))))
 (ay (p0.add 17) (.pointer x7) cD (fun bZ=>ay (p0.add 18) (.pointer x9) bZ (fun eM=>av (p0.add 28) [.int .i64 0,.string (⟨#[]⟩:ByteArray),.string (⟨#[]⟩:ByteArray),.string (⟨#[]⟩:ByteArray),.string (⟨#[]⟩:ByteArray),.int .i64 0,.int .i64 0,.nilIface,.bool false] eM (fun bV=>ay (p0.add 37) (.bool false) bV (fun eg=>K (.int .i64 0) eg))))))))))))))))))))))
def pl148:aB:=(.seq .auto (.seq (.held (.soft 0 (.soft 1 (.soft 2 (.soft 3 (.soft 5 (.soft 6 (.soft 7 (.soft 8 (.pick 4 (.pick 9 (.soft 10 (.soft 11 .done)) .stop) .stop)))))))))) .auto))
theorem c148 (p0:Addr)(p1:iY)(w:World)(K:Value->World->Prop)(h:C148 p0 p1 w K):Ret Tryz.prog 148 #[.pointer (some p0),.agg (iO p1).toArray] w K:=aC (by kernel_rfl) Tryz.func148 (p:=pl148) (Eq.mpr (by kernel_rfl) h)
def C92 (p0:Addr)(p1:iP)(w:World)(K:Value->World->Prop):Prop:=
 aq (.cells ((iZ p1).toArray) 113) w (fun g1 w2=>bQ (Unit) (fun J3=>ae .bool ((ad g1).add 0) w2 (fun(x6:Bool)=>aa x6
 (az nX ((ad g1).add 2) w2 (fun(x7:iY)=>ab Tryz.prog 148 #[.pointer (some p0),.agg (iO x7).toArray] w2 (.v (.one (.int .i64))) (fun(x8:Int) w9=>aa (x8 != 0)
 (K (.int .i64 x8) w9)
 (J3 (()) w9))))
 (J3 (()) w2)))
 (fun _ s4 w5=>bQ (Unit) (fun qy=>ae .bool ((ad g1).add 1) w5 (fun(bC:Bool)=>aa bC
 (az dR ((ad g1).add 11) w5 (fun(bn:bH)=>av (p0.add 28) [.int .i64 bn.1,.string bn.2.1,.string bn.2.2.1,.string bn.2.2.2.1,.string bn.2.2.2.2.1,.int .i64 bn.2.2.2.2.2.1,.int .i64 bn.2.2.2.2.2.2.1,bn.2.2.2.2.2.2.2.1,.bool true] w5 (fun bL=>aH bL (fun br=>ae .bool ((ad g1).add 19) br (fun(aX:Bool)=>aa aX
 (ay ((ad g1).add 19) (.bool true) br (fun bx=>qy (()) bx))
 (ae .bool ((p0.add 19).add 8) br (fun(bt:Bool)=>aa bt
 (az dR ((p0.add 19).add 0) br (fun(cm:bH)=>az dR ((ad g1).add 11) br (fun(b9:bH)=>ab Tryz.prog 149 #[.agg (bS cm).toArray,.agg (bS b9).toArray] br (.v (.one .bool)) (fun(cr:Bool) dW=>ay ((ad g1).add 19) (.bool cr) dW (fun bU=>qy (()) bU)))))
 (ay ((ad g1).add 19) (.bool false) br (fun dn=>qy (()) dn)))))))))
 (qy (()) w5)))
 (fun _ rI aO=>ae .bool ((ad g1).add 19) aO (fun(dk:Bool)=>aa dk
 (av (p0.add 19) [.int .i64 0,.string (⟨#[]⟩:ByteArray),.string (⟨#[]⟩:ByteArray),.string (⟨#[]⟩:ByteArray),.string (⟨#[]⟩:ByteArray),.int .i64 0,.int .i64 0,.nilIface,.bool false] aO (fun eM=>bQ (Unit) (fun th=>ae .bool (p0.add 37) eM (fun(bX:Bool)=>aa bX
 (ay (p0.add 37) (.bool true) eM (fun cZ=>th (()) cZ))
 (ae .bool ((ad g1).add 20) eM (fun(dH:Bool)=>ay (p0.add 37) (.bool dH) eM (fun fT=>th (()) fT)))))
 (fun _ H4 cn=>ae .bool (p0.add 38) cn (fun(de:Bool)=>aa de
 (ae .bool ((ad g1).add 22) cn (fun(dO:Bool)=>ay (p0.add 38) (.bool (!dO)) cn (fun dq=>K (.int .i64 0) dq)))
 (ae .bool ((ad g1).add 21) cn (fun(dN:Bool)=>aa dN
 (ae .bool ((ad g1).add 22) cn (fun(eY:Bool)=>ay (p0.add 38) (.bool (!eY)) cn (fun ef=>K (.int .i64 0) ef)))
 (ay (p0.add 38) (.bool false) cn (fun kL=>K (.int .i64 0) kL))))))))
 (bQ (Unit) (fun zW=>ae .bool (p0.add 37) aO (fun(fY:Bool)=>aa fY
 (ay (p0.add 37) (.bool true) aO (fun gN=>zW (()) gN))
 (ae .bool ((ad g1).add 20) aO (fun(fO:Bool)=>ay (p0.add 37) (.bool fO) aO (fun gu=>zW (()) gu)))))
 (fun _ OU fU=>ae .bool (p0.add 38) fU (fun(fR:Bool)=>aa fR
 (ae .bool ((ad g1).add 22) fU (fun(jy:Bool)=>ay (p0.add 38) (.bool (!jy)) fU (fun iA=>K (.int .i64 0) iA)))
 (ae .bool ((ad g1).add 21) fU (fun(qc:Bool)=>aa qc
 (ae .bool ((ad g1).add 22) fU (fun(jz:Bool)=>ay (p0.add 38) (.bool (!jz)) fU (fun jV=>K (.int .i64 0) jV)))
 (ay (p0.add 38) (.bool false) fU (fun iQ=>K (.int .i64 0) iQ)))))))))))
def pl92:aB:=(.seq .auto (.join [] .auto (.join [] (.seq .auto (.cond (.seq .auto (.tail 16)) .auto)) (.seq .auto (.join [] .auto .auto)))))
theorem c92 (p0:Addr)(p1:iP)(w:World)(K:Value->World->Prop)(h:C92 p0 p1 w K):Ret Tryz.prog 92 #[.pointer (some p0),.agg (iZ p1).toArray] w K:=aC (by kernel_rfl) Tryz.func92 (p:=pl92) (Eq.mpr (by kernel_rfl) h)
namespace Vc
def putAt:Array Value->Nat->List Value->Array Value
 | cs,_,[]=>cs
 | cs,n,v::vs=>putAt (cs.setIfInBounds n v) (n+1) vs
def qA:List Value->Nat->List Value->List Value
 | l,_,[]=>l
 | l,n,v::vs=>qA (l.set n v) (n+1) vs
theorem H5:∀ (vs l pre:List Value) (n:Nat),putAt (pre++l).toArray (pre.length+n) vs=(pre++qA l n vs).toArray
 | [],l,pre,n=>rfl
 | v::vs,l,pre,n=>by
  have e:(pre++l).toArray.setIfInBounds (pre.length+n) v=(pre++l.set n v).toArray:=by
   apply Array.ext';rw[Array.toList_setIfInBounds];simp[List.set_append_right]
  rw[putAt,e,qA,<- H5 vs (l.set n v) pre (n+1)];rfl
theorem ZV (l vs:List Value)(n:Nat):putAt l.toArray n vs=(qA l n vs).toArray:=by
 have:=H5 vs l [] n;simpa using this
theorem setCells_at {b off:Nat}{T:TypeId}:∀ (vs:List Value) (w:World) (i:Nat) (cs:Array Value),w.heap[b]? = some (.cells cs T (0,0))->off+i+vs.length<=cs.size->vs.all bJ=true ->
  oL w ⟨b,off,none⟩ i vs/\(setCells w ⟨b,off,none⟩ i vs).heap[b]? = some (.cells (putAt cs (off+i) vs) T (0,0))/\Fr (only b) w (setCells w ⟨b,off,none⟩ i vs)/\(setCells w ⟨b,off,none⟩ i vs).heap.size=w.heap.size
 | [],w,i,cs,hb,hl,_=>⟨trivial,hb,Fr.refl _ _,rfl⟩
 | v::vs,w,i,cs,hb,hl,h1=>by
  simp only[List.all_cons,Bool.and_eq_true] at h1;simp only[List.length_cons] at hl;have hs:=heap_setCell_same (i:=off+i) (v:=v) hb;obtain⟨a1,a2,a3,a4⟩:=setCells_at (off:=off) vs (w.setCell ⟨b,off+i,none⟩ v) (i+1) (cs.setIfInBounds (off+i) v) hs (by rw[Array.size_setIfInBounds];omega) h1.2;unfold oL setCells;rw[dw];exact⟨⟨h1.1,by rw[oT hb,Array.getElem?_eq_getElem (show off+i<cs.size by omega)];rfl,xE hb,a1⟩,a2,(xD w b _ v).trans a3,by rw[a4];simp[World.setCell]⟩
theorem av.at {b off:Nat}{vs:List Value}{w:World}{K:World->Prop}{cs:Array Value}{T:TypeId}(hb:w.heap[b]? = some (.cells cs T (0,0)))(hl:off+vs.length<=cs.size)(h1:vs.all bJ=true)
  (h:∀ w1,w1.heap[b]? = some (.cells (putAt cs off vs) T (0,0))->Fr (only b) w w1->w1.heap.size=w.heap.size->K w1):av ⟨b,off,none⟩ vs w K:=by
 obtain⟨a1,a2,a3,a4⟩:=setCells_at vs w 0 cs hb (by omega) h1;exact⟨a1,h _ a2 a3 a4⟩
end Vc
def j3 (p:PeerM)(c l:Nat):List Value:=
 [.int .i64 p.side,.pointer (some ⟨c,0,none⟩),.pointer (some ⟨l,0,none⟩)]++(gP p.off.1.e++([.bool p.off.2]++(gP p.bB.1.e++[.bool p.bB.2,.bool p.wanted,.bool p.dJ,.int .i64 p.refused])))
theorem rO (p:PeerM)(c l:Nat):(j3 p c l).length=24:=rfl
structure kH (w:World)(F:Nat->Prop)(b:Nat)(p:PeerM)(c l:Nat)(Fc Fl:Nat->Prop):Prop where
 aG:w.heap[b]? = some (.cells (cK p.kb++j3 p c l).toArray 138 (0,0))
 ch:j2 w Fc c p.kb p.es p.hs
 ld:dL w Fl l p.cy
 cf:∀ k,Fc k->F k/\k≠b
 lf:∀ k,Fl k->F k/\k≠b
 mem:F b
def dE (w:World)(F:Nat->Prop)(b:Nat)(p:PeerM):Prop:=∃ c l Fc Fl,kH w F b p c l Fc Fl
theorem kH.ag {w w':World}{F T:Nat->Prop}{b:Nat}{p:PeerM}{c l:Nat}{Fc Fl:Nat->Prop}(h:kH w F b p c l Fc Fl)(f:Fr T w w')(hT:∀ k,F k->¬ T k):kH w' F b p c l Fc Fl:=
 ⟨f.ag h.aG (hT b h.mem),h.ch.ag f fun k U=>hT k (h.cf k U).1,h.ld.ag f fun k U=>hT k (h.lf k U).1,h.cf,h.lf,h.mem⟩
theorem kH.af {w w':World}{F:Nat->Prop}{b:Nat}{p:PeerM}{c l:Nat}{Fc Fl:Nat->Prop}(h:kH w F b p c l Fc Fl)(f:Fr none1 w w'):kH w' F b p c l Fc Fl:=h.ag f fun _ _ t=>t
theorem dE.ag {w w':World}{F T:Nat->Prop}{b:Nat}{p:PeerM}(h:dE w F b p)(f:Fr T w w')(hT:∀ k,F k->¬ T k):dE w' F b p:=by
 obtain⟨c,l,Fc,Fl,h⟩:=h;exact⟨c,l,Fc,Fl,h.ag f hT⟩
theorem dE.af {w w':World}{F:Nat->Prop}{b:Nat}{p:PeerM}(h:dE w F b p)(f:Fr none1 w w'):dE w' F b p:=h.ag f fun _ _ t=>t
theorem dE.mono {w:World}{F G:Nat->Prop}{b:Nat}{p:PeerM}(h:dE w F b p)(hG:∀ k,F k->G k):dE w G b p:=by
 obtain⟨c,l,Fc,Fl,h⟩:=h;exact⟨c,l,Fc,Fl,h.aG,h.ch,h.ld,fun k U=>⟨hG k (h.cf k U).1,(h.cf k U).2⟩,fun k U=>⟨hG k (h.lf k U).1,(h.lf k U).2⟩,hG b h.mem⟩
theorem H6 {kb:List UInt8}(U:kb.length=16){t:List Value}(i:Nat):(cK kb++t).toArray[16+i]? = t[i]? := by
 have:=kF (kb:=kb);rw[List.getElem?_toArray,List.getElem?_append_right (by omega),this,U]
 congr 1;omega
theorem kH.dP {w:World}{F:Nat->Prop}{b:Nat}{p:PeerM}{c l:Nat}{Fc Fl:Nat->Prop}(h:kH w F b p c l Fc Fl)(U:p.kb.length=16)(i:Nat){ck:Ck}{x:ck.C}(hx:(j3 p c l)[i]? = some (ck.val x)){K:ck.C->Prop}(k:K x):ae ck ⟨b,16+i,none⟩ w K:=
 ae.of h.aG (by rw[H6 U];exact hx) k
theorem kH.uC {w:World}{F:Nat->Prop}{b:Nat}{p:PeerM}{c l:Nat}{Fc Fl:Nat->Prop}(h:kH w F b p c l Fc Fl)(U:p.kb.length=16)(i:Nat){cks:List Ck}(x:Cs cks)(hx:∀ j,j<(Cs.vals cks x).length->(j3 p c l)[i+j]? = (Cs.vals cks x)[j]?){K:Cs cks->Prop}(k:K x):az cks ⟨b,16+i,none⟩ w K:=
 ⟨x,tK h.aG _ _ 0 fun j hj=>by rw[Nat.add_zero,Nat.add_assoc,H6 U];exact hx j hj,k⟩
theorem kH.key {w:World}{F:Nat->Prop}{b:Nat}{p:PeerM}{c l:Nat}{Fc Fl:Nat->Prop}(h:kH w F b p c l Fc Fl)(U:p.kb.length=16){K:List Value->Prop}(k:K (cK p.kb)):eF 16 ((⟨b,0,none⟩:Addr).add 0) w K:=by
 refine⟨cK p.kb,by rw[kF,U],?_,k⟩;rw[dw];refine nV h.aG _ 0 fun j hj=>?_;rw[List.getElem?_toArray,Nat.zero_add,List.getElem?_append_left hj]
theorem OV (n:Int)(h0:0<=n)(w:World):Ret Tryz.prog 100 #[.int .i64 n] w fun r w'=>r=.int .i64 (PeerM.owner n)/\w=w':=by
 refine c100 n w _ ?_;refine⟨by decide,?_⟩;unfold PeerM.owner;have:Int.tmod n 2=n % 2:=Int.tmod_eq_emod_of_nonneg h0;rw[this];exact aa.eq (fun h=>by rw[if_pos h];exact⟨rfl,rfl⟩) (fun h=>by rw[if_neg h];exact⟨rfl,rfl⟩)
theorem OW {w:World}{F:Nat->Prop}{b:Nat}{p:PeerM}(h:dE w F b p)(U:p.kb.length=16):Ret Tryz.prog 97 #[.pointer (some ⟨b,0,none⟩)] w fun r w'=>r=.bool p.full/\w=w':=by
 obtain⟨c,l,Fc,Fl,h⟩:=h;refine c97 _ w _ ?_;refine h.dP U 1 (ck:=.ptr) (x:=some ⟨c,0,none⟩) rfl ?_;refine ab.of (zO U h.ch) ?_;rintro _ _ ⟨rfl,rfl⟩;refine⟨_,rfl,?_,rfl⟩;unfold PeerM.full
 congr 1
 by_cases h:64<=p.es.length
 ·rw[decide_eq_true h,decide_eq_true (by omega)]
 ·rw[decide_eq_false h,decide_eq_false (by omega)]
def oK (fs:List cU):List Value:=(fs.map fun f=>dv f.f).flatten
theorem H7 (f:cU):oK [f]=dv f.f:=by unfold oK;simp
theorem H8:gL Tryz.prog 111 42 15 (.agg #[.int .i64 0,.int .i64 0,.int .i64 0,.int .i64 0,.int .i64 0,.int .u64 0,.bool false,.int .i64 0,.string ⟨#[]⟩,.string ⟨#[]⟩,.string ⟨#[]⟩,.string ⟨#[]⟩,.int .i64 0,.int .i64 0,.nilIface]) 160:=⟨Tryz.underlying111,⟨Tryz.t42,by kernel_rfl,rfl,rfl,rfl⟩,rfl,by decide⟩
theorem OX (f:cU):(dv f.f).all bJ=true:=FR (Tm.bP _)
theorem OY (m:aQ):(gP m.e).all bJ=true:=by
 show(_&&(_&&(_&&(_&&(_&&(_&&(_&&(bJ m.t.v&&true))))))))=true;rw[Tm.bP];rfl
theorem H9 {w:World}{F:Nat->Prop}{b:Nat}{p:PeerM}(h:dE w F b p)(ho:dK p)(kind:Int):Ret Tryz.prog 101 #[.pointer (some ⟨b,0,none⟩),.int .i64 kind] w fun r w'=>r=qo (p.gm kind false bp).f/\Fr none1 w w':=by
 obtain⟨c,l,Fc,Fl,h⟩:=h;have U:=ho.kb;have oV:=ho.num;refine c101 _ kind w _ ?_;unfold C101;refine aq.of fun g1 w1 di ar f1 _=>aH.of fun w2 _ f2=>bb.of (fun k=>k=b) ?_;have f12:=f1.trans f2;have h2:=h.af f12;have bl:=cj h.aG;refine⟨rfl,h2.dP U 1 (ck:=.ptr) (x:=some ⟨c,0,none⟩) rfl ⟨rfl,h2.dP U 1 (ck:=.ptr) (x:=some ⟨c,0,none⟩) rfl ?_⟩⟩;refine ab.of (zO U h2.ch) ?_;rintro _ _ ⟨rfl,rfl⟩;refine⟨_,rfl,ak.of (Fr.refl _ _) ?_⟩;refine ab.of (OF U h2.ch ho.hs (by omega)) ?_;rintro _ w3 ⟨rfl,f3⟩;refine⟨_,rfl,ak.of f3 ?_⟩;refine av.aG ((f2.trans f3).af ar) rfl rfl fun w4 dm f4 _=>ak.on f4 (fun k U q=>by have:k=g1:=q;have:k=b:=U;omega) ?_;exact az.aG (cks:=FK) (x:=(p.gm kind false bp).f) dm ⟨rfl,(f12.trans f3).fresh f4 (by omega)⟩
theorem OZ {w:World}{F:Nat->Prop}{b:Nat}{p:PeerM}(h:dE w F b p)(ho:dK p)(m:aQ):Ret Tryz.prog 102 #[.pointer (some ⟨b,0,none⟩),gV m.e] w fun r w'=>∃ s:Sl,r=.slice s.1 s.2.1 s.2.2/\aD w' 42 15 s (oK [p.gm 1 false m])/\Fr none1 w w'/\∀ k,au s k->w.heap.size<=k:=by
 refine c102 _ m.e w _ ?_;unfold C102;refine aq.of fun g1 w1 di ar f1 _=>?_;refine ab.of (H9 (h.af f1) ho 1) ?_;rintro _ w2 ⟨rfl,f2⟩;refine⟨(p.gm 1 false bp).f,rfl,?_⟩;have f12:=f1.trans f2;refine aq.of fun g5 w3 uH dr f3 _=>av.aG dr rfl rfl fun w4 dm f4 s4=>?_;have aA:g1≠g5:=by have:=cj ar;have:=f2.size;omega
 have e4:kG w4 g1 m:=f4.ag (f3.af (f2.af ar)) aA;refine az.aG (cks:=ir) (x:=m.e) e4 ?_;refine av.at (off:=7) dm (by show 7+8<=15;decide) (OY m) fun w5 FB f5 s5=>?_;have e:qA (dv (p.gm 1 false bp).f) 7 (gP m.e)=dv (p.gm 1 false m).f:=rfl;have dr:w5.heap[g5]? = some (.cells (dv (p.gm 1 false m).f).toArray 42 (0,0)):=by rw[<- e,<- ZV];exact FB
 refine az.aG (cks:=FK) (x:=(p.gm 1 false m).f) dr ?_;obtain⟨s,w6,hr,hs,_,f6,sf⟩:=oI (P:=Tryz.prog) (w:=w5) H8 (dv (p.gm 1 false m).f) rfl (by decide);have s1:=f12.size;exact⟨s,w6,hr,s,rfl,by rw[H7];exact hs,(((f12.trans f3).fresh f4 (by omega)).fresh f5 (by show w.heap.size<=g5;omega)).trans f6,fun k U=>by have:=sf k U;have:=f3.size;omega⟩
abbrev mh:List Ck:=[.bool,.bool,.int .i64,.str,.str,.str,.str,.int .i64,.int .i64,.raw,.bool,.int .i64,.str,.str,.str,.str,.int .i64,.int .i64,.raw,.bool,.bool,.bool,.bool,.ah]
def pL (a:cG)(s:Sl):Cs mh:=
 (a.dj,a.cM,a.bg.1.e.1,a.bg.1.e.2.1,a.bg.1.e.2.2.1,a.bg.1.e.2.2.2.1,a.bg.1.e.2.2.2.2.1,a.bg.1.e.2.2.2.2.2.1,a.bg.1.e.2.2.2.2.2.2.1,a.bg.1.e.2.2.2.2.2.2.2.1,a.bg.2,a.bI.e.1,a.bI.e.2.1,a.bI.e.2.2.1,a.bI.e.2.2.2.1,a.bI.e.2.2.2.2.1,a.bI.e.2.2.2.2.2.1,a.bI.e.2.2.2.2.2.2.1,a.bI.e.2.2.2.2.2.2.2.1,a.drop,a.wanted,a.dJ,a.calm,s,())
def jJ (a:cG)(s:Sl):List Value:=Cs.vals mh (pL a s)
def Cy (B:Nat)(w:World)(r:Value)(a:cG):Prop:=∃ s:Sl,r=.agg (jJ a s).toArray/\aD w 42 15 s (oK a.cz)/\∀ k,au s k->B<=k
theorem Cz {w:World}{a:cG}(h:a.cz=[]):aD w 42 15 (none,0,0) (oK a.cz):=by rw[h];exact .inl ⟨rfl,rfl⟩
theorem ZW {w:World}{F:Nat->Prop}{b:Nat}{p:PeerM}(h:dE w F b p)(ho:dK p)(m:aQ)(hm:aJ m.t<=1000000)(ht:TabW w):Ret Tryz.prog 103 #[.pointer (some ⟨b,0,none⟩),gV m.e] w fun r w'=>Cy w.heap.size w' r (p.jY m)/\Fr none1 w w':=by
 have hR:=h;obtain⟨c,l,Fc,Fl,h⟩:=h;have U:=ho.kb;refine c103 _ m.e w _ ?_;unfold C103 PeerM.jY;refine aq.of fun g1 w1 di ar f1 _=>aq.of fun g3 w2 wA ba f2 _=>aH.of fun w3 _ f3=>?_;have f13:=(f1.trans f2).trans f3;have h3:=h.af f13;have e3:kG w3 g1 m:=(f2.trans f3).af ar;refine h3.dP U 2 (ck:=.ptr) (x:=some ⟨l,0,none⟩) rfl (az.aG (cks:=ir) (x:=m.e) e3 (h3.dP U 0 (ck:=.int .i64) (x:=p.side) rfl ?_));refine ab.of (OS h3.ld ho.cy m hm (ht.af f13) p.side) ?_;rintro _ w4 ⟨rfl,f4⟩;have f14:=f13.trans f4;have O0:w.heap.size<=g3:=by have:=f1.size;omega
 refine⟨_,rfl,aa.ne (fun aA=>?_) (fun he=>?_)⟩
 ·rw[if_pos aA]
  refine av.aG ((f3.trans f4).af ba) rfl rfl fun w5 dr f5 _=>?_;exact az.aG (cks:=mh) (x:=pL { eD with drop:=true } (none,0,0)) dr ⟨⟨(none,0,0),rfl,Cz rfl,fun k t=>(jP k t).elim⟩,f14.fresh f5 O0⟩
 rw[if_neg (fun t=>t he)];refine aH.of fun w5 _ f5=>bb.of (fun k=>k=g1) ?_;have e5:=(e3.af f4).af f5;refine⟨rfl,az.aG (cks:=ir) (x:=m.e) e5 ⟨rfl,az.aG (cks:=ir) (x:=m.e) e5 ?_⟩⟩;have f15:=f14.trans f5;refine ab.of (OZ (hR.af f15) ho m) ?_;rintro _ w6 ⟨s,rfl,hs,f6,sf⟩;refine⟨s,rfl,ak.of f6 ?_⟩;refine av.aG (((f3.trans f4).trans (f5.trans f6)).af ba) rfl (by
  show(_&&(_&&(_&&(_&&(_&&(_&&(_&&(_&&(_&&(_&&(_&&(_&&(_&&(_&&(_&&(_&&(_&&(_&&(bJ m.t.v&&(_&&(_&&(_&&(_&&(_&&true))))))))))))))))))))))))=true;rw[Tm.bP];rfl) fun w7 hU f7 s7=>ak.on f7 (fun k U q=>by have:k=g3:=q;have:k=g1:=U;have:=cj ar;omega) ?_
 refine az.aG (cks:=mh) (x:=pL { eD with cM:=true,bI:=m,cz:=[p.gm 1 false m] } s) hU ⟨⟨s,rfl,hs.ag f7 fun k U q=>?_,fun k U=>by have:=sf k U;have:=f15.size;omega⟩,(f15.trans f6).fresh f7 O0⟩
 have:=sf k U;have:k=g3:=q;have:=cj ((f3.trans (f4.trans f5)).af ba);omega
theorem ZX (a:cG)(s:Sl):(jJ a s).all bJ=true:=by
 show(_&&(_&&(_&&(_&&(_&&(_&&(_&&(_&&(_&&(bJ a.bg.1.t.v&&(_&&(_&&(_&&(_&&(_&&(_&&(_&&(_&&(bJ a.bI.t.v&&(_&&(_&&(_&&(_&&(_&&true))))))))))))))))))))))))=true;rw[Tm.bP,Tm.bP];rfl
theorem u6 {w wx:World}{g3:Nat}{cs:List Value}(hb:wx.heap[g3]? = some (.cells cs.toArray 113 (0,0)))(hl:cs.length=24)(hg:w.heap.size<=g3)(f:Fr none1 w wx)(a:cG)(s:Sl)(hs:aD wx 42 15 s (oK a.cz))(hd:∀ k,au s k->k≠g3)(hB:∀ k,au s k->w.heap.size<=k){A:cG}(e:A=a):
  av ⟨g3,0,none⟩ (jJ a s) wx fun w1=>az mh ⟨g3,0,none⟩ w1 fun x=>(Cy w.heap.size w1 (.agg (Cs.vals mh x).toArray) A/\Fr none1 w w1):=by
 subst e;refine av.aG hb (by rw[hl];rfl) (ZX A s) fun w1 ar f1 _=>az.aG (cks:=mh) (x:=pL A s) ar ⟨⟨s,rfl,hs.ag f1 fun k U q=>hd k U q,hB⟩,f.fresh f1 hg⟩
theorem Ia {B:Nat}:∀ k,au (none,0,0) k->B<=k:=fun k t=>(jP k t).elim
theorem Ib {g:Nat}:∀ k,au (none,0,0) k->k≠g:=fun k t=>(jP k t).elim
def CA (w:World)(g:Nat)(f:cU):Prop:=w.heap[g]? = some (.cells (dv f.f).toArray 42 (0,0))
theorem ZY {w:World}{F:Nat->Prop}{b:Nat}{p:PeerM}(h:dE w F b p)(ho:dK p)(ht:TabW w):Ret Tryz.prog 47 #[.pointer (some ⟨b,0,none⟩)] w fun r w'=>Cy w.heap.size w' r p.tick/\Fr none1 w w':=by
 have hR:=h;obtain⟨c,l,Fc,Fl,h⟩:=h;have U:=ho.kb;have oV:=ho.num;refine c47 _ w _ ?_;unfold C47;refine aq.of fun g1 w1 di ar f1 _=>aH.of fun w2 _ f2=>bb.all ?_;have f12:=f1.trans f2;have aM:=f2.af ar;have h2:=h.af f12;have tj:w.heap.size<=g1:=by omega
 refine aE.all (h2.dP U 1 (ck:=.ptr) (x:=some ⟨c,0,none⟩) rfl (aE.all (h2.dP U 0 (ck:=.int .i64) (x:=p.side) rfl ?_)));refine ab.of (zO U h2.ch) ?_;rintro _ _ ⟨rfl,rfl⟩;refine⟨_,rfl,ak.of (Fr.refl _ _) ?_⟩;refine ab.of (OV (p.es.length:Int) (by omega) w2) ?_;rintro _ _ ⟨rfl,rfl⟩;refine⟨_,rfl,?_⟩
 try refine ak.of (Fr.refl _ _) ?_
 have fresh:∀ {wx wy:World} {s:Sl},Fr none1 w2 wx->(∀ k,au s k->wx.heap.size<=k)->∀ k,au s k->k≠g1:=fun f sf k U=>by have:=sf k U;have:=cj aM;have:=f.size;omega
 refine h2.dP U 22 (ck:=.bool) (x:=p.dJ) rfl (aa.by (fun hq=>?_) (fun hq=>?_))
 ·refine ab.of (H9 (hR.af f12) ho 4) ?_
  rintro _ w3 ⟨rfl,f3⟩;refine⟨(p.gm 4 false bp).f,rfl,?_⟩;refine aq.of fun g5 w4 uH dr f4 _=>av.aG dr rfl rfl fun w5 dr f5 s5=>?_;have dr:w5.heap[g5]? = some (.cells (dv (p.gm 4 false bp).f).toArray 42 (0,0)):=dr;refine ay.ai dr (by show 0+6<15;decide) rfl fun w6 gI f6 s6=>?_;have gI:w6.heap[g5]? = some (.cells (dv (p.gm 4 true bp).f).toArray 42 (0,0)):=gI;refine az.aG (cks:=FK) (x:=(p.gm 4 true bp).f) gI ?_;obtain⟨s,w7,hr,hs,_,f7,sf⟩:=oI (P:=Tryz.prog) (w:=w6) H8 (dv (p.gm 4 true bp).f) rfl (by decide);refine⟨s,w7,hr,?_⟩;have l2:=cj aM;have z3:=f3.size;have f26:Fr none1 w2 w6:=((f3.trans f4).fresh f5 (by omega)).fresh f6 (by omega);exact u6 ((f26.trans f7).af aM) rfl tj ((f12.trans f26).trans f7) { eD with cz:=[p.gm 4 true bp] } s (by rw[H7];exact hs) (fun k U=>by have:=sf k U;have:=f26.size;omega) (fun k U=>by have:=sf k U;have:=f26.size;have:=f12.size;omega) (by unfold PeerM.tick;rw[if_pos hq])
 have q1:¬ p.dJ=true:=by rw[hq];simp
 refine ab.of (OW (hR.af f12) U) ?_;rintro _ _ ⟨rfl,rfl⟩;refine⟨_,rfl,aa.by (fun hf=>?_) (fun hf=>?_)⟩
 ·exact u6 aM rfl tj f12 eD (none,0,0) (Cz rfl) Ib Ia (by unfold PeerM.tick;rw[if_neg q1,if_pos hf])
 have q2:¬ p.full=true:=by rw[hf];simp
 refine h2.dP U 20 (ck:=.bool) (x:=p.bB.2) rfl (aa.by (fun hp=>?_) (fun hp=>?_))
 ·refine h2.uC U 12 (cks:=ir) p.bB.1.e (fun j hj=>?_) ?_
  ·match j,hj with
   | 0,_=>rfl
   | 1,_=>rfl
   | 2,_=>rfl
   | 3,_=>rfl
   | 4,_=>rfl
   | 5,_=>rfl
   | 6,_=>rfl
   | 7,_=>rfl
  refine ab.of (OZ (hR.af f12) ho p.bB.1) ?_;rintro _ w3 ⟨s,rfl,hs,f3,sf⟩;refine⟨s,rfl,?_⟩;exact u6 (f3.af aM) rfl tj (f12.trans f3) { eD with cz:=[p.gm 1 false p.bB.1] } s hs (fun k U=>by have:=sf k U;have:=cj aM;omega) (fun k U=>by have:=sf k U;have:=f12.size;omega) (by unfold PeerM.tick;rw[if_neg q1,if_neg q2,if_pos hp])
 have q3:¬ p.bB.2=true:=by have hp:p.bB.2=false:=hp;rw[hp];simp
 have e0:p.tick=if PeerM.owner p.len=p.side/\p.off.2=true then p.jY p.off.1 else if PeerM.owner p.len=p.side/\p.wanted=true then p.jY wJ else if PeerM.owner p.len≠p.side/\p.off.2=true then{ eD with cz:=[p.gm 3 false bp] } else eD:=by
  conv=>lhs;unfold PeerM.tick
  rw[if_neg q1,if_neg q2,if_neg q3]
 have hlen:PeerM.owner (p.es.length:Int)=PeerM.owner p.len:=rfl;rw[hlen];generalize PeerM.owner p.len=O at *
 -- a aby, told through the cell
 have O1:∀ (m:aQ),aJ m.t<=1000000->p.tick=p.jY m->ab Tryz.prog 103 #[.pointer (some ⟨b,0,none⟩),gV m.e] w2 (.v (.agg mh)) fun(x:Cs mh) w3=>av ⟨g1,0,none⟩ (Cs.vals mh x) w3 fun w4=>az mh ⟨g1,0,none⟩ w4 fun(y:Cs mh)=>(Cy w.heap.size w4 (.agg (Cs.vals mh y).toArray) p.tick/\Fr none1 w w4):=by
  intro m hm e;refine ab.of (ZW (hR.af f12) ho m hm (ht.af f12)) ?_;rintro _ w3 ⟨⟨s,rfl,hs,sf⟩,f3⟩;refine⟨pL (p.jY m) s,rfl,?_⟩;exact u6 (f3.af aM) rfl tj (f12.trans f3) (p.jY m) s hs (fun k U q=>by have:=sf k U;have:=cj aM;omega) (fun k U=>by have:=sf k U;have:=f12.size;omega) e
 refine bQ.of (fun st w'=>st.1=decide (O=p.side/\p.off.2=true)/\w2=w') ?_ ?_
 ·refine aa.eq (fun hO=>h2.dP U 11 (ck:=.bool) (x:=p.off.2) rfl ⟨?_,rfl⟩) (fun hO=>⟨?_,rfl⟩)
  ·have hO:O=p.side:=hO
   simp[hO]
  ·have hO:O≠p.side:=hO
   simp[hO]
 rintro _ ⟨st,_⟩ _ ⟨cV,rfl⟩;dsimp only at cV ⊢;subst cV;refine aa.dec (fun h1=>?_) (fun h1=>?_)
 ·refine h2.uC U 3 (cks:=ir) p.off.1.e (fun j hj=>?_) ?_
  ·match j,hj with
   | 0,_=>rfl
   | 1,_=>rfl
   | 2,_=>rfl
   | 3,_=>rfl
   | 4,_=>rfl
   | 5,_=>rfl
   | 6,_=>rfl
   | 7,_=>rfl
  exact O1 p.off.1 ho.off.2.2.2.2 (by rw[e0,if_pos h1])
 refine bQ.of (fun st w'=>st.1=decide (O=p.side/\p.wanted=true)/\w2=w') ?_ ?_
 ·refine aa.eq (fun hO=>h2.dP U 21 (ck:=.bool) (x:=p.wanted) rfl ⟨?_,rfl⟩) (fun hO=>⟨?_,rfl⟩)
  ·have hO:O=p.side:=hO
   simp[hO]
  ·have hO:O≠p.side:=hO
   simp[hO]
 rintro _ ⟨st,_⟩ _ ⟨cV,rfl⟩;dsimp only at cV ⊢;subst cV;refine aa.dec (fun h3=>?_) (fun h3=>?_)
 ·exact O1 wJ (by decide) (by rw[e0,if_neg h1,if_pos h3])
 refine aa.not (aa.eq (fun hO=>?_) (fun hO=>?_))
 ·have hO:O=p.side:=hO
  exact u6 aM rfl tj f12 eD (none,0,0) (Cz rfl) Ib Ia (by rw[e0,if_neg h1,if_neg h3,if_neg (fun t=>t.1 hO)])
 have hO:O≠p.side:=hO;refine h2.dP U 11 (ck:=.bool) (x:=p.off.2) rfl (aa.by (fun hw=>?_) (fun hw=>?_))
 ·have hw:p.off.2=true:=hw
  refine ab.of (H9 (hR.af f12) ho 3) ?_;rintro _ w3 ⟨rfl,f3⟩;refine⟨(p.gm 3 false bp).f,rfl,?_⟩;obtain⟨s,w4,hr,hs,_,f4,sf⟩:=oI (P:=Tryz.prog) (w:=w3) H8 (dv (p.gm 3 false bp).f) rfl (by decide);refine⟨s,w4,hr,?_⟩;exact u6 ((f3.trans f4).af aM) rfl tj ((f12.trans f3).trans f4) { eD with cz:=[p.gm 3 false bp] } s (by rw[H7];exact hs) (fun k U=>by have:=sf k U;have:=cj aM;have:=f3.size;omega) (fun k U=>by have:=sf k U;have:=f12.size;have:=f3.size;omega) (by rw[e0,if_neg h1,if_neg h3,if_pos ⟨hO,hw⟩])
 ·have hw:p.off.2=false:=hw
  exact u6 aM rfl tj f12 eD (none,0,0) (Cz rfl) Ib Ia (by rw[e0,if_neg h1,if_neg h3,if_neg (fun t=>by rw[hw] at t;exact absurd t.2 (by simp))])
theorem ZZ (a:cG)(s:Sl)(n:Nat)(v:Value):(jJ a s).toArray.setIfInBounds n v=((jJ a s).set n v).toArray:=by simp
theorem xe (a:cG)(s:Sl):jJ a s=[.bool a.dj,.bool a.cM,.int .i64 a.bg.1.1,.string (str a.bg.1.2.1),.string (str a.bg.1.2.2.1),.string (str a.bg.1.2.2.2.1),.string (str a.bg.1.2.2.2.2.1),.int .i64 a.bg.1.2.2.2.2.2.1,.int .i64 a.bg.1.2.2.2.2.2.2.1,a.bg.1.2.2.2.2.2.2.2.v,.bool a.bg.2,.int .i64 a.bI.1,.string (str a.bI.2.1),.string (str a.bI.2.2.1),.string (str a.bI.2.2.2.1),.string (str a.bI.2.2.2.2.1),.int .i64 a.bI.2.2.2.2.2.1,.int .i64 a.bI.2.2.2.2.2.2.1,a.bI.2.2.2.2.2.2.2.v,.bool a.drop,.bool a.wanted,.bool a.dJ,.bool a.calm,.slice s.1 s.2.1 s.2.2]:=rfl
theorem Z0 (a:cG)(s:Sl):(jJ a s).toArray.size=24:=rfl
theorem CA.ev {w:World}{g:Nat}{f:cU}(h:CA w g f){K:Cs ir->Prop}(k:K f.m.e):az ir ((⟨g,0,none⟩:Addr).add 7) w K:=by
 rw[dw];refine⟨f.m.e,tK h _ _ 0 fun j hj=>?_,k⟩
 match j,hj with
 | 0,_=>rfl
 | 1,_=>rfl
 | 2,_=>rfl
 | 3,_=>rfl
 | 4,_=>rfl
 | 5,_=>rfl
 | 6,_=>rfl
 | 7,_=>rfl
theorem CA.kind {w:World}{g:Nat}{f:cU}(h:CA w g f){K:Int->Prop}(k:K f.m.kind):ae (.int .i64) (((⟨g,0,none⟩:Addr).add 7).add 0) w K:=by
 rw[dw,dw];exact ae.of h (x:=f.m.kind) rfl k
theorem qB (p:PeerM)(c l:Nat):j3 p c l=[.int .i64 p.side,.pointer (some ⟨c,0,none⟩),.pointer (some ⟨l,0,none⟩),.int .i64 p.off.1.1,.string (str p.off.1.2.1),.string (str p.off.1.2.2.1),.string (str p.off.1.2.2.2.1),.string (str p.off.1.2.2.2.2.1),.int .i64 p.off.1.2.2.2.2.2.1,.int .i64 p.off.1.2.2.2.2.2.2.1,p.off.1.2.2.2.2.2.2.2.v,.bool p.off.2,.int .i64 p.bB.1.1,.string (str p.bB.1.2.1),.string (str p.bB.1.2.2.1),.string (str p.bB.1.2.2.2.1),.string (str p.bB.1.2.2.2.2.1),.int .i64 p.bB.1.2.2.2.2.2.1,.int .i64 p.bB.1.2.2.2.2.2.2.1,p.bB.1.2.2.2.2.2.2.2.v,.bool p.bB.2,.bool p.wanted,.bool p.dJ,.int .i64 p.refused]:=rfl
theorem tk {w:World}{b:Nat}{kb:List UInt8}(U:kb.length=16){t:List Value}{T:TypeId}(hb:w.heap[b]? = some (.cells (cK kb++t).toArray T (0,0)))(i:Nat)(hi:i<t.length){v:Value}(h1:bJ v=true){K:World->Prop}
  (k:∀ w1,w1.heap[b]? = some (.cells (cK kb++t.set i v).toArray T (0,0))->Fr (only b) w w1->w1.heap.size=w.heap.size->K w1):ay ⟨b,16+i,none⟩ v w K:=by
 have hl:=kF (kb:=kb);refine ay.of hb (by simp[hl,U];omega) h1 fun w1 ar f1 s1=>k w1 ?_ f1 s1;rw[ar]
 congr 2
 apply Array.ext';rw[Array.toList_setIfInBounds];show(cK kb++t).set (16+i) v=_;rw[List.set_append_right _ _ (by omega),hl,U]
 congr 2;omega
theorem CB {w:World}{b:Nat}{kb:List UInt8}(U:kb.length=16){t:List Value}{T:TypeId}(hb:w.heap[b]? = some (.cells (cK kb++t).toArray T (0,0)))(i:Nat){vs:List Value}(hi:i+vs.length<=t.length)(h1:vs.all bJ=true){K:World->Prop}
  (k:∀ w1,w1.heap[b]? = some (.cells (cK kb++qA t i vs).toArray T (0,0))->Fr (only b) w w1->w1.heap.size=w.heap.size->K w1):av ⟨b,16+i,none⟩ vs w K:=by
 have hl:=kF (kb:=kb);refine av.at hb (by simp[hl,U];omega) h1 fun w1 ar f1 s1=>k w1 ?_ f1 s1;rw[ar];have:=H5 vs t (cK kb) i;rw[hl,U] at this;rw[this]
theorem Z1 (p:PeerM)(c l c' l':Nat)(es:List fE)(hs:List Int)(cy:cu):((qA (((j3 p c l).set 1 (.pointer (some ⟨c',0,none⟩))).set 2 (.pointer (some ⟨l',0,none⟩))) 12 [.int .i64 0,.string (⟨#[]⟩:ByteArray),.string (⟨#[]⟩:ByteArray),.string (⟨#[]⟩:ByteArray),.string (⟨#[]⟩:ByteArray),.int .i64 0,.int .i64 0,.nilIface,.bool false]).set 21 (.bool false))=j3 { p with es:=es,hs:=hs,cy:=cy,bB:=(bp,false),wanted:=false } c' l':=by
 rw[qB,qB];rfl
theorem Z2 {w:World}{F:Nat->Prop}{b:Nat}{p:PeerM}(h:dE w F b p)(hF:∀ k,F k->k<w.heap.size)(ho:dK p)(ht:TabW w)(x:fE)(hx:dD x.1):
  Ret Tryz.prog 148 #[.pointer (some ⟨b,0,none⟩),.agg (nf x).toArray] w fun r w'=>r=.int .i64 (p.entry x).2/\dE w' (fun k=>F k\/cq w w' k) b (p.entry x).1/\Fr (only b) w w':=by
 have hR:=h;obtain⟨c,l,Fc,Fl,h⟩:=h;have U:=ho.kb;have oV:=ho.num;have Z3:=ho.hs;have hld:=ho.cy.num;refine c148 _ (mP x.1.e x.2) w _ ?_;unfold C148;refine aq.of fun g1 w1 di ar f1 _=>aH.of fun w2 _ f2=>bb.all ?_;have f12:=f1.trans f2;have h2:=h.af f12;have bl:=cj h.aG;refine aE.all (h2.dP U 1 (ck:=.ptr) (x:=some ⟨c,0,none⟩) rfl (aE.all (h2.dP U 2 (ck:=.ptr) (x:=some ⟨l,0,none⟩) rfl ?_)));refine ab.of (OG U h2.ch (by omega) (by omega)) ?_;rintro _ w3 ⟨c',rfl,pU,f3⟩;refine⟨some ⟨c',0,none⟩,rfl,ak.of f3 ?_⟩;have h3:=h2.af f3;refine ab.of (HW h3.ld (by omega)) ?_;rintro _ w4 ⟨l',rfl,uB,f4⟩;refine⟨some ⟨l',0,none⟩,rfl,?_⟩
 try refine ak.of f4 ?_
 have O2:=pU.af f4;refine ab.of (zO U O2) ?_;rintro _ _ ⟨rfl,rfl⟩;refine⟨_,rfl,?_⟩;refine ab.of (OV (p.es.length:Int) (by omega) w4) ?_;rintro _ _ ⟨rfl,rfl⟩;refine⟨_,rfl,?_⟩;have f14:=(f12.trans f3).trans f4;have z1:=f12.size;have z3:=f3.size;have z4:=f4.size;have O3:w4.heap[g1]? = some (.cells (nf x).toArray 110 (0,0)):=((f2.trans f3).trans f4).af ar;refine az.aG (cks:=qn) (x:=mP x.1.e x.2) O3 ?_;refine ab.of (ZT U O2 (fun k U=>by have:=U.2;omega) Z3 (by omega) ho.uT hx (ht.af f14)) ?_;have eA:tg p.kb p.es p.hs x=if 64<=p.es.length then 5 else(iV p.kb p.head x).2:=rfl;have e0:p.entry x=if 64<=p.es.length then(p,5) else if(iV p.kb p.head x).2≠0 then(p,(iV p.kb p.head x).2) else
   if x.2=false/\(gZ p.cy x.1 (PeerM.owner p.len)).2≠0 then(p,(gZ p.cy x.1 (PeerM.owner p.len)).2) else
   ({ p with es:=p.es++[x],hs:=p.hs++[(iV p.kb p.head x).1],cy:=if x.2=true then p.cy else(gZ p.cy x.1 (PeerM.owner p.len)).1,bB:=(bp,false),wanted:=false },0):=rfl
 rintro _ w5 ⟨rfl,xg,f5⟩;have p8:=pU.mem;have Z4:tg p.kb p.es p.hs x=0->j2 w5 (fun k=>(w2.heap.size<=k/\k<w3.heap.size)\/cq w4 w5 k) c' p.kb (p.es++[x]) (p.hs++[(iV p.kb p.head x).1]):=xg;have z5:=f5.size;have f15:Fr none1 w w5:=f14.comp f5 fun k U q=>by have:k=c':=q;have:=p8.1;omega
 have same:∀ {w':World},Fr none1 w w'->dE w' (fun k=>F k\/cq w w' k) b p/\Fr (only b) w w':=fun f=>⟨(hR.af f).mono fun k U=>.inl U,f.mono fun _ _ t=>t.elim⟩;refine⟨_,rfl,aa.ne (fun aA=>?_) (fun he=>?_)⟩
 ·have aA:tg p.kb p.es p.hs x≠0:=aA
  have e:p.entry x=(p,tg p.kb p.es p.hs x):=by
   rw[e0,eA];rw[eA] at aA;split
   ·rfl
   ·rename_i H3
    rw[if_neg H3] at aA;rw[if_pos aA]
  rw[e];exact⟨rfl,same f15⟩
 have he:tg p.kb p.es p.hs x=0:=he;have xg:=Z4 he;rw[eA] at he;have O4:¬ 64<=p.es.length:=fun t=>by rw[if_pos t] at he;cases he
 rw[if_neg O4] at he;rw[if_neg O4,if_neg (fun t=>t he)] at e0;have Z5:g1≠c':=by have:=p8.1;have:=cj (f2.af ar);omega
 have y9:=f5.ag O3 Z5;have O5:=uB.ag f5 fun k U q=>by have:k=c':=q;have:=p8.2;have:=U.1;omega
 have h5:=h.af f15
 -- the end, alike in both
 have fin:∀ {wx:World} (cy:cu) {Fx Gx:Nat->Prop},Fr none1 w wx->j2 wx Fx c' p.kb (p.es++[x]) (p.hs++[(iV p.kb p.head x).1])->dL wx Gx l' cy->(∀ k,Fx k->cq w wx k)->(∀ k,Gx k->cq w wx k) ->
   p.entry x=({ p with es:=p.es++[x],hs:=p.hs++[(iV p.kb p.head x).1],cy:=cy,bB:=(bp,false),wanted:=false },0) ->
   ay ((⟨b,0,none⟩:Addr).add 17) (.pointer (some ⟨c',0,none⟩)) wx fun bA=>ay ((⟨b,0,none⟩:Addr).add 18) (.pointer (some ⟨l',0,none⟩)) bA fun dW=>av ((⟨b,0,none⟩:Addr).add 28) [.int .i64 0,.string (⟨#[]⟩:ByteArray),.string (⟨#[]⟩:ByteArray),.string (⟨#[]⟩:ByteArray),.string (⟨#[]⟩:ByteArray),.int .i64 0,.int .i64 0,.nilIface,.bool false] dW fun bU=>ay ((⟨b,0,none⟩:Addr).add 37) (.bool false) bU fun dn=>
    (Value.int .i64 0=.int .i64 (p.entry x).2/\dE dn (fun k=>F k\/cq w dn k) b (p.entry x).1/\Fr (only b) w dn):=by
  intro wx cy Fx Gx fx Z6 Z7 O9 Pa e;have hx:=h.af fx;rw[e];refine tk U hx.aG 1 (by rw[rO];decide) rfl fun wa ha fa sa=>?_;refine tk U ha 2 (by simp[rO]) rfl fun wb hb fb sb=>?_;refine CB U hb 12 (by simp[rO]) rfl fun wc hc fc sc=>?_;refine tk U hc 21 (by simp[qA,rO]) rfl fun wd hd fd sd=>?_;rw[Z1 p c l c' l' (p.es++[x]) (p.hs++[(iV p.kb p.head x).1]) cy] at hd;have ff:=((fa.trans fb).trans fc).trans fd;have zx:=fx.size;refine⟨rfl,⟨c',l',Fx,Gx,hd,Z6.ag ff (fun k U q=>by have:=(O9 k U).1;have:k=b:=q;omega),Z7.ag ff (fun k U q=>by have:=(Pa k U).1;have:k=b:=q;omega),fun k U=>?_,fun k U=>?_,.inl h.mem⟩,fx.eG ff⟩
  ·have q:=O9 k U;exact⟨.inr ⟨q.1,by have:=q.2;omega⟩,by have:=q.1;omega⟩
  ·have q:=Pa k U;exact⟨.inr ⟨q.1,by have:=q.2;omega⟩,by have:=q.1;omega⟩
 refine ae.ai y9 (x:=x.2) rfl (aa.not (aa.by (fun hr=>?_) (fun hr=>?_)))
 ·have hr:x.2=true:=hr
  rw[if_neg (by rw[hr];simp),if_pos hr] at e0;exact fin p.cy f15 xg O5 (fun k U=>by rcases U with q | q<;>exact⟨by have:=q.1;omega,by have:=q.2;omega⟩) (fun k U=>⟨by have:=U.1;omega,by have:=U.2;omega⟩) e0
 have hr:x.2=false:=hr;have wG:∀ {K:Cs ir->Prop},K x.1.e->az ir ((⟨g1,0,none⟩:Addr).add 0) w5 K:=fun k=>by
  rw[dw];refine⟨x.1.e,nV y9 _ 0 fun j hj=>?_,k⟩
  match j,hj with
  | 0,_=>rfl
  | 1,_=>rfl
  | 2,_=>rfl
  | 3,_=>rfl
  | 4,_=>rfl
  | 5,_=>rfl
  | 6,_=>rfl
  | 7,_=>rfl
 refine wG ?_;refine ab.of (ZQ O5 (fun k U=>by have:=U.2;omega) ho.cy x.1 hx.2.2.2.2 (ht.af f15) (PeerM.owner p.len)) ?_;rintro _ w6 ⟨rfl,Z8,f6⟩;have hlm:=uB.mem;have z6:=f6.size;have f16:Fr none1 w w6:=f15.comp f6 fun k U q=>by have:k=l':=q;have:=hlm.1;omega
 refine⟨_,rfl,aa.ne (fun aA=>?_) (fun oH=>?_)⟩
 ·have aA:(gZ p.cy x.1 (PeerM.owner p.len)).2≠0:=aA
  rw[if_pos ⟨hr,aA⟩] at e0;rw[e0];exact⟨rfl,same f16⟩
 have oH:(gZ p.cy x.1 (PeerM.owner p.len)).2=0:=oH;rw[if_neg (fun t=>t.2 oH),if_neg (by rw[hr];simp)] at e0;exact fin _ f16 (xg.ag f6 fun k U q=>by have:k=l':=q;have:=hlm.1;have:=hlm.2;rcases U with t | t<;>(have:=t.1;have:=t.2;omega)) Z8 (fun k U=>by rcases U with q | q<;>exact⟨by have:=q.1;omega,by have:=q.2;omega⟩) (fun k U=>by rcases U with q | q<;>exact⟨by have:=q.1;omega,by have:=q.2;omega⟩) e0
end Go.Proofs.YtmkehncgjnhhcaaGreatDoor
