/-
  Texts of this claim, put together: StrSpec, NumF, ReadF, LexF, TakeF, LedF, SipF, PackSpec2, VcNest, VcAggs, TreeSpec, RefTree, CWithin, WithinSpec, MakeSpec, MakeSpec2, VcPlan, RefEv, SomeSpec, CReadG, ReadSpec, ReadSpec2, BytesMore, LendB, CPackT.
  Conditions: those of each theorem.
-/
import Derived.Test.YtmkehncgjnhhcaaGreatDoorQNL23x0
import Derived.Test.YtmkehncgjnhhcaaGreatDoorQNL23x1
import Derived.ChangeSame
import Derived.ChangeSlices
import Derived.KernelRfl
import Derived.Laws.IdiomStrings
import Derived.Lib.ItoaNum
import Derived.Lib.RuneCount
import Derived.SliceStrings
import Derived.Test.YtmkehncgjnhhcaaGreatDoorProg
set_option linter.unusedVariables false
set_option maxRecDepth 100000
namespace Go.Proofs.YtmkehncgjnhhcaaGreatDoor
open Vc
theorem SI (a:List UInt8)(i j:Nat):(str a).extract i j=str ((a.drop i).take (j - i)):=by
 apply ByteArray.ext;rw[ByteArray.data_extract];unfold str;simp
theorem yy {a:List UInt8}{lo hi:Int}(h0:0<=lo)(h1:lo<=hi)(h2:hi<=a.length){K:ByteArray->Prop}(k:K (str ((a.drop lo.toNat).take (hi.toNat - lo.toNat)))):tt (str a) lo hi K:=
 ⟨h0,h1,by rw[dx];exact h2,by rw[SI];exact k⟩
theorem uw {a:List UInt8}{i:Int}(h0:0<=i)(h1:i<a.length){K:Int->Prop}(k:K ((a.getD i.toNat 0).toNat:Int)):nO (str a) i K:=by
 refine⟨a.getD i.toNat 0,h0,?_,k⟩;have aU:i.toNat<(str a).size:=by rw[dx];omega
 rw[getElem?_pos (str a) i.toNat aU,List.getD_eq_getElem?_getD,List.getElem?_eq_getElem (by omega)];rfl
theorem SJ (a b:List UInt8)(w:World):Ret Tryz.prog 343 #[.string (str a),.string (str b)] w fun r w'=>r=.bool (decide (a.take b.length=b))/\w=w':=by
 refine c343 _ _ w _ ?_;unfold C343;rw[dx,dx];refine aa.dec (fun h=>?_) (fun h=>?_)
 ·refine yy (by omega) (by omega) (by omega) ?_
  rw[iv];exact⟨by simp,rfl⟩
 ·refine⟨?_,rfl⟩
  rw[decide_eq_false];intro t;have:=congrArg List.length t;rw[List.length_take] at this;omega
def dc (s:List UInt8):List UInt8:=if s.take 1=[45] then s.drop 1 else s
theorem SK (s:List UInt8)(w:World):Ret Tryz.prog 319 #[.string (str s),.string (str [45])] w fun r w'=>r=.string (str (dc s))/\w=w':=by
 refine c319 _ _ w _ ?_;refine ab.of (R:=fun r w'=>r=.string (str (dc s))/\w=w') ?_ (by rintro _ _ ⟨rfl,rfl⟩;exact⟨_,rfl,rfl,rfl⟩);refine c329 _ _ w _ ?_;refine ab.of (SJ s [45] w) ?_;rintro _ _ ⟨rfl,rfl⟩;refine⟨_,rfl,?_⟩;unfold dc;refine aa.dec (fun h=>?_) (fun h=>?_)
 ·have h:s.take 1=[45]:=h
  have hl:1<=s.length:=by
   have:=congrArg List.length h;rw[List.length_take] at this;simp only[List.length_cons,List.length_nil] at this;omega
  rw[if_pos h,dx,dx];refine yy (by simp) (by simp only[List.length_cons,List.length_nil];omega) (by omega) ?_;refine⟨?_,rfl⟩;rw[List.take_of_length_le (by simp)];rfl
 ·have h:¬ s.take 1=[45]:=h
  rw[if_neg h];exact⟨rfl,rfl⟩
def oq (cs:List UInt8):List Value:=(List.range 256).map fun c=>.bool (decide (c∈cs.map (·.toNat)))
theorem q9 (cs:List UInt8):(oq cs).length=256:=by unfold oq;simp
theorem EF (cs:List UInt8){c:Nat}(h:c<256):(oq cs)[c]? = some (.bool (decide (c∈cs.map (·.toNat)))):=by
 unfold oq;rw[List.getElem?_map,List.getElem?_range h];rfl
theorem KE (cs:List UInt8):(oq cs).all bJ=true:=by
 rw[List.all_eq_true];intro v hv;obtain⟨c,_,rfl⟩:=List.mem_map.1 hv;rfl
theorem SL (cs:List UInt8)(c:UInt8):(oq cs).set c.toNat (.bool true)=oq (cs++[c]):=by
 refine List.ext_getElem? fun i=>?_
 by_cases hi:i<256
 ·rw[EF _ hi,List.getElem?_set]
  by_cases hc:c.toNat=i
  ·rw[if_pos hc,if_pos (by rw[q9,hc];exact hi)]
   simp[hc]
  ·rw[if_neg hc,EF _ hi]
   congr 2
   refine decide_eq_decide.2 ?_;rw[List.map_append,List.mem_append];simp only[List.map_cons,List.map_nil,List.mem_singleton];exact⟨.inl,fun t=>t.elim id (fun t=>absurd t.symm hc)⟩
 ·rw[List.getElem?_eq_none (by rw[List.length_set,q9];omega),List.getElem?_eq_none (by rw[q9];omega)]
def pj (w:World)(g:Nat)(cs:List UInt8):Prop:=w.heap[g]? = some (.cells (oq cs).toArray 472 (0,0))
theorem pj.KF {w:World}{g:Nat}{cs:List UInt8}(h:pj w g cs){K:List Value->Prop}(k:K (oq cs)):eF 256 (⟨g,0,none⟩:Addr) w K:=
 ⟨oq cs,q9 cs,nV h _ 0 fun j _=>by simp,k⟩
theorem KG {w:World}{g:Nat}{cs:List UInt8}(h:pj w g cs)(c:UInt8):Ret Tryz.prog 344 #[.pointer (some ⟨g,0,none⟩),.int .u8 (c.toNat:Int)] w fun r w'=>r=.bool (decide (c∈cs))/\w=w':=by
 refine c344 _ _ w _ ?_;have hc:=UInt8.toNat_lt c;refine⟨by omega,by omega,?_⟩;rw[dw,Nat.mul_one,Int.toNat_natCast,Nat.zero_add];refine ae.of h (x:=decide (c∈cs)) ?_ ⟨rfl,rfl⟩;rw[List.getElem?_toArray,EF _ (by omega)]
 congr 2
 refine decide_eq_decide.2 ?_;rw[List.mem_map]
 constructor
 ·rintro⟨d,hd,e⟩
  rwa[<- UInt8.toNat_inj.1 e]
 ·intro t;exact⟨c,t,rfl⟩
theorem SM (cs:List UInt8)(hcs:∀ c∈cs,c.toNat<128)(hl:cs.length<=1000)(w:World):Ret Tryz.prog 332 #[.string (str cs)] w fun r w'=>r=.tuple #[.agg (oq cs).toArray,.bool true]/\Fr none1 w w':=by
 refine c332 _ w _ ?_;unfold C332;refine aq.of fun g w1 hg di f1 _=>?_;have h1:pj w1 g []:=di;have F1:Fr (only g) w1 w1:=Fr.refl _ _;refine bj.of (fun s w'=>∃ n:Nat,s.1=n/\n<=cs.length/\pj w' g (cs.take n)/\Fr (only g) w1 w') (fun s _=>cs.length - s.1.toNat) ⟨0,rfl,by omega,h1,F1⟩ ?_;rintro _ ⟨i,_⟩ w2 ⟨n,hn,nA,h2,f2⟩;dsimp only at hn ⊢;subst hn;rw[dx];refine aa.dec (fun aU=>?_) (fun dh=>?_)
 ·refine uw (by omega) (by omega) ?_
  rw[Int.toNat_natCast];have sh:cs.getD n 0∈cs:=by
   rw[List.getD_eq_getElem?_getD,List.getElem?_eq_getElem (by omega)];exact List.getElem_mem _
  have hc:=hcs _ sh;refine aa.no (by omega) ?_;refine⟨by omega,by omega,?_⟩;rw[dw,Nat.mul_one,Int.toNat_natCast,Nat.zero_add];refine ay.of h2 (by rw[List.size_toArray,q9];omega) rfl fun w3 h3 f3 _=>?_;rw[wI (x:=(n:Int)+1) (by omega) (by omega)];refine⟨⟨n+1,by omega,by omega,?_,f2.trans f3⟩,by omega⟩;unfold pj;rw[h3,List.setIfInBounds_toArray,SL];have:cs.take n++[cs.getD n 0]=cs.take (n+1):=by
   rw[List.take_succ_eq_append_getElem (by omega),List.getD_eq_getElem?_getD,List.getElem?_eq_getElem (by omega)];rfl
  rw[this]
 ·have:n=cs.length:=by omega
  subst this;rw[List.take_length] at h2;refine h2.KF ?_;refine⟨q9 cs,av.aG h2 rfl (KE cs) fun w3 h3 f3 _=>?_⟩;have h3:pj w3 g cs:=h3;refine h3.KF ⟨rfl,(f1.fresh f2 (by omega)).fresh f3 (by omega)⟩
theorem SN {w:World}{g:Nat}{cs:List UInt8}(h:pj w g cs)(s:List UInt8)(hl:s.length<=1000000):Ret Tryz.prog 334 #[.string (str s),.pointer (some ⟨g,0,none⟩)] w fun r w'=>
  (∃ t u,r=.string (str t)/\s=t++u/\(∀ c∈u,c∈cs)/\(t=[]\/¬ t.getD (t.length - 1) 0∈cs))/\w=w':=by
 refine c334 _ _ w _ ?_;refine bj.of (fun q w'=>w=w'/\∃ t u,q.1=str t/\s=t++u/\∀ c∈u,c∈cs) (fun q _=>q.1.size) ⟨rfl,s,[],rfl,by simp,by simp⟩ ?_;rintro _ ⟨q,_⟩ _ ⟨rfl,t,u,hq,hs,hu⟩;dsimp only at hq ⊢;subst hq;have A4:t.length<=s.length:=by rw[hs,List.length_append];omega
 rw[dx];refine aa.dec (fun nW=>?_) (fun hz=>?_)
 ·rw[wI (x:=(t.length:Int) - 1) (by omega) (by omega)]
  refine uw (by omega) (by omega) ?_;rw[show((t.length:Int) - 1).toNat=t.length - 1 by omega];refine ab.of (KG h _) ?_;rintro _ _ ⟨rfl,rfl⟩;refine⟨_,rfl,?_⟩
  by_cases hc:t.getD (t.length - 1) 0∈cs
  ·refine aa.f (by rw[decide_eq_true hc];rfl) ?_
   refine yy (by omega) (by omega) (by omega) ?_;have e:(t.drop (0:Int).toNat).take (((t.length:Int) - 1).toNat - (0:Int).toNat)=t.take (t.length - 1):=by
    rw[show(0:Int).toNat=0 from rfl,List.drop_zero,show((t.length:Int) - 1).toNat - 0=t.length - 1 by omega]
   rw[e];refine⟨⟨rfl,t.take (t.length - 1),t.getD (t.length - 1) 0::u,rfl,?_,fun c pU=>?_⟩,?_⟩
   ·rw[hs]
    have:t=t.take (t.length - 1)++[t.getD (t.length - 1) 0]:=by
     conv=>lhs;rw[<- List.take_length (l:=t),show t.length=(t.length - 1)+1 by omega,List.take_succ_eq_append_getElem (by omega)]
     rw[List.getD_eq_getElem?_getD,List.getElem?_eq_getElem (by omega)];rfl
    conv=>lhs;rw[this]
    simp
   ·rcases List.mem_cons.1 pU with t' | t'
    ·rw[t'];exact hc
    ·exact hu c t'
   ·rw[dx,List.length_take];omega
  ·refine aa.t (by rw[decide_eq_false hc];rfl) ⟨⟨t,u,rfl,hs,hu,.inr hc⟩,rfl⟩
 ·exact⟨⟨t,u,rfl,hs,hu,.inl (List.eq_nil_of_length_eq_zero (by omega))⟩,rfl⟩
theorem SO {w:World}{g:Nat}{cs:List UInt8}(h:pj w g cs)(s:List UInt8)(hl:s.length<=1000000):Ret Tryz.prog 333 #[.string (str s),.pointer (some ⟨g,0,none⟩)] w fun r w'=>
  (∃ t u,r=.string (str t)/\s=u++t/\(∀ c∈u,c∈cs)/\(t=[]\/¬ t.getD 0 0∈cs))/\w=w':=by
 refine c333 _ _ w _ ?_;refine bj.of (fun q w'=>w=w'/\∃ t u,q.1=str t/\s=u++t/\∀ c∈u,c∈cs) (fun q _=>q.1.size) ⟨rfl,s,[],rfl,by simp,by simp⟩ ?_;rintro _ ⟨q,_⟩ _ ⟨rfl,t,u,hq,hs,hu⟩;dsimp only at hq ⊢;subst hq;have A4:t.length<=s.length:=by rw[hs,List.length_append];omega
 rw[dx];refine aa.dec (fun nW=>?_) (fun hz=>?_)
 ·refine uw (by omega) (by omega) ?_
  rw[show(0:Int).toNat=0 from rfl];refine ab.of (KG h _) ?_;rintro _ _ ⟨rfl,rfl⟩;refine⟨_,rfl,?_⟩
  by_cases hc:t.getD 0 0∈cs
  ·refine aa.f (by rw[decide_eq_true hc];rfl) ?_
   refine yy (by omega) (by omega) (by omega) ?_;have e:(t.drop (1:Int).toNat).take (((t.length:Nat):Int).toNat - (1:Int).toNat)=t.drop 1:=by
    rw[show(1:Int).toNat=1 from rfl,List.take_of_length_le (by rw[List.length_drop];omega)]
   rw[e];refine⟨⟨rfl,t.drop 1,u++[t.getD 0 0],rfl,?_,fun c pU=>?_⟩,?_⟩
   ·rw[hs]
    cases t with
    | nil=>simp at nW
    | cons x t=>simp
   ·rcases List.mem_append.1 pU with t' | t'
    ·exact hu c t'
    ·simp only[List.mem_singleton] at t';rw[t'];exact hc
   ·rw[dx,List.length_drop];omega
  ·refine aa.t (by rw[decide_eq_false hc];rfl) ⟨⟨t,u,rfl,hs,hu,.inr hc⟩,rfl⟩
 ·exact⟨⟨t,u,rfl,hs,hu,.inl (List.eq_nil_of_length_eq_zero (by omega))⟩,rfl⟩
theorem SP (s cs:List UInt8)(aA:s≠[])(hcs:∀ c∈cs,c.toNat<128)(h2:2<=cs.length)(dQ:cs.length<=1000)(hl:s.length<=1000000)(w:World):Ret Tryz.prog 320 #[.string (str s),.string (str cs)] w fun r w'=>
  (∃ v,r=.string (str v)/\(v=[]↔∀ c∈s,c∈cs))/\Fr none1 w w':=by
 refine c320 _ _ w _ ?_;unfold C320;have e0:(⟨#[]⟩:ByteArray)=str []:=rfl;rw[e0,iv,iv];refine aa.no aA (aa.no (fun t=>by rw[t] at h2;simp at h2) ?_);refine bQ.of (fun q w'=>q.1=false/\w=w') ?_ ?_
 ·refine aa.f ?_ ⟨rfl,rfl⟩
  rw[dx,beq_eq_false_iff_ne];omega
 rintro _ ⟨q,_⟩ _ ⟨hq,rfl⟩;dsimp only at hq;subst hq;refine aa.f rfl ?_;refine ab.of (SM cs hcs dQ w) ?_;rintro _ w1 ⟨rfl,f1⟩;refine⟨(oq cs,true,()),rfl,?_⟩;refine aq.of fun g w2 hg mI f2 _=>?_;have A5:pj w2 g []:=mI;refine⟨q9 cs,av.aG A5 (by rw[q9,q9]) (KE cs) fun w3 h3 f3 _=>?_⟩;have h3:pj w3 g cs:=h3;refine aa.t rfl ?_;refine ab.of (SN h3 s hl) ?_;rintro _ _ ⟨⟨t,u,rfl,hs,hu,ht⟩,rfl⟩;refine⟨_,rfl,?_⟩;have A4:t.length<=s.length:=by rw[hs,List.length_append];omega
 refine ab.of (SO h3 t (by omega)) ?_;rintro _ _ ⟨⟨v,u',rfl,KH,SQ,hv⟩,rfl⟩;refine⟨_,rfl,⟨v,rfl,?_⟩,f1.trans (f2.fresh f3 (by omega))⟩
 constructor
 ·intro sB c hc
  rw[hs,KH,sB,List.append_nil] at hc
  rcases List.mem_append.1 hc with hc | hc
  ·exact SQ c hc
  ·exact hu c hc
 ·intro hall
  rcases hv with hv | hv
  ·exact hv
  ·cases v with
   | nil=>rfl
   | cons x v=>
    refine absurd (hall x ?_) hv;rw[hs,KH];simp
def gx (c:UInt8):Bool:=decide (48<=c.toNat)&&decide (c.toNat<=57)
def A6:List UInt8:=[48,49,50,51,52,53,54,55,56,57]
theorem KI (c:UInt8):c∈A6↔gx c=true:=by
 have hc:=UInt8.toNat_lt c
 constructor
 ·intro h
  have h:c=48\/c=49\/c=50\/c=51\/c=52\/c=53\/c=54\/c=55\/c=56\/c=57:=by simpa[A6] using h
  rcases h with h | h | h | h | h | h | h | h | h | h<;>subst h<;>rfl
 ·intro h
  have h:48<=c.toNat/\c.toNat<=57:=by simpa[gx] using h
  obtain⟨n,hn⟩:∃ n,c.toNat=n:=⟨_,rfl⟩;have e:c=UInt8.ofNat n:=by rw[<- hn];exact(UInt8.ofNat_toNat).symm
  have:n=48\/n=49\/n=50\/n=51\/n=52\/n=53\/n=54\/n=55\/n=56\/n=57:=by omega
  rcases this with t | t | t | t | t | t | t | t | t | t<;>(rw[t] at e;rw[e];decide)
def fP (d:List UInt8):Int:=d.foldl (fun n c=>n * 10+((c.toNat:Int) - 48)) 0
theorem A7 (d:List UInt8)(c:UInt8):fP (d++[c])=fP d * 10+((c.toNat:Int) - 48):=by unfold fP;rw[List.foldl_append];rfl
theorem EG:∀ (d:List UInt8) (n:Int),0<=n->(∀ c∈d,gx c=true)->0<=d.foldl (fun n c=>n * 10+((c.toNat:Int) - 48)) n/\d.foldl (fun n c=>n * 10+((c.toNat:Int) - 48)) n<(n+1) * ((10 ^ d.length:Nat):Int)
 | [],n,h0,_=>by simp;omega
 | c::d,n,h0,h=>by
  have hc:48<=c.toNat/\c.toNat<=57:=by simpa[gx] using h c (by simp)
  obtain⟨i1,i2⟩:=EG d (n * 10+((c.toNat:Int) - 48)) (by omega) (fun x hx=>h x (by simp[hx]));refine⟨i1,Int.lt_of_lt_of_le i2 ?_⟩;have e:(n+1) * ((10 ^ (c::d).length:Nat):Int)=(n * 10+10) * ((10 ^ d.length:Nat):Int):=by
   rw[List.length_cons,Nat.pow_succ,Int.natCast_mul,Int.mul_comm ((10 ^ d.length:Nat):Int),<- Int.mul_assoc]
   congr 1
   omega
  rw[e];exact Int.mul_le_mul_of_nonneg_right (by omega) (Int.natCast_nonneg _)
theorem A8 (d:List UInt8)(h:∀ c∈d,gx c=true)(hl:d.length<=18):0<=fP d/\fP d<1000000000000000000:=by
 obtain⟨a,b⟩:=EG d 0 (Int.le_refl _) h;have:10 ^ d.length<=10 ^ 18:=Nat.pow_le_pow_right (by decide) hl;unfold fP;omega
theorem SR {w:World}(s:List UInt8):∃ (v:Sl) (w':World),(convert 9 22 (.string (str s))).run Tryz.prog w=.ok (.slice v.1 v.2.1 v.2.2) w'/\db w' 1 v (s.map fun b=>Value.int .u8 (b.toNat:Int))/\v.2.1=s.length/\Fr none1 w w':=by
 refine⟨(some ⟨w.heap.size,0,none⟩,(str s).size,_),_,run_bytes_of_string w 9 22 5 (str s) Tryz.underlying9 Tryz.underlying22 Tryz.underlying5,?_,dx s,?_⟩
 ·refine⟨by rw[List.length_map,Nat.mul_one];exact(dx s).symm,(fun t=>nomatch t),fun a ha=>?_⟩
  injection ha with ha
  subst ha;refine nV (Array.getElem?_push_size ..) _ 0 fun j hj=>?_;rw[List.length_map] at hj;unfold bytesRow;rw[Nat.zero_add,Array.getElem?_append_left (by unfold str;simpa using hj)];unfold str;simp
 ·exact(vr w).trans (lH _ _)
theorem SS (s d:List UInt8)(neg:Bool)(hs:s=(if neg then 45::d else d))(aA:d≠[])(hd:∀ c∈d,gx c=true)(hl:s.length<19)(w:World):
  Ret Tryz.prog 337 #[.string (str s)] w fun r w'=>r=.tuple #[.int .i64 (if neg then -(fP d) else fP d),.nilIface]/\Fr none1 w w':=by
 refine c337 _ w _ ?_;unfold C337;have nB:0<d.length:=List.length_pos_iff.2 aA;have jE:s.length=d.length+(if neg then 1 else 0):=by rw[hs];cases neg<;>simp
 have SU:d.length<=18:=by omega
 have h0:0<s.length:=by omega
 have yz:48<=(d.getD 0 0).toNat/\(d.getD 0 0).toNat<=57:=by
  have:gx (d.getD 0 0)=true:=hd _ (by rw[List.getD_eq_getElem?_getD,List.getElem?_eq_getElem nB];exact List.getElem_mem _);simpa[gx] using this
 have oS:((s.getD 0 0).toNat=45/\neg=true)\/(48<=(s.getD 0 0).toNat/\(s.getD 0 0).toNat<=57/\neg=false):=by
  rw[hs];cases neg with
  | true=>exact .inl ⟨rfl,rfl⟩
  | false=>exact .inr ⟨yz.1,yz.2,rfl⟩
 refine bQ.of (fun q w'=>q.1=true/\w=w') ?_ ?_
 ·rw[dx]
  refine aa.yes (by omega) ⟨decide_eq_true (by omega),rfl⟩
 rintro _ ⟨q,_⟩ _ ⟨hq,rfl⟩;dsimp only at hq;subst hq;refine aa.t rfl ?_;refine bQ.of (fun q w'=>q.1=str d/\w=w') ?_ ?_
 ·refine bQ.of (fun q w'=>q.1=neg/\w=w') ?_ ?_
  ·refine uw (by omega) (by omega) ?_
   rw[show(0:Int).toNat=0 from rfl];refine aa.eq (fun h=>?_) (fun h=>?_)
   ·refine⟨?_,rfl⟩
    rcases oS with⟨_,hn⟩ | ⟨h1,_,_⟩
    ·exact hn.symm
    ·omega
   ·refine uw (by omega) (by omega) ⟨?_,rfl⟩
    rw[show(0:Int).toNat=0 from rfl]
    rcases oS with⟨h1,_⟩ | ⟨h1,_,hn⟩
    ·omega
    ·rw[hn];simp only[beq_eq_false_iff_ne];omega
  rintro _ ⟨q,_⟩ _ ⟨hq,rfl⟩;dsimp only at hq;subst hq;refine aa.by (fun hn=>?_) (fun hn=>?_)
  ·subst hn
   refine yy (by omega) (by rw[dx];omega) (by rw[dx];omega) ?_;have e:(s.drop (1:Int).toNat).take (((str s).size:Int).toNat - (1:Int).toNat)=d:=by
    rw[dx,hs];simp
   rw[e,dx];refine aa.no (by omega) ⟨rfl,rfl⟩
  ·subst hn
   refine⟨?_,rfl⟩;show str s=str d;rw[hs];rfl
 rintro _ ⟨q,_⟩ _ ⟨hq,rfl⟩;dsimp only at hq;subst hq;obtain⟨v,w1,r1,hv,cC,f1⟩:=SR (w:=w) d;refine⟨v,w1,r1,?_⟩;refine bj.of (fun q w'=>w1=w'/\∃ n:Nat,q.2.1=n/\n<=d.length/\q.1=fP (d.take n)) (fun q _=>d.length - q.2.1.toNat) ⟨rfl,0,rfl,by omega,rfl⟩ ?_;rintro _ ⟨m,i,_⟩ _ ⟨rfl,n,hn,nA,hm⟩;dsimp only at hn hm ⊢;subst hn;subst hm;refine aa.dec (fun aU=>?_) (fun dh=>?_)
 ·have sh:d.getD n 0∈d:=by rw[List.getD_eq_getElem?_getD,List.getElem?_eq_getElem (by omega)];exact List.getElem_mem _
  have hc:48<=(d.getD n 0).toNat/\(d.getD n 0).toNat<=57:=by simpa[gx] using hd _ sh
  refine db.ld hv (by omega) aU (x:=((d.getD n 0).toNat:Int)) (by rw[Int.toNat_natCast,List.getElem?_map,List.getD_eq_getElem?_getD,List.getElem?_eq_getElem (by omega)];rfl) ?_;have e1:IntKind.u8.wrap (((d.getD n 0).toNat:Int) - 48)=((d.getD n 0).toNat:Int) - 48:=by rw[IntKind.wrap_u8];omega
  rw[e1];refine aa.no (by omega) ?_;obtain⟨b1,b2⟩:=A8 (d.take n) (fun c hc=>hd c (List.mem_of_mem_take hc)) (by rw[List.length_take];omega);rw[wI (x:=((d.getD n 0).toNat:Int) - 48) (by omega) (by omega)];obtain⟨b3,b4⟩:=A8 (d.take (n+1)) (fun c hc=>hd c (List.mem_of_mem_take hc)) (by rw[List.length_take];omega);have e2:d.take (n+1)=d.take n++[d.getD n 0]:=by
   rw[List.take_succ_eq_append_getElem (by omega),List.getD_eq_getElem?_getD,List.getElem?_eq_getElem (by omega)];rfl
  rw[e2,A7] at b3 b4;rw[wI (x:=fP (d.take n) * 10) (by omega) (by omega),wI (x:=fP (d.take n) * 10+(((d.getD n 0).toNat:Int) - 48)) (by omega) (by omega),wI (x:=(n:Int)+1) (by omega) (by omega)];refine⟨⟨rfl,n+1,by omega,by omega,?_⟩,by omega⟩;rw[e2,A7]
 ·have:n=d.length:=by omega
  subst this;rw[List.take_length];obtain⟨b1,b2⟩:=A8 d hd SU;refine uw (by omega) (by omega) ?_;rw[show(0:Int).toNat=0 from rfl]
  rcases oS with⟨h1,hn⟩ | ⟨h1,h2,hn⟩
  ·subst hn
   refine aa.t (by rw[h1];rfl) ?_;rw[wI (x:=0 - fP d) (by omega) (by omega),Int.zero_sub];exact⟨rfl,f1⟩
  ·subst hn
   refine aa.f (by simp only[beq_eq_false_iff_ne];omega) ⟨rfl,f1⟩
theorem EH {t:TypeId}(ht:∃ ms,Tryz.prog.underlying t=some (.interface ms))(o:Operand)(w:World):
  (do eqGuard .neq t o (.const .nilIface) .nilIface .nilIface;binOp .neq t .nilIface .nilIface:Sem Value).run Tryz.prog w=.ok (.bool false) w:=by
 obtain⟨ms,ht⟩:=ht;have h1:(eqGuard .neq t o (.const .nilIface) .nilIface .nilIface).run Tryz.prog w=.ok () w:=by
  unfold eqGuard;simp
 rw[Sem.run_bind,h1,Result.andThen_ok];have h2:(Op.equalIn (9999+1) t .nilIface .nilIface).run Tryz.prog w=.ok true w:=by
  unfold Op.equalIn;simp only[Sem.run_bind,under ht,Result.andThen_ok,Sem.run_pure]
 show(do pure (Value.bool (!(<- Op.equalIn (9999+1) t .nilIface .nilIface))):Sem Value).run Tryz.prog w=_
 rw[Sem.run_bind,h2];rfl
theorem KJ (s d:List UInt8)(neg:Bool)(hs:s=(if neg then 45::d else d))(aA:d≠[])(hd:∀ c∈d,gx c=true)(hl:s.length<19)(w:World):
  Ret Tryz.prog 321 #[.string (str s)] w fun r w'=>r=.tuple #[.int .i64 (if neg then -(fP d) else fP d),.nilIface]/\Fr none1 w w':=by
 refine c321 _ w _ ?_;refine ab.of (SS s d neg hs aA hd hl w) ?_;rintro _ w1 ⟨rfl,f1⟩;refine⟨(_,.nilIface,()),rfl,?_⟩;refine⟨false,w1,EH ⟨_,Tryz.underlying422⟩ _ w1,aa.f rfl ⟨rfl,f1⟩⟩
def fB (s:List UInt8):Int×Bool:=
 if dc s=[]\/13<(dc s).length\/(dc s).all gx=false\/((dc s).getD 0 0=48/\s≠[48]) then(0,false) else
 if 1000000000000<fP (dc s) then(0,false) else(if s.take 1=[45] then -(fP (dc s)) else fP (dc s),true)
theorem A9 (s:List UInt8)(hl:s.length<=100000)(w:World):Ret Tryz.prog 303 #[.string (str s)] w fun r w'=>r=.tuple #[.int .i64 (fB s).1,.bool (fB s).2]/\Fr none1 w w':=by
 refine c303 _ w _ ?_;unfold C303;have e0:(⟨#[]⟩:ByteArray)=str []:=rfl;have e45:(⟨#[45]⟩:ByteArray)=str [45]:=rfl;have e48:(⟨#[48]⟩:ByteArray)=str [48]:=rfl;have ed:(⟨#[48,49,50,51,52,53,54,55,56,57]⟩:ByteArray)=str A6:=rfl;rw[e0,e45,e48,ed];refine ab.of (SK s w) ?_;rintro _ _ ⟨rfl,rfl⟩;refine⟨_,rfl,?_⟩;have nB:(dc s).length<=s.length:=by unfold dc;split<;>simp
 refine bQ.of (fun q w'=>q.1=decide (dc s=[]\/13<(dc s).length\/(dc s).all gx=false\/((dc s).getD 0 0=48/\s≠[48]))/\Fr none1 w w') ?_ ?_
 ·rw[iv]
  refine aa.dec (fun h=>?_) (fun h=>?_)
  ·exact⟨(decide_eq_true (.inl h)).symm,Fr.refl _ _⟩
  rw[dx];refine aa.dec (fun h2=>?_) (fun h2=>?_)
  ·exact⟨(decide_eq_true (.inr (.inl (by omega)))).symm,Fr.refl _ _⟩
  refine ab.of (SP (dc s) A6 h (by decide) (by decide) (by decide) (by omega) w) ?_;rintro _ w1 ⟨⟨v,rfl,hv⟩,f1⟩;refine⟨_,rfl,?_⟩;rw[iv];have hall:v=[]↔(dc s).all gx=true:=by
   rw[hv,List.all_eq_true];exact⟨fun t c hc=>(KI c).1 (t c hc),fun t c hc=>(KI c).2 (t c hc)⟩
  by_cases sB:v=[]
  ·refine aa.f (by simp[sB]) ?_
   have ha:=hall.1 sB;have nW:0<(dc s).length:=List.length_pos_iff.2 h;refine uw (by omega) (by omega) ?_;rw[show(0:Int).toNat=0 from rfl];refine aa.eq (fun KK=>?_) (fun KK=>?_)
   ·refine⟨?_,f1⟩
    have SV:(dc s).getD 0 0=48:=UInt8.toNat_inj.1 (by have:(48:UInt8).toNat=48:=rfl;omega);rw[iv]
    by_cases Ba:s=[48]
    ·rw[decide_eq_true Ba,decide_eq_false]
     ·rfl
     ·rintro(t | t | t | t)
      ·exact h t
      ·omega
      ·rw[ha] at t;cases t
      ·exact t.2 Ba
    ·rw[decide_eq_false Ba,decide_eq_true (.inr (.inr (.inr ⟨SV,Ba⟩)))];rfl
   ·refine⟨?_,f1⟩
    rw[decide_eq_false];rintro(t | t | t | t)
    ·exact h t
    ·omega
    ·rw[ha] at t;cases t
    ·exact KK (by rw[t.1];rfl)
  ·refine aa.t (by simp[sB]) ⟨?_,f1⟩
   refine(decide_eq_true (.inr (.inr (.inl ?_)))).symm;have:=fun t=>sB (hall.2 t);simpa using this
 rintro _ ⟨q,_⟩ w1 ⟨hq,f1⟩;dsimp only at hq;subst hq;unfold fB;refine aa.dec (fun h=>?_) (fun h=>?_)
 ·rw[if_pos h];exact⟨rfl,f1⟩
 rw[if_neg h];have aA:dc s≠[]:=fun t=>h (.inl t);have KL:(dc s).length<=13:=by
  by_cases t:13<(dc s).length
  ·exact absurd (.inr (.inl t)) h
  ·omega
 have hall:∀ c∈dc s,gx c=true:=by
  have:(dc s).all gx=true:=by
   cases ha:(dc s).all gx with
   | true=>rfl
   | false=>exact absurd (.inr (.inr (.inl ha))) h
  exact List.all_eq_true.1 this
 have v8:s=(if decide (s.take 1=[45]) then 45::dc s else dc s):=by
  unfold dc
  by_cases t:s.take 1=[45]
  ·rw[if_pos (decide_eq_true t),if_pos t]
   conv=>lhs;rw[<- List.take_append_drop 1 s,t]
   rfl
  ·rw[if_neg (by simpa using t),if_neg t]
 have jE:s.length<=14:=by
  rw[v8];split
  ·simp only[List.length_cons];omega
  ·omega
 obtain⟨b1,b2⟩:=A8 (dc s) hall (by omega)
 by_cases hn:s.take 1=[45]
 ·rw[if_pos (decide_eq_true hn)] at v8
  rw[if_pos hn];refine ab.of (KJ s (dc s) true v8 aA hall (by omega) w1) ?_;rintro _ w2 ⟨rfl,f2⟩;refine⟨(-(fP (dc s)),.nilIface,()),rfl,?_⟩;refine⟨false,w2,EH ⟨_,Tryz.underlying422⟩ _ w2,aa.f rfl ?_⟩;have f12:=f1.trans f2;refine aa.dec (fun h1=>?_) (fun h1=>?_)
  ·rw[if_pos (by omega)];exact⟨rfl,f12⟩
  ·rw[if_neg (by omega)]
   refine aa.no (by omega) ⟨rfl,f12⟩
 ·rw[if_neg (by simpa using hn)] at v8
  rw[if_neg hn];refine ab.of (KJ s (dc s) false v8 aA hall (by omega) w1) ?_;rintro _ w2 ⟨rfl,f2⟩;refine⟨(fP (dc s),.nilIface,()),rfl,?_⟩;refine⟨false,w2,EH ⟨_,Tryz.underlying422⟩ _ w2,aa.f rfl ?_⟩;have f12:=f1.trans f2;refine aa.no (by omega) ?_;refine aa.dec (fun h1=>?_) (fun h1=>?_)
  ·rw[if_pos (by omega)];exact⟨rfl,f12⟩
  ·rw[if_neg (by omega)];exact⟨rfl,f12⟩
theorem EI {n:Nat}(h:n<10):Lib.decDigits n=[UInt8.ofNat (48+n)]:=Lib.decDigits_one h
theorem KM {n:Nat}(h:¬ n<10):Lib.decDigits n=Lib.decDigits (n / 10)++[UInt8.ofNat (48+n % 10)]:=by rw[Lib.decDigits,dif_neg h]
theorem KN {k:Nat}(h:k<10):gx (UInt8.ofNat (48+k))=true:=by
 unfold gx;rw[mr (by omega),decide_eq_true (by omega),decide_eq_true (by omega)];rfl
theorem KO {c:UInt8}(h:gx c=true):48<=c.toNat/\c.toNat<=57:=by
 unfold gx at h;simp only[Bool.and_eq_true,decide_eq_true_eq] at h;exact h
theorem we:∀ n:Nat,Lib.decDigits n≠[]/\(∀ c∈Lib.decDigits n,gx c=true)/\fP (Lib.decDigits n)=n/\((Lib.decDigits n).getD 0 0=48->n=0)/\(∀ k:Nat,1<=k->n<10 ^ k->(Lib.decDigits n).length<=k):=by
 intro n
 induction n using Nat.strongRecOn with
 | _ n ih=>
  by_cases h:n<10
  ·rw[EI h]
   refine⟨by simp,fun c hc=>?_,?_,fun t=>?_,fun k U _=>by simpa using U⟩
   ·simp only[List.mem_singleton] at hc;rw[hc];exact KN h
   ·show(0:Int) * 10+(((UInt8.ofNat (48+n)).toNat:Int) - 48)=n
    rw[mr (by omega)];omega
   ·have t:UInt8.ofNat (48+n)=48:=t
    have:=congrArg UInt8.toNat t;rw[mr (by omega)] at this;have e:(48:UInt8).toNat=48:=rfl;omega
  ·obtain⟨i1,i2,i3,i4,i5⟩:=ih (n / 10) (by omega)
   rw[KM h];refine⟨by simp,fun c hc=>?_,?_,fun t=>?_,fun k U aU=>?_⟩
   ·rcases List.mem_append.1 hc with hc | hc
    ·exact i2 c hc
    ·simp only[List.mem_singleton] at hc;rw[hc];exact KN (by omega)
   ·rw[A7,i3,mr (by omega)];omega
   ·have hp:0<(Lib.decDigits (n / 10)).length:=List.length_pos_iff.2 i1
    rw[List.getD_eq_getElem?_getD,List.getElem?_append_left hp,<- List.getD_eq_getElem?_getD] at t;have:=i4 t;omega
   ·obtain⟨k',rfl⟩:∃ k',k=k'+1:=⟨k - 1,by omega⟩
    have ux:1<=k':=by
     cases k' with
     | zero=>simp at aU;omega
     | succ k'=>omega
    have uy:n / 10<10 ^ k':=by rw[Nat.pow_succ] at aU;omega
    have:=i5 k' ux uy;simp only[List.length_append,List.length_singleton];omega
theorem KP {n:Nat}(h:n<=1000000000000):(Lib.decDigits n).length<=13:=(we n).2.2.2.2 13 (by omega) (by omega)
theorem SW (s:List UInt8):dc (45::s)=s:=by unfold dc;rw[if_pos (by simp)];rfl
theorem SX {s:List UInt8}(h:∀ c∈s,gx c=true):dc s=s/\s.take 1≠[45]:=by
 have ht:s.take 1≠[45]:=fun t=>by
  cases s with
  | nil=>simp at t
  | cons c l=>
   have hc:=h c (by simp);simp at t;rw[t] at hc;exact absurd hc (by decide)
 exact⟨by unfold dc;rw[if_neg ht],ht⟩
theorem SY {n:Nat}(h:n<=1000000000000):fB (Lib.decDigits n)=((n:Int),true):=by
 obtain⟨aA,hd,hv,h0,_⟩:=we n;have KL:=KP h;obtain⟨jv,tH⟩:=SX hd;unfold fB;rw[jv,if_neg,hv,if_neg (by omega),if_neg tH];rintro(t | t | t | t)
 ·exact aA t
 ·omega
 ·rw[List.all_eq_true.2 hd] at t;cases t
 ·have:=h0 t.1
  subst this;exact t.2 (by rw[EI (by omega)];rfl)
theorem S0 {n:Nat}(h:n<=1000000000000)(hn:n≠0):fB (45::Lib.decDigits n)=(-(n:Int),true):=by
 obtain⟨aA,hd,hv,h0,_⟩:=we n;have KL:=KP h;unfold fB;rw[SW,if_neg,hv,if_neg (by omega),if_pos (by simp)];rintro(t | t | t | t)
 ·exact aA t
 ·omega
 ·rw[List.all_eq_true.2 hd] at t;cases t
 ·exact hn (h0 t.1)
theorem KQ {n:Int}(h0:-1000000000000<=n)(h1:n<=1000000000000):fB (Lib.itoa n)=(n,true):=by
 unfold Lib.itoa
 by_cases h:n<0
 ·rw[if_pos h,S0 (by omega) (by omega)]
  congr 1;omega
 ·rw[if_neg h,SY (by omega)]
  congr 1;omega
theorem S1 {α:Type}{Q:List α->Prop}(h0:Q [])(h1:∀ l a,Q l->Q (l++[a]))(l:List α):Q l:=by
 have:∀ r:List α,Q r.reverse:=fun r=>by
  induction r with
  | nil=>exact h0
  | cons a r ih=>rw[List.reverse_cons];exact h1 _ _ ih
 have:=this l.reverse;rwa[List.reverse_reverse] at this
theorem Ta (d:List UInt8)(h:∀ c∈d,gx c=true):0<=fP d:=(EG d 0 (by omega) h).1
theorem KR:∀ d:List UInt8,d≠[]->(∀ c∈d,gx c=true)->(d.getD 0 0=48->d=[48])->Lib.decDigits (fP d).toNat=d/\(d≠[48]->1<=fP d):=by
 intro d
 induction d using S1 with
 | h0=>intro h;exact absurd rfl h
 | h1 e c ih=>
  intro _ hd hz;have hc:=KO (hd c (by simp));have hv:=A7 e c;have KS:UInt8.ofNat (48+(c.toNat - 48))=c:=by rw[show 48+(c.toNat - 48)=c.toNat by omega];exact UInt8.ofNat_toNat
  by_cases he:e=[]
  ·subst he
   have sB:fP []=0:=rfl;rw[List.nil_append] at *;have:fP [c]=(c.toNat:Int) - 48:=by rw[hv,sB];omega
   rw[this];refine⟨?_,fun aA=>?_⟩
   ·rw[show((c.toNat:Int) - 48).toNat=c.toNat - 48 by omega,EI (by omega),KS]
   ·have:c≠48:=fun t=>aA (by rw[t])
    have:c.toNat≠48:=fun t=>this (by rw[<- UInt8.toNat_inj];exact t);omega
  ·have hp:0<e.length:=List.length_pos_iff.2 he
   have hg:(e++[c]).getD 0 0=e.getD 0 0:=by rw[List.getD_eq_getElem?_getD,List.getElem?_append_left hp,<- List.getD_eq_getElem?_getD]
   have KT:e.getD 0 0≠48:=fun t=>by
    have:=hz (hg.trans t);have:=congrArg List.length this;rw[List.length_append,List.length_singleton,List.length_singleton] at this;omega
   obtain⟨i1,i2⟩:=ih he (fun c hc=>hd c (by simp[hc])) (fun t=>absurd t KT);have sC:=i2 (fun t=>KT (by rw[t];rfl));rw[hv];refine⟨?_,fun _=>by omega⟩;rw[KM (n:=(fP e * 10+((c.toNat:Int) - 48)).toNat) (by omega),show(fP e * 10+((c.toNat:Int) - 48)).toNat / 10=(fP e).toNat by omega,i1,show(fP e * 10+((c.toNat:Int) - 48)).toNat % 10=c.toNat - 48 by omega,KS]
theorem KU {s:List UInt8}(h:(fB s).2=true):s=Lib.itoa (fB s).1/\-1000000000000<=(fB s).1/\(fB s).1<=1000000000000:=by
 unfold fB at h ⊢;split at h
 ·cases h
 rename_i hc;split at h
 ·cases h
 rename_i hb;rw[if_neg hc,if_neg hb];simp only[not_or] at hc;obtain⟨h1,h2,h3,h4⟩:=hc;have hd:∀ c∈dc s,gx c=true:=by
  have:(dc s).all gx=true:=by cases h:(dc s).all gx;exact absurd h h3;rfl
  exact List.all_eq_true.1 this
 have hn:=Ta _ hd
 by_cases hm:s.take 1=[45]
 ·have hs:s=45::dc s:=by
   unfold dc;rw[if_pos hm];cases s with
   | nil=>simp at hm
   | cons c l=>simp at hm;subst hm;rfl
  have hz:(dc s).getD 0 0≠48:=fun t=>h4 ⟨t,fun e=>by rw[e] at hm;simp at hm⟩;obtain⟨i1,i2⟩:=KR _ h1 hd (fun t=>absurd t hz);have:=i2 (fun t=>hz (by rw[t];rfl));rw[if_pos hm];refine⟨?_,by dsimp only;omega,by dsimp only;omega⟩;dsimp only;unfold Lib.itoa;rw[if_pos (by omega),show(-fP (dc s)).natAbs=(fP (dc s)).toNat by omega,i1];exact hs
 ·have hs:dc s=s:=by unfold dc;rw[if_neg hm]
  rw[if_neg hm];rw[hs] at h1 h2 h3 h4 hb hn hd ⊢;obtain⟨i1,i2⟩:=KR s h1 hd (fun t=>by
   by_cases e:s=[48]
   ·exact e
   ·exact absurd ⟨t,e⟩ h4)
  refine⟨?_,by dsimp only;omega,by dsimp only;omega⟩;dsimp only;unfold Lib.itoa;rw[if_neg (by omega),i1]
structure RS where
 l:List dB
 at_:Int
 e:Int
def EJ (fin:Int)(s:RS):Int:=match s.l with | x::_=>x.2 | []=>fin
def ky (fin c:Int)(s:RS):RS:=if s.e=0 then⟨s.l,EJ fin s,c⟩ else s
def bT (fin:Int)(right:List UInt8->Bool)(s:RS):List UInt8×RS:=
 if s.e=0 then match s.l with
  | []=>([],⟨[],fin,2⟩)
  | x::l=>if right x.1=true then(x.1,⟨l,s.at_,0⟩) else([],⟨x::l,x.2,2⟩)
 else([],s)
def dd (fin:Int)(x:List UInt8)(s:RS):RS:=(bT fin (fun y=>decide (y=x)) s).2
def gE (x:List UInt8):Bool:=(fB x).2||(x==[102,105,120]||(x==[97,100,100]||(x==[110,101,103]||(x==[109,117,108]||x==[109,97,120]))))
def fV (x:List UInt8):Bool:=x==[122,101,114,111]||(x==[111,110,101]||(x==[103,105,118,101]||(x==[97,110,100]||(x==[111,114]||(x==[115,99,97,108,101]||(x==[119,104,101,110]||x==[105,102]))))))
def lg (x:List UInt8):Bool:=(fB x).2&&(decide (0<=(fB x).1)&&decide ((fB x).1<=10000))
def gF (fin:Int)(rec:RS->Ob×RS)(s:RS):Ob×Ob×RS:=
 ((rec (dd fin [40] s)).1,(rec (dd fin [44] (rec (dd fin [40] s)).2)).1,dd fin [41] (rec (dd fin [44] (rec (dd fin [40] s)).2)).2)
def ra (fin:Int)(rec:RS->Ob×RS)(x:List UInt8)(s:RS):Ob×RS:=
 if x=[102,105,120] then(.fix (bT fin eI (dd fin [40] s)).1,dd fin [41] (bT fin eI (dd fin [40] s)).2)
 else if x=[110,101,103] then(.neg (rec (dd fin [40] s)).1,dd fin [41] (rec (dd fin [40] s)).2)
 else if x=[97,100,100] then(.add (gF fin rec s).1 (gF fin rec s).2.1,(gF fin rec s).2.2)
 else if x=[109,117,108] then(.mul (gF fin rec s).1 (gF fin rec s).2.1,(gF fin rec s).2.2)
 else if x=[109,97,120] then(.max (gF fin rec s).1 (gF fin rec s).2.1,(gF fin rec s).2.2)
 else(.const (fB x).1,s)
def iC (fin:Int):Nat->RS->Ob×RS
 | 0,s=>(.none,ky fin 5 s)
 | n+1,s=>if s.e≠0 then(.none,s) else if(bT fin gE s).1=[] then(.none,(bT fin gE s).2) else ra fin (iC fin n) (bT fin gE s).1 (bT fin gE s).2
def kz (fin:Int)(rec:RS->Tm×RS)(s:RS):Tm×RS:=((rec s).1,dd fin [41] (rec s).2)
def gG (fin:Int)(rec:RS->Tm×RS)(s:RS):Tm×Tm×RS:=((rec s).1,(rec (dd fin [44] (rec s).2)).1,dd fin [41] (rec (dd fin [44] (rec s).2)).2)
def qi (fin:Int)(num:RS->Ob×RS)(rec:RS->Tm×RS)(x:List UInt8)(s:RS):Tm×RS:=
 if x=[111,110,101] then(.one (bT fin eI s).1,dd fin [41] (bT fin eI s).2)
 else if x=[103,105,118,101] then(.gh (kz fin rec s).1,(kz fin rec s).2)
 else if x=[97,110,100] then(.and (gG fin rec s).1 (gG fin rec s).2.1,(gG fin rec s).2.2)
 else if x=[111,114] then
  (.or (bT fin eI s).1 (gG fin rec (dd fin [44] (bT fin eI s).2)).1 (gG fin rec (dd fin [44] (bT fin eI s).2)).2.1,(gG fin rec (dd fin [44] (bT fin eI s).2)).2.2)
 else if x=[115,99,97,108,101] then(.scale (num s).1 (kz fin rec (dd fin [44] (num s).2)).1,(kz fin rec (dd fin [44] (num s).2)).2)
 else if x=[119,104,101,110] then
  (.when (fB (bT fin lg s).1).1 (kz fin rec (dd fin [44] (bT fin lg s).2)).1,(kz fin rec (dd fin [44] (bT fin lg s).2)).2)
 else(.cond (num s).1 (gG fin rec (dd fin [44] (num s).2)).1 (gG fin rec (dd fin [44] (num s).2)).2.1,(gG fin rec (dd fin [44] (num s).2)).2.2)
def fh (fin:Int):Nat->RS->Tm×RS
 | 0,s=>(.none,ky fin 5 s)
 | n+1,s=>if s.e≠0 then(.none,s) else if(bT fin fV s).1=[] then(.zero,(bT fin fV s).2) else if(bT fin fV s).1=[122,101,114,111] then(.zero,(bT fin fV s).2)
   else qi fin (iC fin n) (fh fin n) (bT fin fV s).1 (dd fin [40] (bT fin fV s).2)
def sD (fin:Int)(s:RS):RS:=match s.l with | []=>s | _::_=>ky fin 2 s
def mJ (bs:List UInt8):Int:=((cA bs).length:Int)+1
def lh (bs:List UInt8):RS:=if 1000<bs.length then⟨[],0,5⟩ else if 0<(eh [] 0 false (cA bs)).2 then⟨(eh [] 0 false (cA bs)).1,(eh [] 0 false (cA bs)).2,2⟩ else⟨(eh [] 0 false (cA bs)).1,0,0⟩
def ot (bs:List UInt8):RS:=sD (mJ bs) (fh (mJ bs) 12 (lh bs)).2
def mK (bs:List UInt8):Tm×Int×Int:=
 if(ot bs).e≠0 then(.none,(ot bs).at_,(ot bs).e) else if jf (fh (mJ bs) 12 (lh bs)).1≠0 then(.none,(ot bs).at_,jf (fh (mJ bs) 12 (lh bs)).1) else((fh (mJ bs) 12 (lh bs)).1,0,0)
theorem EL {fin:Int}{right:List UInt8->Bool}{x:dB}{l:List dB}{a:Int}(h:right x.1=true):bT fin right ⟨x::l,a,0⟩=(x.1,⟨l,a,0⟩):=by
 unfold bT;simp[h]
theorem KV {fin:Int}{right:List UInt8->Bool}{x:dB}{l:List dB}{a:Int}(h:¬ right x.1=true):bT fin right ⟨x::l,a,0⟩=([],⟨x::l,x.2,2⟩):=by
 unfold bT;simp[h]
theorem KW {fin:Int}{right:List UInt8->Bool}{a:Int}:bT fin right ⟨[],a,0⟩=([],⟨[],fin,2⟩):=by
 unfold bT;simp
theorem KX {fin:Int}{right:List UInt8->Bool}{s:RS}(h:s.e≠0):bT fin right s=([],s):=by
 unfold bT;rw[if_neg h]
theorem KY {fin c:Int}{s:RS}(h:s.e≠0):ky fin c s=s:=by unfold ky;rw[if_neg h]
structure fu (s:RS)(ts:List (List UInt8))(s':RS):Prop where
 e:s.e=0
 e':s'.e=0
 at_:s'.at_=s.at_
 wg:∃ xs:List dB,s.l=xs++s'.l/\xs.map Prod.fst=ts
theorem fu.trans {s s1 s2:RS}{a b:List (List UInt8)}(h:fu s a s1)(k:fu s1 b s2):fu s (a++b) s2:=by
 obtain⟨xs,hx,ou⟩:=h.wg;obtain⟨ys,hy,tM⟩:=k.wg;exact⟨h.e,k.e',k.at_.trans h.at_,xs++ys,by rw[hx,hy,List.append_assoc],by rw[List.map_append,ou,tM]⟩
theorem fu.nil {s s':RS}(h:fu s [] s'):s=s':=by
 obtain⟨xs,hx,ou⟩:=h.wg;have:xs=[]:=by simpa using ou
 subst this
 rcases s with⟨l,a,e⟩
 rcases s' with⟨l',a',e'⟩
 have h1:=h.e;have h2:=h.e';have h3:=h.at_;dsimp only at h1 h2 h3 hx;subst h1 h2 h3;rw[List.nil_append] at hx;rw[hx]
theorem fu.split {s s':RS}{a b:List (List UInt8)}(h:fu s (a++b) s'):∃ s1,fu s a s1/\fu s1 b s':=by
 obtain⟨xs,hx,ou⟩:=h.wg;obtain⟨ys,zs,rfl,hy,hz⟩:=List.map_eq_append_iff.1 ou;exact⟨⟨zs++s'.l,s.at_,0⟩,⟨h.e,rfl,rfl,ys,by rw[hx,List.append_assoc],hy⟩,⟨rfl,h.e',h.at_,zs,rfl,hz⟩⟩
theorem fu.head {s s':RS}{t:List UInt8}{ts:List (List UInt8)}(h:fu s (t::ts) s'):∃ (x:dB) (l:List dB),s=⟨x::l,s.at_,0⟩/\x.1=t/\fu ⟨l,s.at_,0⟩ ts s':=by
 obtain⟨xs,hx,ou⟩:=h.wg;cases xs with
 | nil=>simp at ou
 | cons x xs=>
  simp only[List.map_cons,List.cons.injEq] at ou;refine⟨x,xs++s'.l,?_,ou.1,rfl,h.e',h.at_,xs,rfl,ou.2⟩
  rcases s with⟨l,a,e⟩
  have h1:=h.e;dsimp only at h1 hx ⊢;rw[h1,hx];rfl
theorem rb {fin:Int}{right:List UInt8->Bool}{s:RS}(h:(bT fin right s).2.e=0):fu s [(bT fin right s).1] (bT fin right s).2/\right (bT fin right s).1=true:=by
 rcases s with⟨l,a,e⟩
 by_cases he:e=0
 ·subst he
  cases l with
  | nil=>rw[KW] at h;exact absurd (show(2:Int)=0 from h) (by decide)
  | cons x l=>
   by_cases hr:right x.1=true
   ·rw[EL hr];exact⟨⟨rfl,rfl,rfl,[x],rfl,rfl⟩,hr⟩
   ·rw[KV hr] at h;exact absurd (show(2:Int)=0 from h) (by decide)
 ·rw[KX he] at h;exact absurd h he
theorem lj {fin:Int}{x:List UInt8}{s:RS}(h:(dd fin x s).e=0):fu s [x] (dd fin x s):=by
 obtain⟨h1,h2⟩:=rb (fin:=fin) (right:=fun y=>decide (y=x)) h;have h2:=of_decide_eq_true h2;rw[h2] at h1;exact h1
theorem jQ {fin:Int}{right:List UInt8->Bool}{s s':RS}{t:List UInt8}{ts:List (List UInt8)}(hr:right t=true)(h:fu s (t::ts) s'):∃ s1,bT fin right s=(t,s1)/\fu s1 ts s':=by
 obtain⟨x,l,hs,hx,ha⟩:=h.head;refine⟨_,?_,ha⟩;rw[hs,EL (by rw[hx];exact hr),hx]
theorem fj {fin:Int}{s s':RS}{t:List UInt8}{ts:List (List UInt8)}(h:fu s (t::ts) s'):∃ s1,dd fin t s=s1/\fu s1 ts s':=by
 obtain⟨s1,h1,h2⟩:=jQ (fin:=fin) (right:=fun y=>decide (y=t)) (by simp) h;exact⟨s1,by unfold dd;rw[h1],h2⟩
structure Cut (s:RS)(ts:List (List UInt8)):Prop where
 e:s.e=0
 cut:∃ u:List (List UInt8),u≠[]/\s.l.map Prod.fst++u=ts
theorem Cut.split {s:RS}{a b:List (List UInt8)}(h:Cut s (a++b)):Cut s a\/∃ s1,fu s a s1/\Cut s1 b:=by
 obtain⟨u,hu,he⟩:=h.cut
 rcases List.append_eq_append_iff.1 he with⟨c,nC,rf⟩ | ⟨c,nC,rf⟩
 ·by_cases hc:c=[]
  ·subst hc
   rw[List.append_nil] at nC;rw[List.nil_append] at rf;refine .inr ⟨⟨[],s.at_,0⟩,⟨h.e,rfl,rfl,s.l,by simp,nC.symm⟩,rfl,b,?_,by simp⟩;rw[<- rf];exact hu
  ·exact .inl ⟨h.e,c,hc,nC.symm⟩
 ·obtain⟨ys,zs,hl,hy,hz⟩:=List.map_eq_append_iff.1 nC
  exact .inr ⟨⟨zs,s.at_,0⟩,⟨h.e,rfl,rfl,ys,hl,hy⟩,rfl,u,hu,by rw[hz];exact rf.symm⟩
theorem KZ (fin:Int):∀ (n:Nat) (s:RS),s.e≠0->(iC fin n s).2=s
 | 0,s,h=>KY h
 | n+1,s,h=>by unfold iC;rw[if_pos h]
theorem K0 (fin:Int):∀ (n:Nat) (s:RS),s.e≠0->(fh fin n s).2=s
 | 0,s,h=>KY h
 | n+1,s,h=>by unfold fh;rw[if_pos h]
def jR:Ob->List (List UInt8)
 | .none=>[]
 | .const n=>[Lib.itoa n]
 | .fix s=>[102,105,120]::[40]::s::[[41]]
 | .neg o=>[110,101,103]::[40]::(jR o++[[41]])
 | .add l r=>[97,100,100]::[40]::(jR l++([44]::(jR r++[[41]])))
 | .mul l r=>[109,117,108]::[40]::(jR l++([44]::(jR r++[[41]])))
 | .max l r=>[109,97,120]::[40]::(jR l++([44]::(jR r++[[41]])))
def iD:Tm->List (List UInt8)
 | .none=>[]
 | .zero=>[[122,101,114,111]]
 | .one s=>[111,110,101]::[40]::s::[[41]]
 | .gh t=>[103,105,118,101]::[40]::(iD t++[[41]])
 | .and l r=>[97,110,100]::[40]::(iD l++([44]::(iD r++[[41]])))
 | .or s l r=>[111,114]::[40]::s::[44]::(iD l++([44]::(iD r++[[41]])))
 | .scale o t=>[115,99,97,108,101]::[40]::(jR o++([44]::(iD t++[[41]])))
 | .when d t=>[119,104,101,110]::[40]::Lib.itoa d::[44]::(iD t++[[41]])
 | .cond o l r=>[105,102]::[40]::(jR o++([44]::(iD l++([44]::(iD r++[[41]])))))
theorem Tb {x:List UInt8}(h:gE x=true):x=[102,105,120]\/x=[97,100,100]\/x=[110,101,103]\/x=[109,117,108]\/x=[109,97,120]\/(fB x).2=true:=by
 unfold gE at h;simp only[Bool.or_eq_true,beq_iff_eq] at h
 rcases h with h | h | h | h | h | h<;>simp[h]
theorem Tc {x:List UInt8}(h:(fB x).2=true):x≠[]/\x≠[102,105,120]/\x≠[110,101,103]/\x≠[97,100,100]/\x≠[109,117,108]/\x≠[109,97,120]:=by
 refine⟨?_,?_,?_,?_,?_,?_⟩<;>(rintro rfl;exact absurd h (by decide +kernel))
theorem Td {x:List UInt8}(h:fV x=true):x=[122,101,114,111]\/x=[111,110,101]\/x=[103,105,118,101]\/x=[97,110,100]\/x=[111,114]\/x=[115,99,97,108,101]\/x=[119,104,101,110]\/x=[105,102]:=by
 unfold fV at h;simpa only[Bool.or_eq_true,beq_iff_eq] using h
theorem Te {x:List UInt8}(h:lg x=true):(fB x).2=true/\0<=(fB x).1/\(fB x).1<=10000:=by
 unfold lg at h;simpa only[Bool.and_eq_true,decide_eq_true_eq] using h
def K1 (n:Nat)(rec:RS->Ob×RS):Prop:=∀ s,(rec s).2.e=0->fu s (jR (rec s).1) (rec s).2/\cL (rec s).1=true/\cX (rec s).1<=n
def EM (n:Nat)(rec:RS->Tm×RS):Prop:=∀ s,(rec s).2.e=0->fu s (iD (rec s).1) (rec s).2/\cx (rec s).1=true/\cd (rec s).1<=n
theorem EN {fin:Int}{n:Nat}{rec:RS->Ob×RS}(hr:K1 n rec){s:RS}(h:(gF fin rec s).2.2.e=0):
  fu s ([40]::(jR (gF fin rec s).1++([44]::(jR (gF fin rec s).2.1++[[41]])))) (gF fin rec s).2.2/\(cL (gF fin rec s).1=true/\cX (gF fin rec s).1<=n)/\cL (gF fin rec s).2.1=true/\cX (gF fin rec s).2.1<=n:=by
 unfold gF at h ⊢;dsimp only at h ⊢;have h5:=lj h;have h4:=hr _ h5.e;have h3:=lj h4.1.e;have h2:=hr _ h3.e;have h1:=lj h2.1.e;have:=h1.trans (h2.1.trans (h3.trans (h4.1.trans h5)));exact⟨by simpa using this,h2.2,h4.2⟩
theorem K2 (fin:Int):∀ n,K1 n (iC fin n)
 | 0,s,h=>by
  exfalso
  by_cases he:s.e=0
  ·have:(iC fin 0 s).2.e=5:=by show(ky fin 5 s).e=5;unfold ky;rw[if_pos he]
   rw[this] at h;exact absurd h (by decide)
  ·rw[KZ fin 0 s he] at h;exact he h
 | n+1,s,h=>by
  have ih:=K2 fin n;have he:s.e=0:=by
   refine Classical.byContradiction fun he=>?_;rw[KZ fin (n+1) s he] at h;exact he h
  unfold iC at h ⊢;rw[if_neg (by simpa using he)] at h ⊢
  by_cases jb:(bT fin gE s).1=[]
  ·rw[if_pos jb] at h
   have:=(rb h).2;rw[jb] at this;exact absurd this (by decide +kernel)
  rw[if_neg jb] at h ⊢;have step:∀ {o:Ob} {u:List (List UInt8)} {s':RS},fu (bT fin gE s).2 u s'->fu s ((bT fin gE s).1::u) s'/\gE (bT fin gE s).1=true:=fun ha=>by
   have t:=rb (fin:=fin) (right:=gE) (s:=s) ha.e;exact⟨t.1.trans ha,t.2⟩
  generalize hx:(bT fin gE s).1=x at h jb step ⊢;generalize jL:(bT fin gE s).2=s1 at h step ⊢;unfold ra at h ⊢
  by_cases c1:x=[102,105,120]
  ·rw[if_pos c1] at h ⊢
   dsimp only at h ⊢;have h3:=lj h;have h2:=rb h3.e;have h1:=lj h2.1.e;have:=h1.trans (h2.1.trans h3);refine⟨by have:=(step (o:=.none) this).1;rw[c1] at this;simpa[jR] using this,h2.2,by unfold cX;omega⟩
  rw[if_neg c1] at h ⊢
  by_cases c2:x=[110,101,103]
  ·rw[if_pos c2] at h ⊢
   dsimp only at h ⊢;have h3:=lj h;have h2:=ih _ h3.e;have h1:=lj h2.1.e;have:=h1.trans (h2.1.trans h3);refine⟨by have:=(step (o:=.none) this).1;rw[c2] at this;simpa[jR] using this,h2.2.1,by unfold cX;have:=h2.2.2;omega⟩
  rw[if_neg c2] at h ⊢
  by_cases c3:x=[97,100,100]
  ·rw[if_pos c3] at h ⊢
   dsimp only at h ⊢;have hp:=EN ih h;refine⟨by have:=(step (o:=.none) hp.1).1;rw[c3] at this;exact this,by unfold cL;rw[hp.2.1.1,hp.2.2.1];rfl,by unfold cX;have:=hp.2.1.2;have:=hp.2.2.2;omega⟩
  rw[if_neg c3] at h ⊢
  by_cases c4:x=[109,117,108]
  ·rw[if_pos c4] at h ⊢
   dsimp only at h ⊢;have hp:=EN ih h;refine⟨by have:=(step (o:=.none) hp.1).1;rw[c4] at this;exact this,by unfold cL;rw[hp.2.1.1,hp.2.2.1];rfl,by unfold cX;have:=hp.2.1.2;have:=hp.2.2.2;omega⟩
  rw[if_neg c4] at h ⊢
  by_cases c5:x=[109,97,120]
  ·rw[if_pos c5] at h ⊢
   dsimp only at h ⊢;have hp:=EN ih h;refine⟨by have:=(step (o:=.none) hp.1).1;rw[c5] at this;exact this,by unfold cL;rw[hp.2.1.1,hp.2.2.1];rfl,by unfold cX;have:=hp.2.1.2;have:=hp.2.2.2;omega⟩
  rw[if_neg c5] at h ⊢;dsimp only at h ⊢;have h1:=step (o:=.none) (u:=[]) (s':=s1) ⟨h,h,rfl,[],rfl,rfl⟩
  rcases Tb h1.2 with t | t | t | t | t | t
  ·exact absurd t c1
  ·exact absurd t c3
  ·exact absurd t c2
  ·exact absurd t c4
  ·exact absurd t c5
  ·have hi:=KU t
   refine⟨?_,?_,by unfold cX;omega⟩
   ·unfold jR
    rw[<- hi.1];exact h1.1
   ·unfold cL cv
    rw[decide_eq_true hi.2.1,decide_eq_true hi.2.2];rfl
theorem EO {fin:Int}{n:Nat}{rec:RS->Tm×RS}(hr:EM n rec){s:RS}(h:(kz fin rec s).2.e=0):
  fu s (iD (kz fin rec s).1++[[41]]) (kz fin rec s).2/\cx (kz fin rec s).1=true/\cd (kz fin rec s).1<=n:=by
 unfold kz at h ⊢;dsimp only at h ⊢;have h5:=lj h;have h4:=hr _ h5.e;exact⟨h4.1.trans h5,h4.2⟩
theorem EP {fin:Int}{n:Nat}{rec:RS->Tm×RS}(hr:EM n rec){s:RS}(h:(gG fin rec s).2.2.e=0):
  fu s (iD (gG fin rec s).1++([44]::(iD (gG fin rec s).2.1++[[41]]))) (gG fin rec s).2.2/\(cx (gG fin rec s).1=true/\cd (gG fin rec s).1<=n)/\cx (gG fin rec s).2.1=true/\cd (gG fin rec s).2.1<=n:=by
 unfold gG at h ⊢;dsimp only at h ⊢;have h5:=lj h;have h4:=hr _ h5.e;have h3:=lj h4.1.e;have h2:=hr _ h3.e;have:=h2.1.trans (h3.trans (h4.1.trans h5));exact⟨by simpa using this,h2.2,h4.2⟩
theorem K3 (fin:Int):∀ n,EM n (fh fin n)
 | 0,s,h=>by
  exfalso
  by_cases he:s.e=0
  ·have:(fh fin 0 s).2.e=5:=by show(ky fin 5 s).e=5;unfold ky;rw[if_pos he]
   rw[this] at h;exact absurd h (by decide)
  ·rw[K0 fin 0 s he] at h;exact he h
 | n+1,s,h=>by
  have ih:=K3 fin n;have yA:=K2 fin n;have he:s.e=0:=by
   refine Classical.byContradiction fun he=>?_;rw[K0 fin (n+1) s he] at h;exact he h
  unfold fh at h ⊢;rw[if_neg (by simpa using he)] at h ⊢
  by_cases jb:(bT fin fV s).1=[]
  ·rw[if_pos jb] at h
   have:=(rb h).2;rw[jb] at this;exact absurd this (by decide +kernel)
  rw[if_neg jb] at h ⊢;have step:∀ {u:List (List UInt8)} {s':RS},fu (bT fin fV s).2 u s'->fu s ((bT fin fV s).1::u) s'/\fV (bT fin fV s).1=true:=fun ha=>by
   have t:=rb (fin:=fin) (right:=fV) (s:=s) ha.e;exact⟨t.1.trans ha,t.2⟩
  generalize hx:(bT fin fV s).1=x at h jb step ⊢;generalize jL:(bT fin fV s).2=s1 at h step ⊢
  by_cases c0:x=[122,101,114,111]
  ·rw[if_pos c0] at h ⊢
   dsimp only at h ⊢;refine⟨by have:=(step (u:=[]) (s':=s1) ⟨h,h,rfl,[],rfl,rfl⟩).1;rw[c0] at this;exact this,rfl,by unfold cd;omega⟩
  rw[if_neg c0] at h ⊢;have step2:∀ {u:List (List UInt8)} {s':RS},fu (dd fin [40] s1) u s'->fu s (x::[40]::u) s'/\fV x=true:=fun ha=>step ((lj ha.e).trans ha);generalize fQ:dd fin [40] s1=s2 at h step2 ⊢;unfold qi at h ⊢
  by_cases c1:x=[111,110,101]
  ·rw[if_pos c1] at h ⊢
   dsimp only at h ⊢;have h3:=lj h;have h2:=rb h3.e;refine⟨by have:=(step2 (h2.1.trans h3)).1;rw[c1] at this;simpa[iD] using this,h2.2,by unfold cd;omega⟩
  rw[if_neg c1] at h ⊢
  by_cases c2:x=[103,105,118,101]
  ·rw[if_pos c2] at h ⊢
   dsimp only at h ⊢;have hp:=EO ih h;refine⟨by have:=(step2 hp.1).1;rw[c2] at this;exact this,hp.2.1,by unfold cd;have:=hp.2.2;omega⟩
  rw[if_neg c2] at h ⊢
  by_cases c3:x=[97,110,100]
  ·rw[if_pos c3] at h ⊢
   dsimp only at h ⊢;have hp:=EP ih h;refine⟨by have:=(step2 hp.1).1;rw[c3] at this;exact this,by unfold cx;rw[hp.2.1.1,hp.2.2.1];rfl,by unfold cd;have:=hp.2.1.2;have:=hp.2.2.2;omega⟩
  rw[if_neg c3] at h ⊢
  by_cases c4:x=[111,114]
  ·rw[if_pos c4] at h ⊢
   dsimp only at h ⊢;have hp:=EP ih h;have h2:=lj hp.1.e;have h1:=rb h2.e;refine⟨by have:=(step2 (h1.1.trans (h2.trans hp.1))).1;rw[c4] at this;simpa[iD] using this,by unfold cx;rw[hp.2.1.1,hp.2.2.1,h1.2];rfl,by unfold cd;have:=hp.2.1.2;have:=hp.2.2.2;omega⟩
  rw[if_neg c4] at h ⊢
  by_cases c5:x=[115,99,97,108,101]
  ·rw[if_pos c5] at h ⊢
   dsimp only at h ⊢;have hp:=EO ih h;have h2:=lj hp.1.e;have h1:=yA _ h2.e;refine⟨by have:=(step2 (h1.1.trans (h2.trans hp.1))).1;rw[c5] at this;simpa[iD] using this,by unfold cx;rw[hp.2.1,h1.2.1];rfl,by unfold cd;have:=hp.2.2;have:=h1.2.2;omega⟩
  rw[if_neg c5] at h ⊢
  by_cases c6:x=[119,104,101,110]
  ·rw[if_pos c6] at h ⊢
   dsimp only at h ⊢;have hp:=EO ih h;have h2:=lj hp.1.e;have h1:=rb h2.e;have hd:=Te h1.2;have hi:=KU hd.1;refine⟨?_,by unfold cx;rw[hp.2.1,decide_eq_true hd.2.1,decide_eq_true hd.2.2];rfl,by unfold cd;have:=hp.2.2;omega⟩;have:=(step2 (h1.1.trans (h2.trans hp.1))).1;rw[c6] at this;unfold iD;rw[<- hi.1];simpa using this
  rw[if_neg c6] at h ⊢;dsimp only at h ⊢;have hp:=EP ih h;have h2:=lj hp.1.e;have h1:=yA _ h2.e;have h0:=step2 (h1.1.trans (h2.trans hp.1));have c7:x=[105,102]:=by
   rcases Td h0.2 with t | t | t | t | t | t | t | t
   ·exact absurd t c0
   ·exact absurd t c1
   ·exact absurd t c2
   ·exact absurd t c3
   ·exact absurd t c4
   ·exact absurd t c5
   ·exact absurd t c6
   ·exact t
  refine⟨by have:=h0.1;rw[c7] at this;simpa[iD] using this,by unfold cx;rw[hp.2.1.1,hp.2.2.1,h1.2.1];rfl,by unfold cd;have:=hp.2.1.2;have:=hp.2.2.2;have:=h1.2.2;omega⟩
theorem K4 (fin:Int):∀ (n:Nat) (o:Ob),cL o=true->cX o<=n->∀ {s s':RS},fu s (jR o) s'->iC fin n s=(o,s')
 | 0,o,hf,hd,s,s',h=>by cases o<;>simp[cL,cX] at hf hd
 | n+1,o,hf,hd,s,s',h=>by
  have ih:=K4 fin n;have he:=h.e;unfold iC;rw[if_neg (by simpa using he)];cases o with
  | none=>cases hf
  | const k=>
   have hv:=Ex hf;have hn:=KQ hv.1 hv.2;have hw:gE (Lib.itoa k)=true:=by unfold gE;rw[hn];rfl
   obtain⟨s1,e1,h⟩:=jQ (fin:=fin) hw h;have:=h.nil;subst this;have aA:=Tc (x:=Lib.itoa k) (by rw[hn]);rw[e1];dsimp only;rw[if_neg aA.1];unfold ra;rw[if_neg aA.2.1,if_neg aA.2.2.1,if_neg aA.2.2.2.1,if_neg aA.2.2.2.2.1,if_neg aA.2.2.2.2.2,hn]
  | fix x=>
   obtain⟨s1,e1,h⟩:=jQ (fin:=fin) (right:=gE) (by decide +kernel) h;obtain⟨s2,e2,h⟩:=fj (fin:=fin) h;obtain⟨s3,e3,h⟩:=jQ (fin:=fin) (right:=eI) hf h;obtain⟨s4,e4,h⟩:=fj (fin:=fin) h;have:=h.nil;subst this;rw[e1];dsimp only;rw[if_neg (by decide)];unfold ra;rw[if_pos rfl,e2,e3];dsimp only;rw[e4]
  | neg x=>
   have ER:cX x<=n:=by unfold cX at hd;omega
   obtain⟨s1,e1,h⟩:=jQ (fin:=fin) (right:=gE) (by decide +kernel) h;obtain⟨s2,e2,h⟩:=fj (fin:=fin) h;obtain⟨s3,ha,h⟩:=h.split;obtain⟨s4,e4,h⟩:=fj (fin:=fin) h;have:=h.nil;subst this;rw[e1];dsimp only;rw[if_neg (by decide)];unfold ra;rw[if_neg (by decide),if_pos rfl,e2,ih x hf ER ha];dsimp only;rw[e4]
  | add l r=>
   simp only[cL,Bool.and_eq_true] at hf;have hl:cX l<=n:=by unfold cX at hd;omega
   have hr:cX r<=n:=by unfold cX at hd;omega
   obtain⟨s1,e1,h⟩:=jQ (fin:=fin) (right:=gE) (by decide +kernel) h;obtain⟨s2,e2,h⟩:=fj (fin:=fin) h;obtain⟨s3,ha,h⟩:=h.split;obtain⟨s4,e4,h⟩:=fj (fin:=fin) h;obtain⟨s5,hb,h⟩:=h.split;obtain⟨s6,e6,h⟩:=fj (fin:=fin) h;have:=h.nil;subst this;rw[e1];dsimp only;rw[if_neg (by decide)];unfold ra;rw[if_neg (by decide),if_neg (by decide),if_pos rfl];unfold gF;rw[e2,ih l hf.1 hl ha];dsimp only;rw[e4,ih r hf.2 hr hb];dsimp only;rw[e6]
  | mul l r=>
   simp only[cL,Bool.and_eq_true] at hf;have hl:cX l<=n:=by unfold cX at hd;omega
   have hr:cX r<=n:=by unfold cX at hd;omega
   obtain⟨s1,e1,h⟩:=jQ (fin:=fin) (right:=gE) (by decide +kernel) h;obtain⟨s2,e2,h⟩:=fj (fin:=fin) h;obtain⟨s3,ha,h⟩:=h.split;obtain⟨s4,e4,h⟩:=fj (fin:=fin) h;obtain⟨s5,hb,h⟩:=h.split;obtain⟨s6,e6,h⟩:=fj (fin:=fin) h;have:=h.nil;subst this;rw[e1];dsimp only;rw[if_neg (by decide)];unfold ra;rw[if_neg (by decide),if_neg (by decide),if_neg (by decide),if_pos rfl];unfold gF;rw[e2,ih l hf.1 hl ha];dsimp only;rw[e4,ih r hf.2 hr hb];dsimp only;rw[e6]
  | max l r=>
   simp only[cL,Bool.and_eq_true] at hf;have hl:cX l<=n:=by unfold cX at hd;omega
   have hr:cX r<=n:=by unfold cX at hd;omega
   obtain⟨s1,e1,h⟩:=jQ (fin:=fin) (right:=gE) (by decide +kernel) h;obtain⟨s2,e2,h⟩:=fj (fin:=fin) h;obtain⟨s3,ha,h⟩:=h.split;obtain⟨s4,e4,h⟩:=fj (fin:=fin) h;obtain⟨s5,hb,h⟩:=h.split;obtain⟨s6,e6,h⟩:=fj (fin:=fin) h;have:=h.nil;subst this;rw[e1];dsimp only;rw[if_neg (by decide)];unfold ra;rw[if_neg (by decide),if_neg (by decide),if_neg (by decide),if_neg (by decide),if_pos rfl];unfold gF;rw[e2,ih l hf.1 hl ha];dsimp only;rw[e4,ih r hf.2 hr hb];dsimp only;rw[e6]
theorem ES {fin:Int}{rec:RS->Tm×RS}{t:Tm}{s s1 s2:RS}(h:rec s=(t,s1))(e:dd fin [41] s1=s2):kz fin rec s=(t,s2):=by
 unfold kz;rw[h];dsimp only;rw[e]
theorem ET {fin:Int}{rec:RS->Tm×RS}{l r:Tm}{s s1 s2 s3 s4:RS}(h:rec s=(l,s1))(e:dd fin [44] s1=s2)(h2:rec s2=(r,s3))(e2:dd fin [41] s3=s4):gG fin rec s=(l,r,s4):=by
 unfold gG;rw[h];dsimp only;rw[e,h2];dsimp only;rw[e2]
theorem K5 (fin:Int):∀ (n:Nat) (t:Tm),cx t=true->cd t<=n->∀ {s s':RS},fu s (iD t) s'->fh fin n s=(t,s')
 | 0,t,hf,hd,s,s',h=>by cases t<;>simp[cx,cd] at hf hd
 | n+1,t,hf,hd,s,s',h=>by
  have ih:=K5 fin n;have yA:=K4 fin n;have he:=h.e;unfold fh;rw[if_neg (by simpa using he)];cases t with
  | none=>cases hf
  | zero=>
   obtain⟨s1,e1,h⟩:=jQ (fin:=fin) (right:=fV) (by decide) h;have:=h.nil;subst this;rw[e1];dsimp only;rw[if_neg (by decide),if_pos rfl]
  | one x=>
   obtain⟨s1,e1,h⟩:=jQ (fin:=fin) (right:=fV) (by decide) h;obtain⟨s2,e2,h⟩:=fj (fin:=fin) h;obtain⟨s3,e3,h⟩:=jQ (fin:=fin) (right:=eI) hf h;obtain⟨s4,e4,h⟩:=fj (fin:=fin) h;have:=h.nil;subst this;rw[e1];dsimp only;rw[if_neg (by decide),if_neg (by decide),e2];unfold qi;rw[if_pos rfl,e3];dsimp only;rw[e4]
  | gh x=>
   have ER:cd x<=n:=by unfold cd at hd;omega
   obtain⟨s1,e1,h⟩:=jQ (fin:=fin) (right:=fV) (by decide) h;obtain⟨s2,e2,h⟩:=fj (fin:=fin) h;obtain⟨s3,ha,h⟩:=h.split;obtain⟨s4,e4,h⟩:=fj (fin:=fin) h;have:=h.nil;subst this;rw[e1];dsimp only;rw[if_neg (by decide),if_neg (by decide),e2];unfold qi;rw[if_neg (by decide),if_pos rfl,ES (ih x hf ER ha) e4]
  | and l r=>
   simp only[cx,Bool.and_eq_true] at hf;have hl:cd l<=n:=by unfold cd at hd;omega
   have hr:cd r<=n:=by unfold cd at hd;omega
   obtain⟨s1,e1,h⟩:=jQ (fin:=fin) (right:=fV) (by decide) h;obtain⟨s2,e2,h⟩:=fj (fin:=fin) h;obtain⟨s3,ha,h⟩:=h.split;obtain⟨s4,e4,h⟩:=fj (fin:=fin) h;obtain⟨s5,hb,h⟩:=h.split;obtain⟨s6,e6,h⟩:=fj (fin:=fin) h;have:=h.nil;subst this;rw[e1];dsimp only;rw[if_neg (by decide),if_neg (by decide),e2];unfold qi;rw[if_neg (by decide),if_neg (by decide),if_pos rfl,ET (ih l hf.1 hl ha) e4 (ih r hf.2 hr hb) e6]
  | or x l r=>
   simp only[cx,Bool.and_eq_true] at hf;have hl:cd l<=n:=by unfold cd at hd;omega
   have hr:cd r<=n:=by unfold cd at hd;omega
   obtain⟨s1,e1,h⟩:=jQ (fin:=fin) (right:=fV) (by decide) h;obtain⟨s2,e2,h⟩:=fj (fin:=fin) h;obtain⟨s7,e7,h⟩:=jQ (fin:=fin) (right:=eI) hf.1 h;obtain⟨s8,e8,h⟩:=fj (fin:=fin) h;obtain⟨s3,ha,h⟩:=h.split;obtain⟨s4,e4,h⟩:=fj (fin:=fin) h;obtain⟨s5,hb,h⟩:=h.split;obtain⟨s6,e6,h⟩:=fj (fin:=fin) h;have:=h.nil;subst this;rw[e1];dsimp only;rw[if_neg (by decide),if_neg (by decide),e2];unfold qi;rw[if_neg (by decide),if_neg (by decide),if_neg (by decide),if_pos rfl,e7];dsimp only;rw[e8,ET (ih l hf.2.1 hl ha) e4 (ih r hf.2.2 hr hb) e6]
  | scale o x=>
   simp only[cx,Bool.and_eq_true] at hf;have hl:cX o<=n:=by unfold cd at hd;omega
   have hr:cd x<=n:=by unfold cd at hd;omega
   obtain⟨s1,e1,h⟩:=jQ (fin:=fin) (right:=fV) (by decide) h;obtain⟨s2,e2,h⟩:=fj (fin:=fin) h;obtain⟨s3,ha,h⟩:=h.split;obtain⟨s4,e4,h⟩:=fj (fin:=fin) h;obtain⟨s5,hb,h⟩:=h.split;obtain⟨s6,e6,h⟩:=fj (fin:=fin) h;have:=h.nil;subst this;rw[e1];dsimp only;rw[if_neg (by decide),if_neg (by decide),e2];unfold qi;rw[if_neg (by decide),if_neg (by decide),if_neg (by decide),if_neg (by decide),if_pos rfl,yA o hf.1 hl ha];dsimp only;rw[e4,ES (ih x hf.2 hr hb) e6]
  | when d x=>
   simp only[cx,Bool.and_eq_true,decide_eq_true_eq] at hf;have hr:cd x<=n:=by unfold cd at hd;omega
   have hn:=KQ (n:=d) (by omega) (by omega);have yB:lg (Lib.itoa d)=true:=by unfold lg;rw[hn];simp[hf.1.1,hf.1.2]
   obtain⟨s1,e1,h⟩:=jQ (fin:=fin) (right:=fV) (by decide) h;obtain⟨s2,e2,h⟩:=fj (fin:=fin) h;obtain⟨s3,e3,h⟩:=jQ (fin:=fin) (right:=lg) yB h;obtain⟨s4,e4,h⟩:=fj (fin:=fin) h;obtain⟨s5,hb,h⟩:=h.split;obtain⟨s6,e6,h⟩:=fj (fin:=fin) h;have:=h.nil;subst this;rw[e1];dsimp only;rw[if_neg (by decide),if_neg (by decide),e2];unfold qi;rw[if_neg (by decide),if_neg (by decide),if_neg (by decide),if_neg (by decide),if_neg (by decide),if_pos rfl,e3];dsimp only;rw[e4,ES (ih x hf.2 hr hb) e6,hn]
  | cond o l r=>
   simp only[cx,Bool.and_eq_true] at hf;have ho:cX o<=n:=by unfold cd at hd;omega
   have hl:cd l<=n:=by unfold cd at hd;omega
   have hr:cd r<=n:=by unfold cd at hd;omega
   obtain⟨s1,e1,h⟩:=jQ (fin:=fin) (right:=fV) (by decide) h;obtain⟨s2,e2,h⟩:=fj (fin:=fin) h;obtain⟨s7,hc,h⟩:=h.split;obtain⟨s8,e8,h⟩:=fj (fin:=fin) h;obtain⟨s3,ha,h⟩:=h.split;obtain⟨s4,e4,h⟩:=fj (fin:=fin) h;obtain⟨s5,hb,h⟩:=h.split;obtain⟨s6,e6,h⟩:=fj (fin:=fin) h;have:=h.nil;subst this;rw[e1];dsimp only;rw[if_neg (by decide),if_neg (by decide),e2];unfold qi;rw[if_neg (by decide),if_neg (by decide),if_neg (by decide),if_neg (by decide),if_neg (by decide),if_neg (by decide),yA o hf.1 ho hc];dsimp only;rw[e8,ET (ih l hf.2.1 hl ha) e4 (ih r hf.2.2 hr hb) e6]
theorem pn (b:UInt8):UInt8.ofNat b.toNat=b:=UInt8.ofNat_toNat
theorem Tf (l:List UInt8)(aA:l≠[])(h:(gD l).1≠65533):enc ((gD l).1:Int)=l.take (gD l).2:=by
 have jw:=DM l;rw[DO _ jw];cases l with
 | nil=>exact absurd rfl aA
 | cons b0 t=>
  have rh:=b0.toNat_lt;simp only[gD,Utf8.decode,tR,jM,dx,Nat.zero_add,List.getD_cons_zero,List.length_cons] at h jw ⊢
  by_cases c1:b0.toNat<128
  ·simp only[if_pos c1] at h jw ⊢
   rw[pn];rfl
  simp only[if_neg c1] at h jw ⊢;cases t with
  | nil=>simp[Utf8.runeError] at h
  | cons b1 t=>
   have ar:=b1.toNat_lt;simp only[List.getD_cons_succ,List.getD_cons_zero,List.length_cons] at h jw ⊢
   by_cases c2:(b0.toNat / 32==6&&(decide (1<t.length+1+1)&&b1.toNat / 64==2))=true
   ·simp only[if_pos c2] at h jw ⊢
    simp only[Bool.and_eq_true,beq_iff_eq,decide_eq_true_eq] at c2
    by_cases c3:b0.toNat % 32 * 64+b1.toNat % 64 >= 128
    ·simp only[if_pos c3] at h jw ⊢
     rw[if_neg (by omega),if_pos (by omega)];rw[show 192+(b0.toNat % 32 * 64+b1.toNat % 64) / 64=b0.toNat by omega,show 128+(b0.toNat % 32 * 64+b1.toNat % 64) % 64=b1.toNat by omega,pn,pn];rfl
    ·simp only[if_neg c3] at h;exact absurd rfl h
   simp only[if_neg c2] at h jw ⊢;cases t with
   | nil=>simp[Utf8.runeError] at h
   | cons b2 t=>
    have aM:=b2.toNat_lt;simp only[List.getD_cons_succ,List.getD_cons_zero,List.length_cons] at h jw ⊢
    by_cases c4:(b0.toNat / 16==14&&(decide (1<t.length+1+1+1)&&b1.toNat / 64==2)&&(decide (2<t.length+1+1+1)&&b2.toNat / 64==2))=true
    ·simp only[if_pos c4] at h jw ⊢
     simp only[Bool.and_eq_true,beq_iff_eq,decide_eq_true_eq] at c4
     by_cases c5:(decide (b0.toNat % 16 * 4096+b1.toNat % 64 * 64+b2.toNat % 64 >= 2048)&&Utf8.valid ((b0.toNat % 16 * 4096+b1.toNat % 64 * 64+b2.toNat % 64:Nat):Int))=true
     ·simp only[if_pos c5] at h jw ⊢
      simp only[Bool.and_eq_true,decide_eq_true_eq] at c5;rw[if_neg (by omega),if_neg (by omega),if_pos (by omega)];rw[show 224+(b0.toNat % 16 * 4096+b1.toNat % 64 * 64+b2.toNat % 64) / 4096=b0.toNat by omega,show 128+(b0.toNat % 16 * 4096+b1.toNat % 64 * 64+b2.toNat % 64) / 64 % 64=b1.toNat by omega,
       show 128+(b0.toNat % 16 * 4096+b1.toNat % 64 * 64+b2.toNat % 64) % 64=b2.toNat by omega,pn,pn,pn];rfl
     ·simp only[if_neg c5] at h;exact absurd rfl h
    simp only[if_neg c4] at h jw ⊢;cases t with
    | nil=>simp[Utf8.runeError] at h
    | cons b3 t=>
     have ba:=b3.toNat_lt;simp only[List.getD_cons_zero,List.length_cons] at h jw ⊢
     by_cases c6:(b0.toNat / 8==30&&(decide (1<t.length+1+1+1+1)&&b1.toNat / 64==2)&&(decide (2<t.length+1+1+1+1)&&b2.toNat / 64==2)&&(decide (3<t.length+1+1+1+1)&&b3.toNat / 64==2))=true
     ·simp only[if_pos c6] at h jw ⊢
      simp only[Bool.and_eq_true,beq_iff_eq,decide_eq_true_eq] at c6
      by_cases c7:(decide (b0.toNat % 8 * 262144+b1.toNat % 64 * 4096+b2.toNat % 64 * 64+b3.toNat % 64 >= 65536)&&Utf8.valid ((b0.toNat % 8 * 262144+b1.toNat % 64 * 4096+b2.toNat % 64 * 64+b3.toNat % 64:Nat):Int))=true
      ·simp only[if_pos c7] at h jw ⊢
       simp only[Bool.and_eq_true,decide_eq_true_eq] at c7;rw[if_neg (by omega),if_neg (by omega),if_neg (by omega)];rw[show 240+(b0.toNat % 8 * 262144+b1.toNat % 64 * 4096+b2.toNat % 64 * 64+b3.toNat % 64) / 262144=b0.toNat by omega,show 128+(b0.toNat % 8 * 262144+b1.toNat % 64 * 4096+b2.toNat % 64 * 64+b3.toNat % 64) / 4096 % 64=b1.toNat by omega,
        show 128+(b0.toNat % 8 * 262144+b1.toNat % 64 * 4096+b2.toNat % 64 * 64+b3.toNat % 64) / 64 % 64=b2.toNat by omega,show 128+(b0.toNat % 8 * 262144+b1.toNat % 64 * 4096+b2.toNat % 64 * 64+b3.toNat % 64) % 64=b3.toNat by omega,pn,pn,pn,pn];rfl
      ·simp only[if_neg c7] at h;exact absurd rfl h
     ·simp only[if_neg c6] at h;exact absurd rfl h
theorem K6:∀ (n:Nat) (l:List UInt8),l.length<=n->(∀ r∈cA l,r≠65533)->dM (cA l)=l
 | 0,l,h,_=>by
  have:l=[]:=List.eq_nil_of_length_eq_zero (by omega);subst this;rfl
 | n+1,l,h,hr=>by
  by_cases hl:l=[]
  ·subst hl;rfl
  ·rw[xM l hl] at hr ⊢
   have h1:=vD l;have hd:(l.drop (gD l).2).length=l.length - (gD l).2:=List.length_drop;rw[sj,Tf l hl (fun t=>hr _ (List.mem_cons_self ..) (by omega)),K6 n _ (by omega) (fun r hm=>hr r (List.mem_cons_of_mem _ hm)),List.take_append_drop]
theorem Tg (l:List UInt8)(h:∀ r∈cA l,r≠65533):dM (cA l)=l:=K6 l.length l (Nat.le_refl _) h
theorem K7 {r:Int}(h:isLet r=true):kd r=97:=by unfold kd;rw[if_pos h]
theorem Th {r:Int}(h:isLet r=true):r≠65533/\r≠32:=by
 refine⟨?_,?_⟩<;>(rintro rfl;exact absurd h (by decide))
theorem EU {b:UInt8}(h:b.toNat<128):enc (b.toNat:Int)=[b]:=by
 rw[DO _ (by unfold ju;omega),if_pos h,pn]
theorem K8:∀ (l:List UInt8),(∀ b∈l,b.toNat<128)->dM (l.map fun b=>(b.toNat:Int))=l
 | [],_=>rfl
 | b::l,h=>by rw[List.map_cons,sj,EU (h b (by simp)),K8 l (fun c hc=>h c (by simp[hc]))];rfl
theorem K9 (W:List dB)(a:Int)(X:List Int):∀ (ls:List Int) (t:List UInt8) (at_:Int),(∀ r∈ls,kd r=97)->eh (W++[(t,a)]) at_ true (ls++X)=eh (W++[(t++dM ls,a)]) (at_+ls.length) true X
 | [],t,at_,_=>by simp[Q2]
 | r::ls,t,at_,h=>by
  have h1:=h r (by simp);rw[List.cons_append]
  conv=>lhs;unfold eh
  rw[h1,if_neg (by decide),if_pos ⟨rfl,rfl⟩,EC,K9 W a X ls _ _ (fun x hx=>h x (by simp[hx])),sj,List.append_assoc]
  congr 1
  simp only[List.length_cons];omega
theorem Ti (W:List dB)(X:List Int)(wd:List Int)(at_:Int)(aA:wd≠[])(h:∀ r∈wd,kd r=97):eh W at_ false (wd++X)=eh (W++[(dM wd,at_+1)]) (at_+wd.length) true X:=by
 cases wd with
 | nil=>exact absurd rfl aA
 | cons r ls=>
  have h1:=h r (by simp);rw[List.cons_append]
  conv=>lhs;unfold eh
  rw[h1,if_neg (by decide),if_neg (by simp),if_pos (by decide),show((97:Int)==97)=true from rfl,K9 W _ X ls _ _ (fun x hx=>h x (by simp[hx])),sj]
  congr 1
  simp only[List.length_cons];omega
theorem Tj (W:List dB)(X:List Int)(c:Int)(at_:Int)(run:Bool)(h:kd c=40):eh W at_ run (c::X)=eh (W++[(enc c,at_+1)]) (at_+1) false X:=by
 conv=>lhs;unfold eh
 rw[h,if_neg (by decide),if_neg (by simp),if_pos (by decide)];rfl
def gH (b:Bool)(bs:List UInt8)(ts:List (List UInt8)):Prop:=
 ∃ R:List Int,(∀ r∈R,ju r/\r≠32)/\dM R=bs/\∀ (W:List dB) (at_:Int),∃ (ys:List dB) (run:Bool),ys.map Prod.fst=ts/\(b=true->run=false)/\∀ X,eh W at_ false (R++X)=eh (W++ys) (at_+R.length) run X
theorem gH.app {b:Bool}{x y:List UInt8}{s t:List (List UInt8)}(h:gH true x s)(k:gH b y t):gH b (x++y) (s++t):=by
 obtain⟨R,h1,h2,h3⟩:=h;obtain⟨Q,k1,k2,k3⟩:=k;refine⟨R++Q,fun r hr=>(List.mem_append.1 hr).elim (h1 r) (k1 r),by rw[JD,h2,k2],fun W at_=>?_⟩;obtain⟨ys,run,a1,a2,a3⟩:=h3 W at_;obtain⟨zs,Tk,b1,b2,b3⟩:=k3 (W++ys) (at_+R.length);have:=a2 rfl;subst this;refine⟨ys++zs,Tk,by rw[List.map_append,a1,b1],b2,fun X=>?_⟩;rw[List.append_assoc,a3,b3,List.append_assoc,List.length_append]
 congr 1
 omega
theorem gH.sign {b:Bool}{x:List UInt8}{s:List (List UInt8)}(h:gH b x s){c:UInt8}(hc:c=40\/c=41\/c=44):gH true (x++[c]) (s++[[c]]):=by
 have U:c.toNat<128/\kd (c.toNat:Int)=40/\c.toNat≠32:=by rcases hc with rfl | rfl | rfl<;>decide
 obtain⟨R,h1,h2,h3⟩:=h;refine⟨R++[(c.toNat:Int)],fun r hr=>?_,by rw[JD,h2,Q1,EU U.1],fun W at_=>?_⟩
 ·rcases List.mem_append.1 hr with hr | hr
  ·exact h1 r hr
  ·have:=List.mem_singleton.1 hr
   subst this;exact⟨by unfold ju;omega,by omega⟩
 ·obtain⟨ys,run,a1,a2,a3⟩:=h3 W at_
  refine⟨ys++[([c],at_+R.length+1)],false,by rw[List.map_append,a1];rfl,fun _=>rfl,fun X=>?_⟩;rw[List.append_assoc,a3,List.singleton_append,Tj _ _ _ _ _ U.2.1,EU U.1,List.append_assoc,List.length_append]
  congr 1
  simp only[List.length_singleton];omega
theorem La (wd:List Int)(aA:wd≠[])(h:∀ r∈wd,kd r=97/\ju r):gH false (dM wd) [dM wd]:=
 ⟨wd,fun r hr=>⟨(h r hr).2,by rintro rfl;exact absurd (h 32 hr).1 (by decide)⟩,rfl,fun W at_=>⟨[(dM wd,at_+1)],true,rfl,(fun t=>nomatch t),fun X=>Ti W X wd at_ aA fun r hr=>(h r hr).1⟩⟩
theorem mL (wd:List UInt8)(aA:wd≠[])(h:∀ b∈wd,b.toNat<128/\kd (b.toNat:Int)=97):gH false wd [wd]:=by
 have:=La (wd.map fun b=>(b.toNat:Int)) (by simp[aA]) fun r hr=>by
  obtain⟨b,hb,rfl⟩:=List.mem_map.1 hr;exact⟨(h b hb).2,by unfold ju;have:=(h b hb).1;omega⟩
 rwa[K8 wd fun b hb=>(h b hb).1] at this
theorem Lb:∀ (rs:List Int) (n:Nat),jN n rs=true->∀ r∈rs,isLet r=true
 | [],_,_,r,hr=>by cases hr
 | a::rs,n,h,r,hr=>by
  unfold jN at h;split at h
  ·cases h
  rename_i ha;split at h
  ·cases h
  split at h
  ·cases h
  rcases List.mem_cons.1 hr with rfl | hr
  ·simpa using ha
  ·exact Lb rs (n+1) h r hr
theorem EV {s:List UInt8}(h:eI s=true):gH false s [s]:=by
 have hl:=Lb _ _ h;have aA:cA s≠[]:=fun t=>by
  have:jN 0 (cA s)=true:=h;rw[t] at this;exact absurd this (by decide)
 have:=La (cA s) aA fun r hr=>⟨K7 (hl r hr),Q0 s r hr⟩;rwa[Tg s fun r hr=>(Th (hl r hr)).1] at this
theorem Lc {c:UInt8}(h:gx c=true):c.toNat<128/\kd (c.toNat:Int)=97:=by
 have:=KO h;refine⟨by omega,K7 ?_⟩;unfold isLet tS;rw[decide_eq_true (show(48:Int)<=(c.toNat:Int) by omega),decide_eq_true (show(c.toNat:Int)<=57 by omega)];simp
theorem Ld (n:Int):gH false (Lib.itoa n) [Lib.itoa n]:=by
 refine mL _ ?_ ?_
 ·unfold Lib.itoa
  split
  ·simp
  ·exact(we _).1
 ·unfold Lib.itoa
  split
  ·intro b hb
   rcases List.mem_cons.1 hb with rfl | hb
   ·decide
   ·exact Lc ((we _).2.1 b hb)
  ·exact fun b hb=>Lc ((we _).2.1 b hb)
theorem Bb {b:Bool}{wd x:List UInt8}{s:List (List UInt8)}(hw:gH false wd [wd])(h:gH b x s):gH true (gw wd [x]) (wd::[40]::(s++[[41]])):=by
 have:=((hw.sign (c:=40) (.inl rfl)).app h).sign (c:=41) (.inr (.inl rfl));unfold gw;rw[Ks];simpa using this
theorem wh {b d:Bool}{wd x y:List UInt8}{s t:List (List UInt8)}(hw:gH false wd [wd])(h:gH b x s)(k:gH d y t):gH true (gw wd [x,y]) (wd::[40]::(s++([44]::(t++[[41]])))):=by
 have:=((((hw.sign (c:=40) (.inl rfl)).app h).sign (c:=44) (.inr (.inr rfl))).app k).sign (c:=41) (.inr (.inl rfl));unfold gw;rw[Kt];simpa using this
theorem Le {b d f:Bool}{wd x y z:List UInt8}{s t u:List (List UInt8)}(hw:gH false wd [wd])(h:gH b x s)(k:gH d y t)(m:gH f z u):
  gH true (gw wd [x,y,z]) (wd::[40]::(s++([44]::(t++([44]::(u++[[41]])))))):=by
 have:=((((((hw.sign (c:=40) (.inl rfl)).app h).sign (c:=44) (.inr (.inr rfl))).app k).sign (c:=44) (.inr (.inr rfl))).app m).sign (c:=41) (.inr (.inl rfl));unfold gw;rw[Ku];simpa using this
theorem ri:∀ o:Ob,cL o=true->∃ b,gH b (fA o) (jR o)
 | .none,h=>by cases h
 | .const n,_=>⟨_,Ld n⟩
 | .fix s,h=>⟨_,Bb (mL _ (by decide) (by decide)) (EV h)⟩
 | .neg o,h=>by
  obtain⟨b,hb⟩:=ri o h;exact⟨_,Bb (mL _ (by decide) (by decide)) hb⟩
 | .add l r,h=>by
  simp only[cL,Bool.and_eq_true] at h;obtain⟨b,hb⟩:=ri l h.1;obtain⟨c,hc⟩:=ri r h.2;exact⟨_,wh (mL _ (by decide) (by decide)) hb hc⟩
 | .mul l r,h=>by
  simp only[cL,Bool.and_eq_true] at h;obtain⟨b,hb⟩:=ri l h.1;obtain⟨c,hc⟩:=ri r h.2;exact⟨_,wh (mL _ (by decide) (by decide)) hb hc⟩
 | .max l r,h=>by
  simp only[cL,Bool.and_eq_true] at h;obtain⟨b,hb⟩:=ri l h.1;obtain⟨c,hc⟩:=ri r h.2;exact⟨_,wh (mL _ (by decide) (by decide)) hb hc⟩
theorem qj:∀ t:Tm,cx t=true->∃ b,gH b (dI t) (iD t)/\(t≠.zero->b=true)
 | .none,h=>by cases h
 | .zero,_=>⟨_,mL _ (by decide) (by decide),fun t=>absurd rfl t⟩
 | .one s,h=>⟨_,Bb (mL _ (by decide) (by decide)) (EV h),fun _=>rfl⟩
 | .gh t,h=>by
  obtain⟨b,hb,_⟩:=qj t h;exact⟨_,Bb (mL _ (by decide) (by decide)) hb,fun _=>rfl⟩
 | .and l r,h=>by
  simp only[cx,Bool.and_eq_true] at h;obtain⟨b,hb,_⟩:=qj l h.1;obtain⟨c,hc,_⟩:=qj r h.2;exact⟨_,wh (mL _ (by decide) (by decide)) hb hc,fun _=>rfl⟩
 | .or s l r,h=>by
  simp only[cx,Bool.and_eq_true] at h;obtain⟨b,hb,_⟩:=qj l h.2.1;obtain⟨c,hc,_⟩:=qj r h.2.2;exact⟨_,Le (mL _ (by decide) (by decide)) (EV h.1) hb hc,fun _=>rfl⟩
 | .scale o t,h=>by
  simp only[cx,Bool.and_eq_true] at h;obtain⟨b,hb⟩:=ri o h.1;obtain⟨c,hc,_⟩:=qj t h.2;exact⟨_,wh (mL _ (by decide) (by decide)) hb hc,fun _=>rfl⟩
 | .when d t,h=>by
  simp only[cx,Bool.and_eq_true] at h;obtain⟨c,hc,_⟩:=qj t h.2;exact⟨_,wh (mL _ (by decide) (by decide)) (Ld d) hc,fun _=>rfl⟩
 | .cond o l r,h=>by
  simp only[cx,Bool.and_eq_true] at h;obtain⟨a,ha⟩:=ri o h.1;obtain⟨b,hb,_⟩:=qj l h.2.1;obtain⟨c,hc,_⟩:=qj r h.2.2;exact⟨_,Le (mL _ (by decide) (by decide)) ha hb hc,fun _=>rfl⟩
theorem gH.Tl {b:Bool}{bs:List UInt8}{ts:List (List UInt8)}(h:gH b bs ts):∃ ys:List dB,eh [] 0 false (cA bs)=(ys,0)/\ys.map Prod.fst=ts:=by
 obtain⟨R,h1,h2,h3⟩:=h;obtain⟨ys,run,a1,a2,a3⟩:=h3 [] 0;have hR:cA bs=R:=by rw[<- h2];exact Q6 R fun r hr=>(h1 r hr).1
 refine⟨ys,?_,a1⟩;have:=a3 [];rw[List.append_nil] at this;rw[hR,this,List.nil_append];rfl
theorem Tn {fin:Int}{s:RS}(h:s.l=[]):sD fin s=s:=by unfold sD;rw[h]
theorem To {fin:Int}{s:RS}(h:(sD fin s).e=0):s.e=0/\s.l=[]/\sD fin s=s:=by
 unfold sD at h ⊢;cases hl:s.l with
 | nil=>rw[hl] at h;exact⟨h,rfl,rfl⟩
 | cons x l=>
  rw[hl] at h;dsimp only at h;unfold ky at h;split at h
  ·exact absurd (show(2:Int)=0 from h) (by decide)
  ·contradiction
theorem Tp {bs:List UInt8}{t:Tm}{ys:List dB}(hc:jf t=0)(hl:bs.length<=1000)(hs:eh [] 0 false (cA bs)=(ys,0))(ht:ys.map Prod.fst=iD t):mK bs=(t,0,0):=by
 have hf:=Ez hc;have hb:lh bs=⟨ys,0,0⟩:=by unfold lh;rw[if_neg (by omega),hs];rfl
 have hr:=K5 (mJ bs) 12 t hf.1 hf.2.2 (s:=⟨ys,0,0⟩) (s':=⟨[],0,0⟩) ⟨rfl,rfl,rfl,ys,by simp,ht⟩;unfold mK ot;rw[hb,hr];dsimp only;rw[Tn rfl,if_neg (by simp),if_neg (by simpa using hc)]
theorem Tq {t:Tm}(h:(bh t).2=0):jf t=0/\(dI t).length<=1000/\bh t=(dI t,0):=by
 unfold bh at h ⊢;split at h
 ·rename_i hc;exact absurd h hc
 rename_i hc;split at h
 ·exact absurd h (by decide)
 rename_i hl;exact⟨by simpa using hc,by omega,by rw[if_neg hc,if_neg hl]⟩
theorem Ts {t:Tm}(h:(bh t).2=0):mK (bh t).1=(t,0,0):=by
 obtain⟨h1,h2,h3⟩:=Tq h;obtain⟨b,hb,_⟩:=qj t (Ez h1).1;obtain⟨ys,a1,a2⟩:=hb.Tl;rw[h3];exact Tp h1 h2 a1 a2
def jS (l:List (List UInt8)):Nat:=l.flatten.length
theorem EW (a b:List (List UInt8)):jS (a++b)=jS a+jS b:=by unfold jS;rw[List.flatten_append,List.length_append]
theorem Tt (l:List dB)(x:List UInt8):jS ((qh l x).map Prod.fst)=jS (l.map Prod.fst)+x.length:=by
 by_cases h:l=[]
 ·subst h;unfold qh jS;simp
 ·obtain⟨a,y,rfl⟩:=KB l h
  rw[EC,List.map_append,List.map_append,EW,EW];simp[jS];omega
theorem Bc:∀ (R:List Int) (W:List dB) (at_:Int) (run:Bool),jS ((eh W at_ run R).1.map Prod.fst)<=jS (W.map Prod.fst)+(dM R).length
 | [],W,at_,run=>by show jS (W.map Prod.fst)<=_;omega
 | r::R,W,at_,run=>by
  unfold eh;rw[sj,List.length_append];split
  ·simp[jS]
  split
  ·have:=Bc R (qh W (enc r)) (at_+1) true
   rw[Tt] at this;omega
  split
  ·have:=Bc R (W++[(enc r,at_+1)]) (at_+1) (kd r==97)
   rw[List.map_append,EW] at this;have e:jS ([(enc r,at_+1)].map Prod.fst)=(enc r).length:=by simp[jS]
   omega
  ·have:=Bc R W (at_+1) false
   omega
theorem Tu {bs:List UInt8}(h:(lh bs).e=0):bs.length<=1000/\¬ 0<(eh [] 0 false (cA bs)).2/\lh bs=⟨(eh [] 0 false (cA bs)).1,0,0⟩:=by
 unfold lh at h ⊢;split at h
 ·exact absurd (show(5:Int)=0 from h) (by decide)
 split at h
 ·exact absurd (show(2:Int)=0 from h) (by decide)
 rename_i h1 h2;exact⟨by omega,h2,by rw[if_neg h1,if_neg h2]⟩
abbrev aQ:=Int×List UInt8×List UInt8×List UInt8×List UInt8×Int×Int×Tm
def aQ.e (m:aQ):dz:=(m.1,str m.2.1,str m.2.2.1,str m.2.2.2.1,str m.2.2.2.2.1,m.2.2.2.2.2.1,m.2.2.2.2.2.2.1,m.2.2.2.2.2.2.2.v,())
def aQ.t (m:aQ):Tm:=m.2.2.2.2.2.2.2
def bp:aQ:=(0,[],[],[],[],0,0,.none)
def da (m:aQ):List UInt8×Int:=iy m.e (bh m.t).1 (bh m.t).2
abbrev gX:=List UInt8×Bool
def dt (z:Bool)(n:Nat)(s:gX):List UInt8×gX:=if s.2=true\/s.1.length<n then(if z=true then List.replicate n 0 else[],(s.1,true)) else(s.1.take n,(s.1.drop n,false))
def fk (z:Bool)(size:Nat)(s:gX):List UInt8×gX:=dt z (eV (dt z size s).1) (dt z size s).2
def iE (z:Bool)(s:gX):Int×gX:=((gC (dt z 8 s).1).1,((dt z 8 s).2.1,(dt z 8 s).2.2||(!z&&!(gC (dt z 8 s).1).2)))
def rj (z:Bool)(s:gX):Tm×gX:=((mK (fk z 2 s).1).1,((fk z 2 s).2.1,(fk z 2 s).2.2||(!z&&((mK (fk z 2 s).1).2.2 != 0))))
def gz (z:Bool)(x:gX×aQ)(c:UInt8):gX×aQ:=
 if c=68 then((iE z x.1).2,(x.2.1,x.2.2.1,x.2.2.2.1,x.2.2.2.2.1,x.2.2.2.2.2.1,(iE z x.1).1,x.2.2.2.2.2.2.2.1,x.2.2.2.2.2.2.2.2))
 else if c=86 then((iE z x.1).2,(x.2.1,x.2.2.1,x.2.2.2.1,x.2.2.2.2.1,x.2.2.2.2.2.1,x.2.2.2.2.2.2.1,(iE z x.1).1,x.2.2.2.2.2.2.2.2))
 else if c=84 then((rj z x.1).2,(x.2.1,x.2.2.1,x.2.2.2.1,x.2.2.2.2.1,x.2.2.2.2.2.1,x.2.2.2.2.2.2.1,x.2.2.2.2.2.2.2.1,(rj z x.1).1))
 else if c=73 then((fk z 1 x.1).2,(x.2.1,(fk z 1 x.1).1,x.2.2.2.1,x.2.2.2.2.1,x.2.2.2.2.2.1,x.2.2.2.2.2.2.1,x.2.2.2.2.2.2.2.1,x.2.2.2.2.2.2.2.2))
 else if c=78 then((fk z 1 x.1).2,(x.2.1,x.2.2.1,(fk z 1 x.1).1,x.2.2.2.2.1,x.2.2.2.2.2.1,x.2.2.2.2.2.2.1,x.2.2.2.2.2.2.2.1,x.2.2.2.2.2.2.2.2))
 else if c=76 then((fk z 1 x.1).2,(x.2.1,x.2.2.1,x.2.2.2.1,(fk z 1 x.1).1,x.2.2.2.2.2.1,x.2.2.2.2.2.2.1,x.2.2.2.2.2.2.2.1,x.2.2.2.2.2.2.2.2))
 else((fk z 1 x.1).2,(x.2.1,x.2.2.1,x.2.2.2.1,x.2.2.2.2.1,(fk z 1 x.1).1,x.2.2.2.2.2.2.1,x.2.2.2.2.2.2.2.1,x.2.2.2.2.2.2.2.2))
def kM (z:Bool)(bs:List UInt8):gX×aQ:=
 (dZ (eV (dt z 1 (bs,false)).1:Int)).foldl (gz z) ((dt z 1 (bs,false)).2,((eV (dt z 1 (bs,false)).1:Int),[],[],[],[],0,0,.none))
def yC (z:Bool)(bs:List UInt8):Bool:=!(kM z bs).1.2&&((da (kM z bs).2).2==0&&((da (kM z bs).2).1==bs&&(!z||(kM z bs).1.1==[])))
def fw (z:Bool)(bs:List UInt8):aQ×Int:=if yC z bs=true then((kM z bs).2,0) else(bp,2)
theorem EX (z:Bool)(a rest:List UInt8):dt z a.length (a++rest,false)=(a,(rest,false)):=by
 unfold dt;rw[if_neg (by simp)];simp
theorem Bd (z:Bool){n:Nat}(a rest:List UInt8)(h:a.length=n):dt z n (a++rest,false)=(a,(rest,false)):=by rw[<- h];exact EX z a rest
theorem Lf (b:UInt8):eV [b]=b.toNat:=by unfold eV;simp
theorem Tv (a b:UInt8):eV [a,b]=a.toNat * 256+b.toNat:=by unfold eV;simp
theorem yD (z:Bool)(s rest:List UInt8)(h:s.length<=255):fk z 1 (jO s++rest,false)=(s,(rest,false)):=by
 unfold fk;have h1:dt z 1 (jO s++rest,false)=([UInt8.ofNat (s.length % 256)],(s++rest,false)):=Bd z [UInt8.ofNat (s.length % 256)] (s++rest) rfl;rw[h1];dsimp only;rw[Lf,nY (Nat.mod_lt _ (by decide)),Nat.mod_eq_of_lt (by omega)];exact EX z s rest
theorem wi (z:Bool)(n:Int)(h0:-9223372036854775808<=n)(h1:n<=9223372036854775807)(rest:List UInt8):iE z (bW n++rest,false)=(n,(rest,false)):=by
 unfold iE;rw[Bd z (bW n) rest (gU n)];dsimp only;rw[AD n h0 h1];simp
theorem sE (t:Tm):(bh t).1.length<=1000:=by
 unfold bh;split
 ·simp
 split
 ·simp
 ·dsimp only;omega
theorem Tw (z:Bool)(t:Tm)(h:(bh t).2=0)(rest:List UInt8):
  rj z (UInt8.ofNat ((bh t).1.length / 256 % 256)::UInt8.ofNat ((bh t).1.length % 256)::(bh t).1++rest,false)=(t,(rest,false)):=by
 unfold rj;have hl:=sE t;have h1:fk z 2 (UInt8.ofNat ((bh t).1.length / 256 % 256)::UInt8.ofNat ((bh t).1.length % 256)::(bh t).1++rest,false)=((bh t).1,(rest,false)):=by
  unfold fk;have h2:dt z 2 (UInt8.ofNat ((bh t).1.length / 256 % 256)::UInt8.ofNat ((bh t).1.length % 256)::(bh t).1++rest,false)=([UInt8.ofNat ((bh t).1.length / 256 % 256),UInt8.ofNat ((bh t).1.length % 256)],((bh t).1++rest,false)):=
   Bd z [UInt8.ofNat ((bh t).1.length / 256 % 256),UInt8.ofNat ((bh t).1.length % 256)] ((bh t).1++rest) rfl
  rw[h2];dsimp only;rw[Tv,nY (Nat.mod_lt _ (by decide)),nY (Nat.mod_lt _ (by decide)),show(bh t).1.length / 256 % 256 * 256+(bh t).1.length % 256=(bh t).1.length by omega];exact EX z _ rest
 rw[h1];dsimp only;rw[Ts h];simp
theorem Be {e:dz}{tr:Int}(h:mB e tr=0):fS e.1≠[63]/\mA e=true/\ob e=true/\0<=e.2.2.2.2.2.1/\e.2.2.2.2.2.1<=10000/\cv e.2.2.2.2.2.2.1=true/\(e.1=2->tr=0):=by
 unfold mB at h
 by_cases c0:fS e.1=[63]
 ·rw[if_pos c0] at h;cases h
 rw[if_neg c0] at h
 by_cases c1:mA e=false
 ·rw[if_pos c1] at h;cases h
 rw[if_neg c1] at h
 by_cases c2:ob e=false
 ·rw[if_pos c2] at h;cases h
 rw[if_neg c2] at h
 by_cases c3:e.2.2.2.2.2.1<0
 ·rw[if_pos c3] at h;cases h
 rw[if_neg c3] at h
 by_cases c4:e.2.2.2.2.2.1 > 10000
 ·rw[if_pos c4] at h;cases h
 rw[if_neg c4] at h
 by_cases c5:cv e.2.2.2.2.2.2.1=false
 ·rw[if_pos c5] at h;cases h
 rw[if_neg c5] at h
 by_cases c6:e.1=4/\e.2.2.2.2.2.2.1≠0/\e.2.2.2.2.2.2.1≠1
 ·rw[if_pos c6] at h;cases h
 rw[if_neg c6] at h;refine⟨c0,by simpa using c1,by simpa using c2,by omega,by omega,by simpa using c5,fun k=>?_⟩;rw[if_pos k] at h;exact h
theorem Tx {k:Int}(h:fS k≠[63]):k=1\/k=2\/k=3\/k=4\/k=5\/k=6:=by
 unfold fS at h
 repeat' split at h
 all_goals first | omega | exact(h rfl).elim
theorem sF (s:List UInt8):ix (str s)=decide (s=[]):=by
 have e0:(⟨#[]⟩:ByteArray)=str []:=rfl;unfold ix;rw[e0,iv]
theorem Bf (s:List UInt8):oZ (str s)=jN 0 (cA s):=by unfold oZ;rw[jM]
theorem yE {s:List UInt8}(h:jN 0 (cA s)=true):s.length<=255:=by
 have hb:=Eu s.length s (Nat.le_refl _)
 rcases Ev _ _ h with t | t
 ·rw[t,List.length_nil] at hb;omega
 ·omega
theorem wj {t:Tm}(h:gv t.v=true):t=.none:=by cases t<;>first | rfl | (cases h)
theorem Ty {n:Int}(h:cv n=true):-9223372036854775808<=n/\n<=9223372036854775807:=by
 unfold cv at h;simp only[Bool.and_eq_true,decide_eq_true_eq] at h;omega
theorem wk (z:Bool)(k:Nat)(U:k<256)(rest:List UInt8):kM z (UInt8.ofNat k::rest)=(dZ (k:Int)).foldl (gz z) ((rest,false),((k:Int),[],[],[],[],0,0,.none)):=by
 unfold kM;have h1:dt z 1 (UInt8.ofNat k::rest,false)=([UInt8.ofNat k],(rest,false)):=Bd z [UInt8.ofNat k] rest rfl;rw[h1];dsimp only;rw[Lf,nY U]
theorem Lg:dZ 2=[73,84]:=by decide
theorem Lh:dZ 3=[78,68,86]:=by decide
theorem Li:dZ 4=[73,76,86]:=by decide
theorem Lj:dZ 5=[68]:=by decide
theorem Lk:dZ 6=[67,68,86]:=by decide
theorem Ll {m:aQ}{bs:List UInt8}(h:da m=(bs,0)):mB m.e (bh m.t).2=0/\bs=UInt8.ofNat (m.e.1 % 256).toNat::(dZ m.e.1).flatMap (eH m.e (bh m.t).1):=by
 unfold da iy at h;split at h
 ·rename_i c
  injection h with _ h
  exact(c h).elim
 ·rename_i c
  injection h with h _
  exact⟨Classical.not_not.1 c,h.symm⟩
theorem wm (a:UInt8)(l r:List UInt8):(a::l)++r=a::(l++r):=rfl
theorem Tz (z:Bool)(m:aQ){bs:List UInt8}(h:da m=(bs,0))(rest:List UInt8):kM z (bs++rest)=((rest,false),m):=by
 obtain⟨hc,rfl⟩:=Ll h;obtain⟨U,ho,hn,d0,d1,hv,ht⟩:=Be hc;obtain⟨v0,v1⟩:=Ty hv;obtain⟨k,i,n,l,c,d,v,t⟩:=m;simp only[aQ.e] at U ho hn d0 d1 hv ht v0 v1;simp only[aQ.e,aQ.t] at ht ⊢
 rcases Tx U with rfl | rfl | rfl | rfl | rfl | rfl
 ·simp[mA,cI,fS,sF] at ho
  obtain⟨⟨⟨⟨rfl,rfl⟩,rfl⟩,rfl⟩,⟨rfl,rfl⟩,hz⟩:=ho;obtain rfl:=wj hz;rw[wm (UInt8.ofNat ((1:Int) % 256).toNat),show((1:Int) % 256).toNat=1 by decide,wk z 1 (by decide)];rfl
 ·simp[mA,cI,fS,sF] at ho
  simp[ob,cI,fS,Bf] at hn;obtain⟨⟨⟨rfl,rfl⟩,rfl⟩,rfl,rfl⟩:=ho;rw[wm (UInt8.ofNat ((2:Int) % 256).toNat),show((2:Int) % 256).toNat=2 by decide,wk z 2 (by decide),Lg,show((2:Nat):Int)=2 by rfl,Lg];have ar:eH (2,str i,str [],str [],str [],0,0,t.v,()) (bh t).1 73=jO i:=by
   show jO (str i).data.toList=_;rw[jM]
  have aM:eH (2,str i,str [],str [],str [],0,0,t.v,()) (bh t).1 84=UInt8.ofNat ((bh t).1.length / 256 % 256)::UInt8.ofNat ((bh t).1.length % 256)::(bh t).1:=rfl;rw[List.flatMap_cons,List.flatMap_cons,List.flatMap_nil,ar,aM,List.append_nil,List.append_assoc];rw[List.foldl_cons,List.foldl_cons,List.foldl_nil];have s1:∀ x,gz z x 73=((fk z 1 x.1).2,(x.2.1,(fk z 1 x.1).1,x.2.2.2.1,x.2.2.2.2.1,x.2.2.2.2.2.1,x.2.2.2.2.2.2.1,x.2.2.2.2.2.2.2.1,x.2.2.2.2.2.2.2.2)):=fun x=>rfl;have s2:∀ x,gz z x 84=((rj z x.1).2,(x.2.1,x.2.2.1,x.2.2.2.1,x.2.2.2.2.1,x.2.2.2.2.2.1,x.2.2.2.2.2.2.1,x.2.2.2.2.2.2.2.1,(rj z x.1).1)):=fun x=>rfl;rw[s1,s2];dsimp only;rw[yD z i _ (yE hn)];dsimp only;rw[Tw z t (ht rfl)]
 ·simp[mA,cI,fS,sF] at ho
  simp[ob,cI,fS,Bf] at hn;obtain⟨⟨⟨rfl,rfl⟩,rfl⟩,hz⟩:=ho;obtain rfl:=wj hz;rw[wm (UInt8.ofNat ((3:Int) % 256).toNat),show((3:Int) % 256).toNat=3 by decide,wk z 3 (by decide),Lh,show((3:Nat):Int)=3 by rfl,Lh];have ar:eH (3,str [],str n,str [],str [],d,v,Tm.none.v,()) (bh .none).1 78=jO n:=by
   show jO (str n).data.toList=_;rw[jM]
  have aM:eH (3,str [],str n,str [],str [],d,v,Tm.none.v,()) (bh .none).1 68=bW d:=rfl;have ba:eH (3,str [],str n,str [],str [],d,v,Tm.none.v,()) (bh .none).1 86=bW v:=rfl;rw[List.flatMap_cons,List.flatMap_cons,List.flatMap_cons,List.flatMap_nil,ar,aM,ba,List.append_nil,List.append_assoc,List.append_assoc];rw[List.foldl_cons,List.foldl_cons,List.foldl_cons,List.foldl_nil];have s1:∀ x,gz z x 78=((fk z 1 x.1).2,(x.2.1,x.2.2.1,(fk z 1 x.1).1,x.2.2.2.2.1,x.2.2.2.2.2.1,x.2.2.2.2.2.2.1,x.2.2.2.2.2.2.2.1,x.2.2.2.2.2.2.2.2)):=fun x=>rfl;have s2:∀ x,gz z x 68=((iE z x.1).2,(x.2.1,x.2.2.1,x.2.2.2.1,x.2.2.2.2.1,x.2.2.2.2.2.1,(iE z x.1).1,x.2.2.2.2.2.2.2.1,x.2.2.2.2.2.2.2.2)):=fun x=>rfl;have s3:∀ x,gz z x 86=((iE z x.1).2,(x.2.1,x.2.2.1,x.2.2.2.1,x.2.2.2.2.1,x.2.2.2.2.2.1,x.2.2.2.2.2.2.1,(iE z x.1).1,x.2.2.2.2.2.2.2.2)):=fun x=>rfl;rw[s1,s2,s3];dsimp only;rw[yD z n _ (yE hn)];dsimp only;rw[wi z d (by omega) (by omega)];dsimp only;rw[wi z v v0 v1]
 ·simp[mA,cI,fS,sF] at ho
  simp[ob,cI,fS,Bf] at hn;obtain⟨⟨rfl,rfl⟩,rfl,hz⟩:=ho;obtain rfl:=wj hz;rw[wm (UInt8.ofNat ((4:Int) % 256).toNat),show((4:Int) % 256).toNat=4 by decide,wk z 4 (by decide),Li,show((4:Nat):Int)=4 by rfl,Li];have ar:eH (4,str i,str [],str l,str [],0,v,Tm.none.v,()) (bh .none).1 73=jO i:=by
   show jO (str i).data.toList=_;rw[jM]
  have aM:eH (4,str i,str [],str l,str [],0,v,Tm.none.v,()) (bh .none).1 76=jO l:=by
   show jO (str l).data.toList=_;rw[jM]
  have ba:eH (4,str i,str [],str l,str [],0,v,Tm.none.v,()) (bh .none).1 86=bW v:=rfl;rw[List.flatMap_cons,List.flatMap_cons,List.flatMap_cons,List.flatMap_nil,ar,aM,ba,List.append_nil,List.append_assoc,List.append_assoc];rw[List.foldl_cons,List.foldl_cons,List.foldl_cons,List.foldl_nil];have s1:∀ x,gz z x 73=((fk z 1 x.1).2,(x.2.1,(fk z 1 x.1).1,x.2.2.2.1,x.2.2.2.2.1,x.2.2.2.2.2.1,x.2.2.2.2.2.2.1,x.2.2.2.2.2.2.2.1,x.2.2.2.2.2.2.2.2)):=fun x=>rfl;have s2:∀ x,gz z x 76=((fk z 1 x.1).2,(x.2.1,x.2.2.1,x.2.2.2.1,(fk z 1 x.1).1,x.2.2.2.2.2.1,x.2.2.2.2.2.2.1,x.2.2.2.2.2.2.2.1,x.2.2.2.2.2.2.2.2)):=fun x=>rfl;have s3:∀ x,gz z x 86=((iE z x.1).2,(x.2.1,x.2.2.1,x.2.2.2.1,x.2.2.2.2.1,x.2.2.2.2.2.1,x.2.2.2.2.2.2.1,(iE z x.1).1,x.2.2.2.2.2.2.2.2)):=fun x=>rfl;rw[s1,s2,s3];dsimp only;rw[yD z i _ (yE hn.1)];dsimp only;rw[yD z l _ (yE hn.2)];dsimp only;rw[wi z v v0 v1]
 ·simp[mA,cI,fS,sF] at ho
  obtain⟨⟨⟨⟨rfl,rfl⟩,rfl⟩,rfl⟩,rfl,hz⟩:=ho;obtain rfl:=wj hz;rw[wm (UInt8.ofNat ((5:Int) % 256).toNat),show((5:Int) % 256).toNat=5 by decide,wk z 5 (by decide),Lj,show((5:Nat):Int)=5 by rfl,Lj];have aM:eH (5,str [],str [],str [],str [],d,0,Tm.none.v,()) (bh .none).1 68=bW d:=rfl;rw[List.flatMap_cons,List.flatMap_nil,aM,List.append_nil];rw[List.foldl_cons,List.foldl_nil];have s2:∀ x,gz z x 68=((iE z x.1).2,(x.2.1,x.2.2.1,x.2.2.2.1,x.2.2.2.2.1,x.2.2.2.2.2.1,(iE z x.1).1,x.2.2.2.2.2.2.2.1,x.2.2.2.2.2.2.2.2)):=fun x=>rfl;rw[s2];dsimp only;rw[wi z d (by omega) (by omega)]
 ·simp[mA,cI,fS,sF] at ho
  simp[ob,cI,fS,Bf] at hn;obtain⟨⟨⟨rfl,rfl⟩,rfl⟩,hz⟩:=ho;obtain rfl:=wj hz;rw[wm (UInt8.ofNat ((6:Int) % 256).toNat),show((6:Int) % 256).toNat=6 by decide,wk z 6 (by decide),Lk,show((6:Nat):Int)=6 by rfl,Lk];have ar:eH (6,str [],str [],str [],str c,d,v,Tm.none.v,()) (bh .none).1 67=jO c:=by
   show jO (str c).data.toList=_;rw[jM]
  have aM:eH (6,str [],str [],str [],str c,d,v,Tm.none.v,()) (bh .none).1 68=bW d:=rfl;have ba:eH (6,str [],str [],str [],str c,d,v,Tm.none.v,()) (bh .none).1 86=bW v:=rfl;rw[List.flatMap_cons,List.flatMap_cons,List.flatMap_cons,List.flatMap_nil,ar,aM,ba,List.append_nil,List.append_assoc,List.append_assoc];rw[List.foldl_cons,List.foldl_cons,List.foldl_cons,List.foldl_nil];have s1:∀ x,gz z x 67=((fk z 1 x.1).2,(x.2.1,x.2.2.1,x.2.2.2.1,x.2.2.2.2.1,(fk z 1 x.1).1,x.2.2.2.2.2.2.1,x.2.2.2.2.2.2.2.1,x.2.2.2.2.2.2.2.2)):=fun x=>rfl;have s2:∀ x,gz z x 68=((iE z x.1).2,(x.2.1,x.2.2.1,x.2.2.2.1,x.2.2.2.2.1,x.2.2.2.2.2.1,(iE z x.1).1,x.2.2.2.2.2.2.2.1,x.2.2.2.2.2.2.2.2)):=fun x=>rfl;have s3:∀ x,gz z x 86=((iE z x.1).2,(x.2.1,x.2.2.1,x.2.2.2.1,x.2.2.2.2.1,x.2.2.2.2.2.1,x.2.2.2.2.2.2.1,(iE z x.1).1,x.2.2.2.2.2.2.2.2)):=fun x=>rfl;rw[s1,s2,s3];dsimp only;rw[yD z c _ (yE hn)];dsimp only;rw[wi z d (by omega) (by omega)];dsimp only;rw[wi z v v0 v1]
theorem TA (z:Bool)(m:aQ){bs:List UInt8}(h:da m=(bs,0)):kM z bs=(([],false),m):=by
 have:=Tz z m h [];rwa[List.append_nil] at this
theorem Lm (z:Bool){m:aQ}{bs:List UInt8}(h:da m=(bs,0)):fw z bs=(m,0):=by
 unfold fw yC;rw[TA z m h];dsimp only;rw[h];simp
structure cP where
 fx:List ((List UInt8×Int)×Int)
 ch:List ((List UInt8×List UInt8)×Int×Int)
def bd {κ ν:Type}[DecidableEq κ](k:κ):List (κ×ν)->Option ν
 | []=>none
 | (a,v)::l=>if a=k then some v else bd k l
def ji {κ ν:Type}[DecidableEq κ](k:κ)(v:ν):List (κ×ν)->List (κ×ν)
 | []=>[(k,v)]
 | (a,u)::l=>if a=k then(a,v)::l else(a,u)::ji k v l
theorem Ln {κ ν:Type}[DecidableEq κ](k:κ):∀ (l m:List (κ×ν)),bd k (l++m)=(bd k l).or (bd k m)
 | [],m=>by simp[bd]
 | (a,v)::l,m=>by
  simp only[List.cons_append,bd];split
  ·rfl
  ·exact Ln k l m
theorem Bg {κ ν:Type}[DecidableEq κ](k:κ)(v:ν):∀ (l:List (κ×ν)),bd k l=none->ji k v l=l++[(k,v)]
 | [],_=>rfl
 | (a,u)::l,h=>by
  unfold bd at h;split at h
  ·cases h
  ·rename_i aA
   rw[ji,if_neg aA,Bg k v l h];rfl
theorem Lo {κ ν:Type}[DecidableEq κ](k k':κ)(v:ν):∀ (l:List (κ×ν)),bd k' (ji k v l)=if k=k' then some v else bd k' l
 | []=>rfl
 | (a,u)::l=>by
  unfold ji
  by_cases h:a=k
  ·subst h
   rw[if_pos rfl];unfold bd;split
   ·rfl
   ·rfl
  ·rw[if_neg h]
   unfold bd
   by_cases h2:a=k'
   ·subst h2
    rw[if_pos rfl,if_neg (fun t=>h t.symm),if_pos rfl]
   ·rw[if_neg h2,if_neg h2,Lo k k' v l]
def uz (a b:Int):Int×Bool:=if(cv a&&cv b)&&cv (a+b) then(a+b,true) else(0,false)
def kA (a b:Int):Int×Bool:=if(cv a&&cv b)&&cv (a * b) then(a * b,true) else(0,false)
def uA (a b:Int):Int×Bool:=(max a b,true)
def ov (r:Int×Bool):Int×Bool×Int:=if r.2=true then(r.1,true,0) else(0,false,6)
def yF (a b:Int×Bool×Int)(f:Int->Int->Int×Bool):Int×Bool×Int:=
 if a.2.2≠0 then(0,false,a.2.2) else if b.2.2≠0\/a.2.1=false\/b.2.1=false then(0,false,b.2.2) else ov (f a.1 b.1)
def EY (a:Int×Bool×Int):Int×Bool×Int:=
 if a.2.2≠0\/a.2.1=false then(0,false,a.2.2) else ov (if cv a.1 then(-a.1,true) else(0,false))
def dT (w:cP)(d:Int):Ob->Int×Bool×Int
 | .none=>(0,false,0)
 | .const n=>(n,true,0)
 | .fix s=>match bd (s,d) w.fx with | some v=>(v,true,0) | none=>(0,false,0)
 | .add l r=>yF (dT w d l) (dT w d r) uz
 | .mul l r=>yF (dT w d l) (dT w d r) kA
 | .max l r=>yF (dT w d l) (dT w d r) uA
 | .neg o=>EY (dT w d o)
def eN (w:cP)(d:Int)(o:Ob):Int×Bool×Int:=if ub o≠0 then(0,false,2) else dT w d o
def fW (out:List (List UInt8))(s:List UInt8):List (List UInt8):=if s∈out then out else out++[s]
def bY:Ob->List (List UInt8)
 | .none=>[]
 | .const _=>[]
 | .fix s=>[s]
 | .add l r=>(bY r).foldl fW ((bY l).foldl fW [])
 | .mul l r=>(bY r).foldl fW ((bY l).foldl fW [])
 | .max l r=>(bY r).foldl fW ((bY l).foldl fW [])
 | .neg o=>(bY o).foldl fW []
def mM (w:cP)(d:Int)(o:Ob):List (List UInt8):=if ub o≠0 then[] else(bY o).filter fun s=>(bd (s,d) w.fx).isNone
abbrev kN:=Int×List UInt8×Int
abbrev fX:=Bool×List UInt8×List UInt8×Int×Int
abbrev gY:=List kN×List fX
def kO (d:Int)(names:List (List UInt8))(ws:List fX):List fX:=
 names.foldl (fun ws s=>if(false,s,[],d,0)∈ws then ws else ws++[(false,s,[],d,0)]) ws
def cg (id:List UInt8)(w:cP):Tm->Int->Int->gY->gY×Int
 | .none,_,_,x=>(x,0)
 | .zero,_,_,x=>(x,0)
 | .one s,d,k,x=>((x.1++[(d,s,k)],x.2),0)
 | .gh t,d,k,x=>cg id w t d (-k) x
 | .and l r,d,k,x=>if(cg id w l d k x).2≠0 then cg id w l d k x else cg id w r d k (cg id w l d k x).1
 | .when n t,d,k,x=>cg id w t (max d n) k x
 | .scale o t,d,k,x=>
  if(eN w d o).2.2≠0 then(x,(eN w d o).2.2) else if(eN w d o).2.1=false then((x.1,kO d (mM w d o) x.2),0)
  else if(kA k (eN w d o).1).2=false then(x,6) else if(kA k (eN w d o).1).1=0 then(x,0) else cg id w t d (kA k (eN w d o).1).1 x
 | .cond o l r,d,k,x=>
  if(eN w d o).2.2≠0 then(x,(eN w d o).2.2) else if(eN w d o).2.1=false then((x.1,kO d (mM w d o) x.2),0)
  else if 0<(eN w d o).1 then cg id w l d k x else cg id w r d k x
 | .or s l r,d,k,x=>match bd (id,s) w.ch with
  | none=>((x.1,x.2++[(true,[],s,d,if 0<k then 0 else 1)]),0)
  | some (p,since)=>if p=0 then cg id w l (max d since) k x else cg id w r (max d since) k x
def fm (id:List UInt8)(t:Tm)(day:Int)(w:cP):gY×Int:=
 if jf t≠0\/day<0\/10000<day then(([],[]),1) else
 if(cg id w t day 1 ([],[])).2≠0 then(([],[]),(cg id w t day 1 ([],[])).2) else((cg id w t day 1 ([],[])).1,0)
abbrev jF:=List UInt8×Int×Tm
structure cu where
 day:Int
 cF:List jF
 w:cP
 fC:List ((Int×List UInt8)×Int)
def aQ.kind (m:aQ):Int:=m.1
def aQ.id (m:aQ):List UInt8:=m.2.1
def aQ.name (m:aQ):List UInt8:=m.2.2.1
def aQ.label (m:aQ):List UInt8:=m.2.2.2.1
def aQ.cur (m:aQ):List UInt8:=m.2.2.2.2.1
def aQ.day (m:aQ):Int:=m.2.2.2.2.2.1
def aQ.val (m:aQ):Int:=m.2.2.2.2.2.2.1
def iF (m:aQ):Int:=mB m.e (bh m.t).2
def nD (w:cP):List jF->gY->gY×Int
 | [],x=>(x,0)
 | d::l,x=>if(fm d.1 d.2.2 d.2.1 w).2≠0 then(([],[]),(fm d.1 d.2.2 d.2.1 w).2) else nD w l (x.1++(fm d.1 d.2.2 d.2.1 w).1.1,x.2++(fm d.1 d.2.2 d.2.1 w).1.2)
def cu.all (l:cu):gY×Int:=nD l.w l.cF ([],[])
def cu.jG (l:cu)(d:Int)(c:List UInt8):Int:=(bd (d,c) l.fC).getD 0
def jT (d:Int)(c:List UInt8)(n:Int)(fs:List kN):Int:=fs.foldl (fun n f=>if f.1=d/\f.2.1=c then n+f.2.2 else n) n
def cu.nE (l:cu)(d:Int)(c:List UInt8):Int:=jT d c (-l.jG d c) l.all.1.1
def sG (d:Int):Bool:=decide (0<=d)&&decide (d<=10000)
def qk (w:cP)(s:List UInt8)(d v:Int):cP×Int:=
 if eI s=false\/sG d=false\/cv v=false then(w,1) else if(bd (s,d) w.fx).isSome then(w,4) else if 32<=w.fx.length then(w,5) else({ w with fx:=ji (s,d) v w.fx },0)
def kP (w:cP)(id label:List UInt8)(side day:Int):cP×Int:=
 if eI id=false\/eI label=false\/(side≠0/\side≠1)\/sG day=false then(w,1) else if(bd (id,label) w.ch).isSome then(w,4) else({ w with ch:=ji (id,label) (side,day) w.ch },0)
def sH (l:cu)(m:aQ):cu×Int:=
 if l.cF.any (fun d=>d.1==m.id)=true then(l,4) else if 8<=l.cF.length then(l,5) else
 if(fm m.id m.t l.day l.w).2≠0 then(l,(fm m.id m.t l.day l.w).2) else({ l with cF:=l.cF++[(m.id,l.day,m.t)] },0)
def rk (l:cu)(m:aQ):cu×Int:=
 if l.day<m.day then(l,7) else if(qk l.w m.name m.day m.val).2≠0 then(l,(qk l.w m.name m.day m.val).2) else
 if(({ l with w:=(qk l.w m.name m.day m.val).1 }:cu).all).2≠0 then(l,(({ l with w:=(qk l.w m.name m.day m.val).1 }:cu).all).2) else({ l with w:=(qk l.w m.name m.day m.val).1 },0)
def rl (l:cu)(m:aQ)(dY:Int):cu×Int:=
 match l.cF.find? (fun d=>d.1==m.id) with
 | none=>(l,3)
 | some d=>match (fm d.1 d.2.2 d.2.1 l.w).1.2.find? (fun x=>x.1&&x.2.2.1==m.label) with
  | none=>(l,3)
  | some x=>if l.day<x.2.2.2.1 then(l,7) else if x.2.2.2.2≠dY then(l,8) else
   if(kP l.w m.id m.label m.val l.day).2≠0 then(l,(kP l.w m.id m.label m.val l.day).2) else
   if(fm d.1 d.2.2 d.2.1 (kP l.w m.id m.label m.val l.day).1).2≠0 then(l,(fm d.1 d.2.2 d.2.1 (kP l.w m.id m.label m.val l.day).1).2) else
   ({ l with w:=(kP l.w m.id m.label m.val l.day).1 },0)
def sI (l:cu)(m:aQ):cu×Int:=
 if l.day<m.day then(l,7) else if l.nE m.day m.cur=0 then(l,3) else if l.nE m.day m.cur≠m.val then(l,1) else
 ({ l with fC:=ji (m.day,m.cur) (l.jG m.day m.cur+l.nE m.day m.cur) l.fC },0)
def gZ (l:cu)(m:aQ)(dY:Int):cu×Int:=
 if dY≠0/\dY≠1 then(l,1) else if iF m≠0 then(l,iF m) else
 if m.kind=2 then sH l m else if m.kind=3 then rk l m else if m.kind=4 then rl l m dY else if m.kind=6 then sI l m else
 if m.kind=5 then(if m.day<=l.day then(l,7) else({ l with day:=m.day },0)) else(l,0)
def mN (l:cu)(m:aQ)(dY:Int):Int:=(gZ l m dY).2
def wo:cu:=⟨0,[],⟨[],[]⟩,[]⟩
theorem TC {l:cu}{m:aQ}{b:Int}:(gZ l m b).2≠0->(gZ l m b).1=l:=by
 have ht:(sH l m).2≠0->(sH l m).1=l:=by
  unfold sH
  repeat' split
  all_goals first | (intro _;rfl) | (intro h;exact absurd rfl h)
 have hf:(rk l m).2≠0->(rk l m).1=l:=by
  unfold rk
  repeat' split
  all_goals first | (intro _;rfl) | (intro h;exact absurd rfl h)
 have hc:(rl l m b).2≠0->(rl l m b).1=l:=by
  unfold rl
  repeat' split
  all_goals first | (intro _;rfl) | (intro h;exact absurd rfl h)
 have hs:(sI l m).2≠0->(sI l m).1=l:=by
  unfold sI
  repeat' split
  all_goals first | (intro _;rfl) | (intro h;exact absurd rfl h)
 unfold gZ;split
 ·intro _;rfl
 split
 ·intro _;rfl
 split
 ·exact ht
 split
 ·exact hf
 split
 ·exact hc
 split
 ·exact hs
 split
 ·split
  ·intro _;rfl
  ·intro h;exact absurd rfl h
 ·intro _;rfl
def dU (a b:Int):Int:=IntKind.u64.wrap (a+b)
def dC (a b:Int):Int:=IntKind.u64.wrap ((BitVec.ofInt 64 a ^^^ BitVec.ofInt 64 b).toNat:Int)
def fD (x:Int)(k:Nat):Int:=IntKind.u64.wrap ((BitVec.ofInt 64 (IntKind.u64.wrap (x * 2 ^ (min k 64))) ||| BitVec.ofInt 64 (Int.fdiv x (2 ^ (min (64 - k) 64)))).toNat:Int)
abbrev kB:=Int×Int×Int×Int
def EZ (s:kB):kB:=
 let a0:=dU s.1 s.2.1
 let a1:=dC (fD s.2.1 13) a0
 let a0:=fD a0 32
 let a2:=dU s.2.2.1 s.2.2.2
 let a3:=dC (fD s.2.2.2 16) a2
 let a0:=dU a0 a3
 let a3:=dC (fD a3 21) a0
 let a2:=dU a2 a1
 let a1:=dC (fD a1 17) a2
 let a2:=fD a2 32
 (a0,a1,a2,a3)
def po:Nat->kB->kB
 | 0,s=>s
 | n+1,s=>EZ (po n s)
def yG (m:Int)(s:kB):kB:=(dC (po 2 (s.1,s.2.1,s.2.2.1,dC s.2.2.2 m)).1 m,(po 2 (s.1,s.2.1,s.2.2.1,dC s.2.2.2 m)).2)
def gj (bs:List UInt8):Nat:=bs.foldr (fun b n=>n * 256+b.toNat) 0
def E0 (kb:List UInt8):kB:=(dC (gj (kb.take 8):Int) 8317987319222330741,dC (gj (kb.drop 8):Int) 7237128888997146477,dC (gj (kb.take 8):Int) 7816392313619706465,dC (gj (kb.drop 8):Int) 8387220255154660723)
def TD (bs:List UInt8)(j:Nat):Nat:=gj ((bs.drop (8 * j)).take 8)
def Bh (bs:List UInt8)(s:kB):Nat->kB
 | 0=>s
 | n+1=>yG (TD bs n:Int) (Bh bs s n)
def Bi (bs:List UInt8):Nat:=gj (bs.drop (8 * (bs.length / 8)))+bs.length % 256 * 72057594037927936
def Lp (s:kB):Int:=dC (dC (dC (po 4 (s.1,s.2.1,dC s.2.2.1 255,s.2.2.2)).1 (po 4 (s.1,s.2.1,dC s.2.2.1 255,s.2.2.2)).2.1) (po 4 (s.1,s.2.1,dC s.2.2.1 255,s.2.2.2)).2.2.1) (po 4 (s.1,s.2.1,dC s.2.2.1 255,s.2.2.2)).2.2.2
def mO (kb bs:List UInt8):Int:=Lp (yG (Bi bs:Int) (Bh bs (E0 kb) (bs.length / 8)))
theorem TE:gj []=0:=rfl
theorem Bj (b:UInt8)(bs:List UInt8):gj (b::bs)=gj bs * 256+b.toNat:=rfl
theorem Lq:∀ a b:List UInt8,gj (a++b)=gj a+256 ^ a.length * gj b
 | [],b=>by rw[List.nil_append,TE,List.length_nil,Nat.pow_zero];omega
 | x::a,b=>by
  rw[List.cons_append,Bj,Bj,Lq a b,List.length_cons,Nat.pow_succ,Nat.add_mul,Nat.mul_assoc,Nat.mul_comm (gj b) 256,<- Nat.mul_assoc];omega
theorem Bk:∀ bs:List UInt8,gj bs<256 ^ bs.length
 | []=>by decide
 | b::bs=>by
  have h:=Bk bs;have hb:=b.toNat_lt;rw[Bj,List.length_cons,Nat.pow_succ];omega
theorem TF (bs:List UInt8)(i:Nat)(h:i<bs.length):gj (bs.take (i+1))=gj (bs.take i)+256 ^ i * (bs.getD i 0).toNat:=by
 rw[List.take_add_one,List.getElem?_eq_getElem h,List.getD_eq_getElem?_getD,List.getElem?_eq_getElem h,Lq,List.length_take,Nat.min_eq_left (by omega)];simp[gj]
def ow:Nat->Nat->List UInt8
 | 0,_=>[]
 | k+1,m=>UInt8.ofNat (m % 256)::ow k (m / 256)
theorem E1:∀ k m,(ow k m).length=k
 | 0,_=>rfl
 | k+1,m=>by unfold ow;rw[List.length_cons,E1 k]
theorem Lr:∀ k m,gj (ow k m)=m % 256 ^ k
 | 0,m=>by rw[Nat.pow_zero,Nat.mod_one];rfl
 | k+1,m=>by
  unfold ow;rw[Bj,Lr k,nY (Nat.mod_lt _ (by decide)),Nat.pow_succ,Nat.mul_comm (256 ^ k) 256,Nat.mod_mul,Nat.mul_comm];omega
theorem Ls:∀ (k m i:Nat),i<k->(ow k m)[i]? = some (UInt8.ofNat (m / 256 ^ i % 256))
 | 0,_,_,h=>by omega
 | k+1,m,0,_=>by unfold ow;simp
 | k+1,m,i+1,h=>by
  unfold ow;rw[List.getElem?_cons_succ,Ls k (m / 256) i (by omega),Nat.div_div_eq_div_mul,Nat.pow_succ,Nat.mul_comm 256]
def gk (n:Int):List UInt8:=ow 8 (n % 18446744073709551616).toNat
theorem pq (n:Int):(gk n).length=8:=E1 _ _
theorem TG (n:Int)(h0:0<=n)(h1:n<18446744073709551616):(gj (gk n):Int)=n:=by
 unfold gk;rw[Lr,show 256 ^ 8=18446744073709551616 by decide];omega
theorem TI (a b:Int):0<=dC a b/\dC a b<18446744073709551616:=by
 unfold dC;rw[DB];exact⟨Int.emod_nonneg _ (by decide),Int.emod_lt_of_pos _ (by decide)⟩
theorem E3 (kb bs:List UInt8):0<=mO kb bs/\mO kb bs<18446744073709551616:=TI _ _
namespace Vc
theorem az.pre {cks:List Ck}{b:Nat}{w:World}{K:Cs cks->Prop}{cs:Array Value}{T:TypeId}{fr:Nat×Nat}{x:Cs cks}(hb:w.heap[b]? = some (.cells cs T fr))(hx:∀ j,j<(Cs.vals cks x).length->cs[j]? = (Cs.vals cks x)[j]?)(h:K x):az cks ((⟨b,0,none⟩:Addr).add 0) w K:=
 ⟨x,by rw[dw];exact nV hb _ 0 fun j hj=>by rw[Nat.zero_add];exact hx j hj,h⟩
end Vc
theorem E4 {w:World}{v:Sl}{bs:List UInt8}(h:aY w v bs):(convert 22 9 (.slice v.1 v.2.1 v.2.2)).run Tryz.prog w=.ok (.string (str bs)) w:=by
 show _=Result.ok (Value.string ⟨bs.toArray⟩) w;rw[run_convert_bytes_string w _ _ 5 v.1 v.2.1 v.2.2 Tryz.underlying22 Tryz.underlying5 Tryz.underlying9];have hl:=h.len;obtain⟨h1,h2,h3⟩:=h;cases hv:v.1 with
 | none=>
  have:bs=[]:=by have:=(h2 hv).2.2;simpa using this
  subst this;rfl
 | some a=>
  have hc:=h3 a hv;have TJ:(loadCells a v.2.1).run Tryz.prog w=.ok ((bs.map fun b=>(b.toNat:Int)).map (Value.int .u8)).toArray w:=by
   have:=tD (P:=Tryz.prog) (bs.map bc) hc;rw[List.length_map,<- hl] at this;rw[this]
   congr 1
   rw[List.map_map];rfl
  rw[run_bytesToString w a v.2.1 v.2.2 _ TJ,foldl_push_bytes];have e:((bs.map fun b=>(b.toNat:Int)).map fun n=>UInt8.ofNat n.toNat)=bs:=by
   rw[List.map_map]
   conv=>rhs;rw[<- List.map_id bs]
   refine List.map_congr_left fun b _=>?_;simp
  rw[e]
  congr 2
  simp
abbrev Lt:=Int×ByteArray×ByteArray×ByteArray×ByteArray×Int×Int×Value×Bool×Unit
def mP (e:dz)(r:Bool):Lt:=(e.1,e.2.1,e.2.2.1,e.2.2.2.1,e.2.2.2.2.1,e.2.2.2.2.2.1,e.2.2.2.2.2.2.1,e.2.2.2.2.2.2.2.1,r,())
def E5 (e:dz)(r:Bool):Value:=.agg #[.int .i64 e.1,.string e.2.1,.string e.2.2.1,.string e.2.2.2.1,.string e.2.2.2.2.1,.int .i64 e.2.2.2.2.2.1,.int .i64 e.2.2.2.2.2.2.1,e.2.2.2.2.2.2.2.1,.bool r]
def sJ (e:dz)(ts:List UInt8)(tr:Int)(r:Bool):List UInt8×Int:=if(iy e ts tr).2≠0 then([],(iy e ts tr).2) else((if r=true then 1 else 0)::(iy e ts tr).1,0)
theorem yH (e:dz)(hz:o7 e)(ts:List UInt8)(jC:ts.length<=1000000)(tr:Int):(iy e ts tr).1.length<=10000000:=by
 unfold iy;split
 ·simp
 have AK:(dZ e.1).length<=7:=by unfold dZ;exact Nat.le_trans (List.length_filter_le _ _) (by decide)
 have hbound:∀ l:List UInt8,(l.flatMap (eH e ts)).length<=l.length * 1000010:=by
  intro l
  induction l with
  | nil=>simp
  | cons a l ih=>rw[List.flatMap_cons,List.length_append,List.length_cons];have:=D3 e hz ts jC a;omega
 have:=hbound (dZ e.1);simp only[List.length_cons];omega
theorem Lu (e:dz)(r:Bool)(hT:o0 e.2.2.2.2.2.2.2.1)(hz:o7 e)(ts:List UInt8)(jC:ts.length<=1000000)(tr:Int)(w:World)
  (ht:e.1=2->∀ w1,Fr none1 w w1->Ret Tryz.prog 132 #[e.2.2.2.2.2.2.2.1] w1 fun r w'=>r=.tuple #[.string (str ts),.int .i64 tr]/\Fr none1 w1 w') :
  Ret Tryz.prog 153 #[E5 e r] w fun q w'=>∃ v:Sl,q=.tuple #[.slice v.1 v.2.1 v.2.2,.int .i64 (sJ e ts tr r).2]/\bR w' v (sJ e ts tr r).1/\Fr none1 w w'/\∀ k,au v k->w.heap.size<=k:=by
 refine c153 (mP e r) w _ ?_;unfold C153;refine aq.of fun g w1 hg hb f1 _=>?_;refine az.pre (x:=e) hb (fun j hj=>?_) ?_
 ·match j,hj with
  | 0,_=>rfl
  | 1,_=>rfl
  | 2,_=>rfl
  | 3,_=>rfl
  | 4,_=>rfl
  | 5,_=>rfl
  | 6,_=>rfl
  | 7,_=>rfl
  | j+8,h=>exact absurd h (by show ¬ j+8<8;omega)
 refine ab.of (D4 e hT hz ts jC tr w1 (fun h w' f=>ht h w' (f1.trans f))) ?_;rintro _ w2 ⟨v,rfl,hv,f2,vf⟩;refine⟨(v,(iy e ts tr).2,()),rfl,?_⟩;have f12:=f1.trans f2;have hlen:=yH e hz ts jC tr;have hsz:=f1.size;unfold sJ;dsimp only;refine aa.ne (fun aA=>?_) (fun he=>?_)
 ·simp only[if_pos aA]
  exact⟨(none,0,0),rfl,.inl ⟨rfl,rfl⟩,f12,fun k ⟨a,ha,_⟩=>by cases ha⟩
 simp only[if_neg (show ¬ (iy e ts tr).2≠0 from fun t=>t he)];refine ae.ai (f2.af hb) (x:=r) rfl ?_;have fin:∀ (c:UInt8),aw Tryz.prog (Instr.buildSlice 22 1 #[(0,bc c)]) w2 (.v (.one .ah)) (fun(x7:Option Addr×Nat×Nat) w8=>aw Tryz.prog (Builtin.append_ #[22,22] 22 #[.slice x7.1 x7.2.1 x7.2.2,.slice v.1 v.2.1 v.2.2]) w8 (.v (.one .ah)) (fun(x9:Option Addr×Nat×Nat) aK=>
   ∃ u:Sl,(Value.tuple #[.slice x9.1 x9.2.1 x9.2.2,.int .i64 0])=.tuple #[.slice u.1 u.2.1 u.2.2,.int .i64 0]/\bR aK u (c::(iy e ts tr).1)/\Fr none1 w aK/\∀ k,au u k->w.heap.size<=k)):=by
  intro c;obtain⟨x,w3,D5,hx,kj,f3,xf⟩:=qJ (P:=Tryz.prog) (w:=w2) mm [bc c] (by simp[bc,Value.cells]) (by simp);refine⟨x,w3,D5,?_⟩;have xH:bR w3 x [c]:=hx;obtain⟨y,w4,ye,hy,f4,yf⟩:=qK xH (bR.af hv f3).rd (by simp only[List.length_singleton];omega);have s2:=f12.size;have s3:=f3.size;refine⟨y,w4,ye,y,rfl,hy,(f12.trans f3).comp f4 (fun k U t=>by have:=xf k t;omega),fun k U=>?_⟩
  rcases yf k U with t | t
  ·have:=xf k t;omega
  ·omega
 refine aa.by (fun h=>?_) (fun h=>?_)
 ·rw[if_pos h];exact fin 1
 ·rw[if_neg (by rw[h];decide)];exact fin 0
namespace Vc
open Go.ChangeShapes Go.WideShapes
variable {P:Program}
def IsNest (k:IntKind)(w:World)(a:Option Addr)(len cap:Nat)(us:List (Sl×List Int)):Prop:=
 (a=none/\len=0/\cap=0/\us=[]) \/
 ∃ x,a=some x/\len<=cap/\cap<=maxLen/\us.length=len/\∀ i u,us[i]? = some u->w.cell? (x.add i)=some (.slice u.1.1 u.1.2.1 u.1.2.2)/\IsInts k w u.1.1 u.1.2.1 u.1.2.2 u.2
theorem Lv {α:Type}{Q:Nat->α->Prop}:∀ (n:Nat),(∀ i,i<n->∃ u,Q i u)->∃ us:List α,us.length=n/\∀ i u,us[i]? = some u->Q i u
 | 0,_=>⟨[],rfl,fun i u h=>by simp at h⟩
 | n+1,h=>by
  obtain⟨us,hl,hu⟩:=Lv n (fun i hi=>h i (by omega));obtain⟨u,hq⟩:=h n (by omega);refine⟨us++[u],by simp[hl],fun i x hx=>?_⟩
  by_cases hi:i<us.length
  ·rw[List.getElem?_append_left hi] at hx;exact hu i x hx
  ·rw[List.getElem?_append_right (by omega)] at hx
   have:i=n:=by
    have:=(List.getElem?_eq_some_iff.1 hx).1;simp at this;omega
   subst this;rw[<- hl,Nat.sub_self] at hx;simp at hx;subst hx;exact hq
theorem open_nest {H:Type}{enc:TypeId×Value->H}{w:World}{base:Nat}{held:Bool}{t e ee:TypeId}{k:IntKind}{fuel:Nat}{cs:List Value}{x:DataW H×List MemPlace}
  (ht:P.underlying t=some (.slice e)) (he:P.underlying e=some (.slice ee)) (TK:P.underlying ee=some (.int k)) (hc:P.cellsOf e=1) (rf:P.cellsOf ee=1)
  (h:DataW.trod enc P w base (fun _=>true) held fuel t cs=some x):∃ a len cap us,cs=[.slice a len cap]/\IsNest k w a len cap us:=by
 rcases DataW.trod_slice ht h with⟨h0,_⟩ | ⟨a,len,cap,elems,rest,n,_,hcs,_,hb,hl,hm,hlen,Az,_,_⟩
 ·exact⟨none,0,0,[],h0,.inl ⟨rfl,rfl,rfl,rfl⟩⟩
 obtain⟨us,ul,hu⟩:=Lv (α:=Sl×List Int) (Q:=fun i u=>w.cell? (a.add i)=some (.slice u.1.1 u.1.2.1 u.1.2.2)/\IsInts k w u.1.1 u.1.2.1 u.1.2.2 u.2) len fun i hi=>by
  have gq:=Az i hi;rw[List.getElem?_eq_getElem (by omega),hc,Nat.mul_one,Option.bind_eq_some_iff] at gq;obtain⟨jt,Lw,TL⟩:=gq
  rcases open_ints he TK rf TL with⟨rfl,_⟩ | ⟨y,l,c,zs,rfl,_,uB,TM,E6,_,hcell,hwz⟩
  ·exact⟨((none,0,0),[]),cell_of_cells?_one Lw,.inl ⟨rfl,rfl,rfl,rfl⟩⟩
  ·exact⟨((some y,l,c),zs),cell_of_cells?_one Lw,.inr ⟨y,rfl,uB,TM,by simpa using E6,hcell,hwz⟩⟩
 exact⟨some a,len,cap,us,hcs,.inr ⟨a,rfl,hl,hm,ul,hu⟩⟩
theorem add_add (a:Addr)(m n:Nat):(a.add m).add n=a.add (m+n):=by
 unfold Addr.add
 by_cases hm:m=0
 ·subst hm;simp
 ·by_cases hn:n=0
  ·subst hn;simp[hm]
  ·simp[hm,hn,Nat.add_assoc]
theorem yI {w:World}{a:Addr}{m:Nat}:∀ (vs:List Value) (i:Nat),js w a (m+i) vs->js w (a.add m) i vs
 | [],_,_=>trivial
 | v::vs,i,⟨h1,h2⟩=>⟨by rw[add_add];exact h1,yI vs (i+1) h2⟩
theorem Bl {w:World}{a:Addr}:∀ (m:Nat) (vs:List Value) (i:Nat),js w a i vs->js w a (i+m) (vs.drop m)
 | 0,vs,i,h=>h
 | m+1,[],i,_=>trivial
 | m+1,v::vs,i,⟨_,h2⟩=>by
  have:=Bl m vs (i+1) h2;rw[show i+1+m=i+(m+1) by omega] at this;exact this
theorem db.jj {w:World}{v:Sl}{xs:List Value}(h:db w 1 v xs){lo hi:Int}(h0:0<=lo)(h1:lo<=hi)(h2:hi<=v.2.1)(hc:v.2.1<=v.2.2){K:Option Addr->Nat->Nat->Prop}
  (k:∀ u:Sl,db w 1 u ((xs.drop lo.toNat).take (hi - lo).toNat)->u.2.1<=u.2.2->u.2.1=(hi - lo).toNat->(∀ k,au u k->au v k)->K u.1 u.2.1 u.2.2):eu v.1 v.2.2 lo hi v.2.2 1 K:=by
 refine⟨h0,h1,by omega,by omega,?_⟩;obtain⟨a,b,c⟩:=h;obtain⟨B,hB⟩:∃ B:Option Addr,(if(v.2.2:Int)=lo then v.1 else v.1.map (·.add (lo.toNat * 1)))=B:=⟨_,rfl⟩;obtain⟨n,hn⟩:∃ n:Nat,(hi - lo).toNat=n:=⟨_,rfl⟩;obtain⟨m,hm⟩:∃ m:Nat,((v.2.2:Int) - lo).toNat=m:=⟨_,rfl⟩;rw[hn] at k;rw[hB,hn,hm];refine k (B,n,m) ⟨?_,fun hN=>?_,fun y hy=>?_⟩ (by dsimp only;omega) rfl ?_
 ·dsimp only
  simp only[List.length_take,List.length_drop];omega
 ·dsimp only at hN ⊢
  have hv:v.1=none:=by
   rw[hN] at hB;split at hB
   ·exact hB
   ·cases hv:v.1 with
    | none=>rfl
    | some x=>rw[hv] at hB;cases hB
  obtain⟨e1,e2,e3⟩:=b hv;subst e3;exact⟨by omega,by omega,by simp⟩
 ·dsimp only at hy
  rw[hy] at hB;split at hB
  ·rename_i he
   have:n=0:=by omega
   rw[this,List.take_zero];exact trivial
  ·cases hv:v.1 with
   | none=>rw[hv] at hB;cases hB
   | some x=>
    rw[hv] at hB;injection hB with hB
    subst hB;rw[Nat.mul_one];refine vx _ _ _ (yI _ 0 ?_);have:=Bl lo.toNat xs 0 (c x hv);rw[Nat.zero_add] at this;exact this
 ·rintro j ⟨y,hy,hj⟩
  dsimp only at hy;rw[hy] at hB;split at hB
  ·exact⟨y,hB,hj⟩
  ·cases hv:v.1 with
   | none=>rw[hv] at hB;cases hB
   | some x=>
    rw[hv] at hB;injection hB with hB
    refine⟨x,hv,?_⟩;rw[hj,<- hB];unfold Addr.add;split<;>rfl
def mQ (w:World):(Nat->Bool)->World->Prop:=fun _ w'=>Fr none1 w w'
theorem nP.mQ {w:World}{body:((Nat->Bool)->World->Prop)->Prop}(h:body (Vc.mQ w)):nP w body:=⟨Vc.mQ w,⟨rfl,rfl,rfl,Nat.le_refl _,fun _ _ _=>rfl⟩,h⟩
theorem fJ.mQ {w:World}{i:Nat}{pr:List Nat}{k:Rk}{op:World->(Value->World->Prop)->Prop}{next:k.C->Prop}(x:k.C)
  (h:∀ w1,Fr none1 w w1->op w1 fun v w'=>v=k.val x/\Vc.mQ w (fun _=>true) w') (hn:next x):fJ (Vc.mQ w) i pr k op next:=
 ⟨x,fun _ w1 _ _ hC=>h w1 hC,hn⟩
end Vc
namespace Vc
variable {P:Program}
theorem Lx (off:Nat):∀ (l:List Value) (j:Nat) (cur:Array Value),off+j+l.length<=cur.size ->
  ((l.zipIdx j).foldl (fun(cs:Array Value) (x:Value×Nat)=>cs.setIfInBounds (off+x.2) x.1) cur).toList=cur.toList.take (off+j)++l++cur.toList.drop (off+j+l.length)
 | [],j,cur,_=>by simp
 | c::l,j,cur,h=>by
  simp only[List.length_cons] at h;rw[List.zipIdx_cons,List.foldl_cons,Lx off l (j+1) _ (by simp;omega)];rw[Array.toList_setIfInBounds];have aU:off+j<cur.toList.length:=by simp;omega
  rw[show off+(j+1)=off+j+1 by omega,List.take_succ_eq_append_getElem (by rw[List.length_set];exact aU),List.take_set_of_le (Nat.le_refl _),List.getElem_set_self,List.drop_set_of_lt (by omega)];simp only[List.append_assoc,List.cons_append,List.nil_append,List.length_cons]
  congr 4
  omega
theorem Ly (s n:Nat):∀ (vs:List (List Value)) (k:Nat) (cur:Array Value),(∀ l∈vs,l.length=s)->k+vs.length=n->cur.size=n * s ->
  ∃ out,Instr.fill (fun i=>some (i * s,s)) cur ((vs.zipIdx k).map fun(l,i)=>(i,.agg l.toArray))=some out/\out.toList=cur.toList.take (k * s)++vs.flatten
 | [],k,cur,_,U,hc=>by
  simp only[List.length_nil,Nat.add_zero] at U;subst U;exact⟨cur,rfl,by rw[List.take_of_length_le (by simp[hc])];simp⟩
 | l::vs,k,cur,hl,U,hc=>by
  simp only[List.length_cons] at U;have TN:=hl l (by simp);have hb:k * s+s<=n * s:=by rw[<- Nat.succ_mul];exact Nat.mul_le_mul_right _ (by omega)
  have Lz:(l.toArray.zipIdx.foldl (fun cs (x:Value×Nat)=>cs.setIfInBounds (k * s+x.2) x.1) cur).toList=cur.toList.take (k * s)++l++cur.toList.drop (k * s+l.length):=by
   rw[<- Array.foldl_toList,Array.toList_zipIdx];have:=Lx (k * s) l 0 cur (by omega);simpa using this
  have hsz:(l.toArray.zipIdx.foldl (fun cs (x:Value×Nat)=>cs.setIfInBounds (k * s+x.2) x.1) cur).size=n * s:=by
   rw[<- Array.length_toList,Lz];simp only[List.length_append,List.length_take,List.length_drop,Array.length_toList];omega
  obtain⟨out,ho,yJ⟩:=Ly s n vs (k+1) _ (fun x hx=>hl x (by simp[hx])) (by omega) hsz;refine⟨out,?_,?_⟩
  ·have nC:(Value.agg l.toArray).cells.size=s:=by show l.toArray.size=s;simp[TN]
   simp only[List.zipIdx_cons,List.map_cons,Instr.fill];rw[if_neg (by simp[nC];omega)];exact ho
  ·have hlen:(cur.toList.take (k * s)++l).length=(k+1) * s:=by
    rw[List.length_append,List.length_take,Array.length_toList,Nat.succ_mul];omega
   rw[yJ,Lz,List.take_left' hlen,List.flatten_cons,List.append_assoc]
theorem LA {w:World}{t E s bytes:Nat}{z:Value}(he:gL P t E s z bytes)(vs:List (List Value))(hl:∀ l∈vs,l.length=s)(hn:vs.length * s<=2 ^ 24):
  ∃ (v:Sl) (w':World),(Instr.buildSlice t vs.length ((vs.zipIdx.map fun(l,i)=>(i,Value.agg l.toArray)).toArray)).run P w=.ok (.slice v.1 v.2.1 v.2.2) w'/\aD w' E s v vs.flatten/\v.2.1=vs.length/\Fr none1 w w'/\(∀ k,au v k->w.heap.size<=k):=by
 obtain⟨out,ho,yJ⟩:=Ly s vs.length vs 0 ((Array.range (vs.length * s)).map (z.cells[· % z.cells.size]!)) hl (by simp) (by simp);rw[Nat.zero_mul,List.take_zero,List.nil_append] at yJ;have je:∀ vs:List (List Value),(∀ l∈vs,l.length=s)->vs.flatten.length=vs.length * s:=by
  intro vs
  induction vs with
  | nil=>intro _;simp
  | cons l vs ih=>
   intro h;rw[List.flatten_cons,List.length_append,h l (by simp),ih (fun x hx=>h x (by simp[hx])),List.length_cons,Nat.succ_mul];omega
 obtain⟨v,w',a,b,c⟩:=Dy (w:=w) he vs.length ((vs.zipIdx.map fun(l,i)=>(i,Value.agg l.toArray)).toArray) out hn (by simpa using ho) (by rw[<- Array.length_toList,yJ,je vs hl]);rw[yJ] at b;exact⟨v,w',a,b,c⟩
theorem LB {α:Type}{s:Nat}:∀ (vs:List (List α)) (i:Nat),(∀ l∈vs,l.length=s)->vs.flatten.drop (i * s)=(vs.drop i).flatten
 | vs,0,_=>by simp
 | [],i+1,_=>by simp
 | l::vs,i+1,h=>by
  rw[List.flatten_cons,List.drop_succ_cons,Nat.succ_mul,Nat.add_comm,<- h l (by simp),<- List.drop_drop,List.drop_left,h l (by simp),LB vs i fun x hx=>h x (by simp[hx])]
theorem db.uC {w:World}{v:Sl}{vs:List (List Value)}{s:Nat}(h:db w s v vs.flatten)(hs:∀ l∈vs,l.length=s){cks:List Ck}{x:Cs cks}{i:Nat}(hx:vs[i]? = some (Cs.vals cks x))(hi:i<v.2.1){K:Cs cks->Prop}(k:K x){p:Addr}(hp:v.1=some p):
  az cks (p.add (i * s)) w K:=by
 obtain⟨h1,h2,h3⟩:=h;have hc:=Bl (i * s) _ 0 (h3 p hp);rw[Nat.zero_add,LB vs i hs] at hc;refine⟨x,?_,k⟩;have hlen:=hs _ (List.mem_of_getElem? hx);have hd:vs.drop i=Cs.vals cks x::vs.drop (i+1):=by
  obtain⟨aU,he⟩:=List.getElem?_eq_some_iff.1 hx;rw[List.drop_eq_getElem_cons aU,he]
 rw[hd,List.flatten_cons] at hc;have ht:=vx _ _ s (yI (m:=i * s) _ 0 hc);rw[<- hlen,List.take_left] at ht;rw[hlen] at ht;exact ht
end Vc
inductive Tr where
 | mk (kind:Int) (s:List UInt8) (n:Int) (ks:List Tr)
abbrev TV:=Int×ByteArray×Int×(Option Addr×Nat×Nat)×Unit
def LC (v:TV):List Value:=[.int .i64 v.1,.string v.2.1,.int .i64 v.2.2.1,.slice v.2.2.2.1.1 v.2.2.2.1.2.1 v.2.2.2.1.2.2]
mutual
def kQ (w:World)(S:Nat->Prop):Tr->TV->Prop
 | .mk k s n ks,v=>v.1=k/\v.2.1=str s/\v.2.2.1=n/\∃ vs:List TV,db w 4 v.2.2.2.1 (vs.map LC).flatten/\vs.length=v.2.2.2.1.2.1/\(∀ b,au v.2.2.2.1 b->S b)/\jU w S ks vs
def jU (w:World)(S:Nat->Prop):List Tr->List TV->Prop
 | [],vs=>vs=[]
 | t::ts,vs=>∃ v sK,vs=v::sK/\kQ w S t v/\jU w S ts sK
end
mutual
theorem kQ.ag {w w':World}{S T:Nat->Prop}(f:Fr T w w')(hn:∀ k,S k->¬ T k):∀ (t:Tr) (v:TV),kQ w S t v->kQ w' S t v
 | .mk k s n ks,v,h=>by
  unfold kQ at h ⊢;obtain⟨a,b,c,vs,d,e,g,h⟩:=h;exact⟨a,b,c,vs,d.ag f (fun k U=>hn k (g k U)),e,g,jU.ag f hn ks vs h⟩
theorem jU.ag {w w':World}{S T:Nat->Prop}(f:Fr T w w')(hn:∀ k,S k->¬ T k):∀ (ts:List Tr) (vs:List TV),jU w S ts vs->jU w' S ts vs
 | [],vs,h=>by unfold jU at h ⊢;exact h
 | t::ts,vs,h=>by
  unfold jU at h ⊢;obtain⟨v,sK,rfl,h1,h2⟩:=h;exact⟨v,sK,rfl,kQ.ag f hn t v h1,jU.ag f hn ts sK h2⟩
end
mutual
theorem kQ.mono {w:World}{S T:Nat->Prop}(yK:∀ k,S k->T k):∀ (t:Tr) (v:TV),kQ w S t v->kQ w T t v
 | .mk k s n ks,v,h=>by
  unfold kQ at h ⊢;obtain⟨a,b,c,vs,d,e,g,h⟩:=h;exact⟨a,b,c,vs,d,e,fun k U=>yK k (g k U),jU.mono yK ks vs h⟩
theorem jU.mono {w:World}{S T:Nat->Prop}(yK:∀ k,S k->T k):∀ (ts:List Tr) (vs:List TV),jU w S ts vs->jU w T ts vs
 | [],vs,h=>by unfold jU at h ⊢;exact h
 | t::ts,vs,h=>by
  unfold jU at h ⊢;obtain⟨v,sK,rfl,h1,h2⟩:=h;exact⟨v,sK,rfl,kQ.mono yK t v h1,jU.mono yK ts sK h2⟩
end
theorem kQ.kind {w:World}{S:Nat->Prop}{k:Int}{s:List UInt8}{n:Int}{ks:List Tr}{v:TV}(h:kQ w S (.mk k s n ks) v):v.1=k:=by unfold kQ at h;exact h.1
def rm:Ob->Tr
 | .none=>.mk 0 [] 0 []
 | .const n=>.mk 11 [] n []
 | .fix s=>.mk 12 s 0 []
 | .add l r=>.mk 13 [] 0 [rm l,rm r]
 | .neg o=>.mk 14 [] 0 [rm o]
 | .mul l r=>.mk 15 [] 0 [rm l,rm r]
 | .max l r=>.mk 16 [] 0 [rm l,rm r]
def ql:Tm->Tr
 | .none=>.mk 0 [] 0 []
 | .zero=>.mk 1 [] 0 []
 | .one s=>.mk 2 s 0 []
 | .gh t=>.mk 3 [] 0 [ql t]
 | .and l r=>.mk 4 [] 0 [ql l,ql r]
 | .or s l r=>.mk 5 s 0 [ql l,ql r]
 | .scale o t=>.mk 6 [] 0 [rm o,ql t]
 | .when d t=>.mk 7 [] d [ql t]
 | .cond o l r=>.mk 8 [] 0 [rm o,ql l,ql r]
def yL:Ob->Prop
 | .none=>True
 | .const _=>True
 | .fix s=>s.length<=1000
 | .add l r | .mul l r | .max l r=>yL l/\yL r
 | .neg o=>yL o
def qm:Tm->Prop
 | .none=>True
 | .zero=>True
 | .one s=>s.length<=1000
 | .gh t=>qm t
 | .and l r=>qm l/\qm r
 | .or s l r=>s.length<=1000/\qm l/\qm r
 | .scale o t=>yL o/\qm t
 | .when _ t=>qm t
 | .cond o l r=>yL o/\qm l/\qm r
def C9 (p0:Int)(p1:Int)(w:World)(K:Value->World->Prop):Prop:=
 aa (decide (p1<1))
 (K (.int .i64 0) w)
 (tu p1 (aa (decide ((Int.tmod p0 p1)<0))
 (K (.int .i64 (IntKind.i64.wrap ((Int.tmod p0 p1)+p1))) w)
 (K (.int .i64 (Int.tmod p0 p1)) w)))
def pl9:aB:=.auto
theorem c9 (p0:Int)(p1:Int)(w:World)(K:Value->World->Prop)(h:C9 p0 p1 w K):Ret Tryz.prog 9 #[.int .i64 p0,.int .i64 p1] w K:=aC (by kernel_rfl) Tryz.func9 (p:=pl9) (Eq.mpr (by kernel_rfl) h)
def within (v n:Int):Int:=if n<1 then 0 else v % n
theorem LD (v n:Int):0<=within v n:=by unfold within;split;omega;exact Int.emod_nonneg _ (by omega)
theorem LF (v:Int){n:Int}(h:1<=n):within v n<n:=by unfold within;rw[if_neg (by omega)];exact Int.emod_lt_of_pos _ (by omega)
theorem TO (v n:Int)(w:World)(hn:n<=9223372036854775807):
  Ret Tryz.prog 9 #[.int .i64 v,.int .i64 n] w fun r w'=>r=.int .i64 (within v n)/\w=w':=by
 refine c9 v n w _ ?_;unfold C9 within;refine aa.dec (fun h=>?_) (fun h=>⟨by omega,?_⟩)
 ·rw[if_pos h];exact⟨rfl,rfl⟩
 ·rw[if_neg h]
  have e:v.tmod n=if 0<=v\/n ∣ v then v % n else v % n - n:=by
   rw[Int.tmod_eq_emod];split<;>omega
  have b0:=Int.emod_nonneg v (show n≠0 by omega);have b1:=Int.emod_lt_of_pos v (show 0<n by omega);refine aa.dec (fun h2=>⟨?_,rfl⟩) (fun h2=>⟨?_,rfl⟩)
  ·split at e
   ·omega
   ·rw[wI (by omega) (by omega)];congr 1;omega
  ·split at e
   ·rw[e]
   ·omega
theorem IsInts.ag {k:IntKind}{w w':World}{v:Sl}{zs:List Int}(h:IsInts k w v.1 v.2.1 v.2.2 zs){S:Nat->Prop}(f:Fr S w w')(hn:∀ b,0<v.2.2->au v b->¬ S b):IsInts k w' v.1 v.2.1 v.2.2 zs:=by
 rcases h with h | ⟨x,hx,hl,hc,hz,hcell,hw⟩
 ·exact .inl h
 ·exact .inr ⟨x,hx,hl,hc,hz,fun i hi=>f.cell (hcell i hi) (by rw[show(x.add i).block=x.block by unfold Addr.add;split<;>rfl];exact hn _ (by omega) ⟨x,hx,rfl⟩),hw⟩
theorem IsStrs.ag {w w':World}{v:Sl}{zs:List ByteArray}(h:IsStrs w v.1 v.2.1 v.2.2 zs){S:Nat->Prop}(f:Fr S w w')(hn:∀ b,0<v.2.2->au v b->¬ S b):IsStrs w' v.1 v.2.1 v.2.2 zs:=by
 rcases h with h | ⟨x,hx,hl,hc,hz,hcell,hw⟩
 ·exact .inl h
 ·exact .inr ⟨x,hx,hl,hc,hz,fun i hi=>f.cell (hcell i hi) (by rw[show(x.add i).block=x.block by unfold Addr.add;split<;>rfl];exact hn _ (by omega) ⟨x,hx,rfl⟩),hw⟩
structure Bm (w:World)(m b:Nat)(i:Int):Prop where
 out:∃ (sn sw:Sl) (l lb:Int) (ns:List Int) (ws:List ByteArray),w.heap[b]? = some (.cells #[.slice sn.1 sn.2.1 sn.2.2,.slice sw.1 sw.2.1 sw.2.2,.int .i64 i,.int .i64 l,.int .i64 lb] 253 (0,0)) /\
  IsInts .i64 w sn.1 sn.2.1 sn.2.2 ns/\IsStrs w sw.1 sw.2.1 sw.2.2 ws/\(∀ k,0<sn.2.2->au sn k->k<m/\k≠b)/\(∀ k,0<sw.2.2->au sw k->k<m/\k≠b)
 lt:b<m
 le:m<=w.heap.size
structure At (w0:World)(m b:Nat)(i0:Int)(n:Nat)(w:World)(i:Int):Prop where
 TP:Bm w m b i
 lo:i0<=i
 hi:i<=i0+n
 fr:Fr (only b) w0 w
 le:m<=w0.heap.size
theorem Bm.ag {w w':World}{m b:Nat}{i:Int}(h:Bm w m b i){S:Nat->Prop}(f:Fr S w w')(hn:∀ k,k<m->¬ S k):Bm w' m b i:=by
 obtain⟨⟨sn,sw,l,lb,ns,ws,hb,h1,h2,h3,h4⟩,aU,hle⟩:=h;exact⟨⟨sn,sw,l,lb,ns,ws,f.ag hb (hn _ aU),IsInts.ag h1 f fun k hc U=>hn k (h3 k hc U).1,IsStrs.ag h2 f fun k hc U=>hn k (h4 k hc U).1,h3,h4⟩,aU,by have:=f.size;omega⟩
theorem At.ag {w0 w w':World}{m b n:Nat}{i0 i:Int}(h:At w0 m b i0 n w i){S:Nat->Prop}(f:Fr S w w')(hn:∀ k,k<w0.heap.size->¬ S k):At w0 m b i0 n w' i:=
 ⟨h.TP.ag f (fun k U=>hn k (by have:=h.le;omega)),h.lo,h.hi,h.fr.comp f (fun x hx t=>(hn x hx t).elim),h.le⟩
def since (w w':World):Nat->Prop:=fun k=>w.heap.size<=k/\k<w'.heap.size
def TB (w:World)(g:Nat)(v:TV):Prop:=w.heap[g]? = some (.cells (LC v).toArray 60 (0,0))
theorem TB.ag {w w':World}{g:Nat}{v:TV}(h:TB w g v){S:Nat->Prop}(f:Fr S w w')(hn:¬ S g):TB w' g v:=f.ag h hn
theorem TB.k {w:World}{g:Nat}{v:TV}(h:TB w g v)(x:Int){K:World->Prop}(k:∀ w',TB w' g (x,v.2)->Fr (only g) w w'->K w'):ay ((⟨g,0,none⟩:Addr).add 0) (.int .i64 x) w K:=
 ay.ai h (by show 0+0<4;omega) rfl fun w' hb f _=>k w' hb f
theorem TB.s {w:World}{g:Nat}{v:TV}(h:TB w g v)(x:ByteArray){K:World->Prop}(k:∀ w',TB w' g (v.1,x,v.2.2)->Fr (only g) w w'->K w'):ay ((⟨g,0,none⟩:Addr).add 1) (.string x) w K:=
 ay.ai h (by show 0+1<4;omega) rfl fun w' hb f _=>k w' hb f
theorem TB.n {w:World}{g:Nat}{v:TV}(h:TB w g v)(x:Int){K:World->Prop}(k:∀ w',TB w' g (v.1,v.2.1,x,v.2.2.2)->Fr (only g) w w'->K w'):ay ((⟨g,0,none⟩:Addr).add 2) (.int .i64 x) w K:=
 ay.ai h (by show 0+2<4;omega) rfl fun w' hb f _=>k w' hb f
theorem TB.u {w:World}{g:Nat}{v:TV}(h:TB w g v)(x:Sl){K:World->Prop}(k:∀ w',TB w' g (v.1,v.2.1,v.2.2.1,x,())->Fr (only g) w w'->K w'):ay ((⟨g,0,none⟩:Addr).add 3) (.slice x.1 x.2.1 x.2.2) w K:=
 ay.ai h (by show 0+3<4;omega) rfl fun w' hb f _=>k w' hb f
def wq (w w':World)(ts:List Tr)(vs:List TV):Prop:=jU w' (since w w') ts vs
theorem wq.ag {w w1 w2:World}{t:List Tr}{v:List TV}(h:wq w w1 t v){S:Nat->Prop}(f:Fr S w1 w2)(hn:∀ k,w.heap.size<=k->k<w1.heap.size->¬ S k):wq w w2 t v:=
 jU.mono (fun k U=>⟨U.1,by have:=f.size;have:=U.2;omega⟩) t v (jU.ag f (fun k U=>hn k U.1 U.2) t v h)
structure Bn (w wB wc:World)(m b g1 g2:Nat)(i:Int)(n:Nat)(i':Int)(v:TV):Prop where
 at_:At w m b i n wc i'
 t1:TB wc g1 (0,str [],0,(none,0,0),())
 t2:TB wc g2 v
 TQ:w.heap.size<=g1
 LG:w.heap.size<=g2
 ne:g1≠g2
 TR:g1<wB.heap.size
 LH:g2<wB.heap.size
 B:wB.heap.size<=wc.heap.size
theorem Bn.set {w wB wc wd:World}{m b g1 g2 n:Nat}{i i':Int}{v u:TV}(s:Bn w wB wc m b g1 g2 i n i' v)(f:Fr (only g2) wc wd)(t:TB wd g2 u):Bn w wB wd m b g1 g2 i n i' u:=
 ⟨s.at_.ag f (fun k U t=>by have:k=g2:=t;have:=s.LG;omega),s.t1.ag f (fun t=>s.ne t),t,s.TQ,s.LG,s.ne,s.TR,s.LH,Nat.le_trans s.B f.size⟩
theorem wq.set {w wB wc wd:World}{m b g1 g2 n:Nat}{i i':Int}{v:TV}(s:Bn w wB wc m b g1 g2 i n i' v){ts:List Tr}{vs:List TV}(h:wq wB wc ts vs)(f:Fr (only g2) wc wd):wq wB wd ts vs:=
 h.ag f fun k U _ t=>by have:k=g2:=t;have:=s.LH;omega
namespace Vc
variable {P:Program}
abbrev PlV:=(Option Addr×Nat×Nat)×(Option Addr×Nat×Nat)×Unit
def IsPl (w:World)(p:PlV):Prop:=(∃ ns,IsInts .i64 w p.1.1 p.1.2.1 p.1.2.2 ns)/\∃ ws,IsStrs w p.2.1.1 p.2.1.2.1 p.2.1.2.2 ws
theorem TS {H:Type}{enc:TypeId×Value->H}{w:World}{base:Nat}{held:Bool}{t e:TypeId}{fuel:Nat}{cs:List Value}{x:DataW H×List MemPlace}(ht:P.underlying t=some (.slice e))(he:P.underlying e=some (.int .i64))(hc:P.cellsOf e=1)
  (h:DataW.trod enc P w base (fun _=>true) held fuel t cs=some x):∃ (u:Option Addr×Nat×Nat),cs=[.slice u.1 u.2.1 u.2.2]/\∃ ns,IsInts .i64 w u.1 u.2.1 u.2.2 ns:=by
 rcases Go.ChangeShapes.open_ints ht he hc h with⟨hcs,_⟩ | ⟨a,l,c,zs,hcs,_,hl,hm,hz,_,hcell,hwz⟩
 ·exact⟨(none,0,0),hcs,[],.inl ⟨rfl,rfl,rfl,rfl⟩⟩
 ·exact⟨(some a,l,c),hcs,zs,.inr ⟨a,rfl,hl,hm,by simpa using hz,hcell,hwz⟩⟩
theorem TT {H:Type}{enc:TypeId×Value->H}{w:World}{base:Nat}{held:Bool}{t e:TypeId}{fuel:Nat}{cs:List Value}{x:DataW H×List MemPlace}(ht:P.underlying t=some (.slice e))(he:P.underlying e=some .string)(hc:P.cellsOf e=1)
  (h:DataW.trod enc P w base (fun _=>true) held fuel t cs=some x):∃ (u:Option Addr×Nat×Nat),cs=[.slice u.1 u.2.1 u.2.2]/\∃ ws,IsStrs w u.1 u.2.1 u.2.2 ws:=by
 rcases Go.ChangeShapes.open_strings ht he hc h with⟨hcs,_⟩ | ⟨a,l,c,zs,hcs,_,hl,hm,hz,_,hcell,hwz⟩
 ·exact⟨(none,0,0),hcs,[],.inl ⟨rfl,rfl,rfl,rfl⟩⟩
 ·exact⟨(some a,l,c),hcs,zs,.inr ⟨a,rfl,hl,hm,by simpa using hz,hcell,hwz⟩⟩
theorem open_plan {H:Type}{enc:TypeId×Value->H}{w:World}{base:Nat}{held:Bool}{t t0 t1 e0 e1:TypeId}{f0 f1:Field}{fuel:Nat}{cs:List Value}{x:DataW H×List MemPlace}
  (ht:P.underlying t=some (.struct #[f0,f1])) (TU:f0.type=t0) (vP:f1.type=t1) (E7:f0.offset=0) (E8:f1.offset=1) (hc:P.cellsOf t=2) (yM:P.cellsOf t0=1) (nC:P.cellsOf t1=1)
  (h0:P.underlying t0=some (.slice e0)) (h1:P.underlying t1=some (.slice e1)) (k0:P.underlying e0=some (.int .i64)) (k1:P.underlying e1=some .string) (d0:P.cellsOf e0=1) (d1:P.cellsOf e1=1)
  (h:DataW.trod enc P w base (fun _=>true) held fuel t cs=some x):∃ p:PlV,cs=[.slice p.1.1 p.1.2.1 p.1.2.2,.slice p.2.1.1 p.2.1.2.1 p.2.1.2.2]/\IsPl w p:=by
 obtain⟨y0,y1,n,_,hlen,g0,g1⟩:=Go.ChangeShapes.trod_struct2 ht h;rw[TU,E7,yM] at g0;rw[vP,E8,nC] at g1;obtain⟨u,hu,hi⟩:=TS h0 k0 d0 g0;obtain⟨v,hv,hs⟩:=TT h1 k1 d1 g1;rw[hc] at hlen
 match cs,hlen with
 | [a,b],_=>
  simp only[List.drop_zero,List.drop_succ_cons,List.take_succ_cons,List.take_zero,List.cons.injEq,and_true] at hu hv;exact⟨(u,v,()),by rw[hu,hv],hi,hs⟩
end Vc
abbrev pv:=Int×ByteArray×ByteArray×ByteArray×ByteArray×Int×Int×Int×ByteArray×Int×(Option Addr×Nat×Nat)×Unit
def Bo (e:dz)(v:TV):pv:=(e.1,e.2.1,e.2.2.1,e.2.2.2.1,e.2.2.2.2.1,e.2.2.2.2.2.1,e.2.2.2.2.2.2.1,v.1,v.2.1,v.2.2.1,v.2.2.2.1,())
def uD (x:pv):List Value:=[.int .i64 x.1,.string x.2.1,.string x.2.2.1,.string x.2.2.2.1,.string x.2.2.2.2.1,.int .i64 x.2.2.2.2.2.1,.int .i64 x.2.2.2.2.2.2.1,.int .i64 x.2.2.2.2.2.2.2.1,.string x.2.2.2.2.2.2.2.2.1,.int .i64 x.2.2.2.2.2.2.2.2.2.1,.slice x.2.2.2.2.2.2.2.2.2.2.1.1 x.2.2.2.2.2.2.2.2.2.2.1.2.1 x.2.2.2.2.2.2.2.2.2.2.1.2.2]
def LI (x:pv):Value:=.agg #[.int .i64 x.1,.string x.2.1,.string x.2.2.1,.string x.2.2.2.1,.string x.2.2.2.2.1,.int .i64 x.2.2.2.2.2.1,.int .i64 x.2.2.2.2.2.2.1,.int .i64 x.2.2.2.2.2.2.2.1,.string x.2.2.2.2.2.2.2.2.1,.int .i64 x.2.2.2.2.2.2.2.2.2.1,.slice x.2.2.2.2.2.2.2.2.2.2.1.1 x.2.2.2.2.2.2.2.2.2.2.1.2.1 x.2.2.2.2.2.2.2.2.2.2.1.2.2]
abbrev EK:List Ck:=[.int .i64,.str,.str,.str,.str,.int .i64,.int .i64,.raw]
abbrev Br:List Ck:=[.int .i64,.str,.str,.str,.str,.int .i64,.int .i64,.int .i64,.str,.int .i64,.ah]
def gP (e:dz):List Value:=[.int .i64 e.1,.string e.2.1,.string e.2.2.1,.string e.2.2.2.1,.string e.2.2.2.2.1,.int .i64 e.2.2.2.2.2.1,.int .i64 e.2.2.2.2.2.2.1,e.2.2.2.2.2.2.2.1]
theorem E9 {e:dz}(h:bJ e.2.2.2.2.2.2.2.1=true):(gP e).all bJ=true:=by
 show(bJ (.int .i64 _)&&(bJ (.string _)&&(bJ (.string _)&&(bJ (.string _)&&(bJ (.string _)&&(bJ (.int .i64 _)&&(bJ (.int .i64 _)&&(bJ e.2.2.2.2.2.2.2.1&&true))))))))=true;rw[h];rfl
def C305 (p0:Addr)(w:World)(K:Value->World->Prop):Prop:=
 ae .ah (p0.add 0) w (fun(x1:ao)=>aa (decide ((x1.2.1:Int) > 0))
 (ae .ah (p0.add 0) w (fun(x2:ao)=>bK x2.1 x2.2.1 0 2 (fun a3=>ae (.int .i64) (a3.add 1) w (fun(x4:Int)=>K (.int .i64 x4) w))))
 (ae (.int .i64) (p0.add 1) w (fun(x5:Int)=>K (.int .i64 x5) w)))
def pl305:aB:=.auto
theorem c305 (p0:Addr)(w:World)(K:Value->World->Prop)(h:C305 p0 w K):Ret Tryz.prog 305 #[.pointer (some p0)] w K:=aC (by kernel_rfl) Tryz.func305 (p:=pl305) (Eq.mpr (by kernel_rfl) h)
def C281 (p0:Addr)(p1:Int)(w:World)(K:Value->World->Prop):Prop:=
 ae (.int .i64) (p0.add 3) w (fun(x1:Int)=>aa (x1==0)
 (ab Tryz.prog 305 #[.pointer (some p0)] w (.v (.one (.int .i64))) (fun(x2:Int) w3=>ay (p0.add 3) (.int .i64 p1) w3 (fun w4=>ay (p0.add 2) (.int .i64 x2) w4 (fun w5=>K (.tuple #[]) w5))))
 (K (.tuple #[]) w))
def pl281:aB:=.auto
theorem c281 (p0:Addr)(p1:Int)(w:World)(K:Value->World->Prop)(h:C281 p0 p1 w K):Ret Tryz.prog 281 #[.pointer (some p0),.int .i64 p1] w K:=aC (by kernel_rfl) Tryz.func281 (p:=pl281) (Eq.mpr (by kernel_rfl) h)
def C273 (p0:Addr)(p1:Value)(w:World)(K:Value->World->Prop):Prop:=
 bQ (Bool×Unit) (fun J1=>ae (.int .i64) (p0.add 3) w (fun(x4:Int)=>aa (x4==0)
 (ae .ah (p0.add 0) w (fun(x5:ao)=>aa ((x5.2.1:Int)==0)
 (J1 (true,()) w)
 (ae .ah (p0.add 0) w (fun(x6:ao)=>bK x6.1 x6.2.1 0 2 (fun a7=>ae .str (a7.add 0) w (fun(x8:ByteArray)=>j9 Tryz.prog p1 [.string x8] (.v (.one .bool)) w (fun(x9:Bool) aK=>J1 ((!x9),()) aK)))))))
 (J1 (false,()) w)))
 (fun _ s2 w3=>aa s2.1
 (ab Tryz.prog 281 #[.pointer (some p0),.int .i64 2] w3 (.aP []) (fun(aZ:Unit) aO=>ae (.int .i64) (p0.add 3) aO (fun(bC:Int)=>aa (bC != 0)
 (K (.string (⟨#[]⟩:ByteArray)) aO)
 (ae .ah (p0.add 0) aO (fun(bn:ao)=>bK bn.1 bn.2.1 0 2 (fun tX=>ae .str (tX.add 0) aO (fun(aT:ByteArray)=>ae .ah (p0.add 0) aO (fun(aX:ao)=>eu aX.1 aX.2.2 1 aX.2.1 aX.2.2 2 (fun uv Fa c20=>ay (p0.add 0) (.slice uv Fa c20) aO (fun bq=>K (.string aT) bq))))))))))
 (ae (.int .i64) (p0.add 3) w3 (fun(cr:Int)=>aa (cr != 0)
 (K (.string (⟨#[]⟩:ByteArray)) w3)
 (ae .ah (p0.add 0) w3 (fun(cc:ao)=>bK cc.1 cc.2.1 0 2 (fun a24=>ae .str (a24.add 0) w3 (fun(bG:ByteArray)=>ae .ah (p0.add 0) w3 (fun(dk:ao)=>eu dk.1 dk.2.2 1 dk.2.1 dk.2.2 2 (fun yN yO c29=>ay (p0.add 0) (.slice yN yO c29) w3 (fun cn=>K (.string bG) cn))))))))))
def pl273:aB:=(.seq .auto (.seq (.join [(30,.one .bool)] .auto .auto) .auto))
theorem c273 (p0:Addr)(p1:Value)(w:World)(K:Value->World->Prop)(h:C273 p0 p1 w K):Ret Tryz.prog 273 #[.pointer (some p0),p1] w K:=aC (by kernel_rfl) Tryz.func273 (p:=pl273) (Eq.mpr (by kernel_rfl) h)
def C275 (p0:Addr)(p1:ByteArray)(w:World)(K:Value->World->Prop):Prop:=
 aq (.cells #[.string p1] 9) w (fun g1 w2=>ab Tryz.prog 273 #[.pointer (some p0),.func (.func 300) #[] #[.pointer (some (ad g1))]] w2 (.v (.one .str)) (fun(x3:ByteArray) w4=>K (.tuple #[]) w4))
def pl275:aB:=.auto
theorem c275 (p0:Addr)(p1:ByteArray)(w:World)(K:Value->World->Prop)(h:C275 p0 p1 w K):Ret Tryz.prog 275 #[.pointer (some p0),.string p1] w K:=aC (by kernel_rfl) Tryz.func275 (p:=pl275) (Eq.mpr (by kernel_rfl) h)
def C300 (p0:ByteArray)(c0:Addr)(w:World)(K:Value->World->Prop):Prop:=
 ae .str c0 w (fun(x1:ByteArray)=>K (.bool (p0.toList==x1.toList)) w)
def pl300:aB:=.auto
theorem c300 (p0:ByteArray)(c0:Addr)(w:World)(K:Value->World->Prop)(h:C300 p0 c0 w K):Ret Tryz.prog 300 #[.string p0,.pointer (some c0)] w K:=aC (by kernel_rfl) Tryz.func300 (p:=pl300) (Eq.mpr (by kernel_rfl) h)
def C276 (p0:Addr)(w:World)(K:Value->World->Prop):Prop:=
 ab Tryz.prog 273 #[.pointer (some p0),.func (.func 169) #[] #[]] w (.v (.one .str)) (fun(x1:ByteArray) w2=>K (.string x1) w2)
def pl276:aB:=.auto
theorem c276 (p0:Addr)(w:World)(K:Value->World->Prop)(h:C276 p0 w K):Ret Tryz.prog 276 #[.pointer (some p0)] w K:=aC (by kernel_rfl) Tryz.func276 (p:=pl276) (Eq.mpr (by kernel_rfl) h)
def C272 (p0:Addr)(p1:Int)(w:World)(K:Value->World->Prop):Prop:=
 aa (decide (p1 >= 12))
 (ab Tryz.prog 281 #[.pointer (some p0),.int .i64 5] w (.aP []) (fun(x1:Unit) w2=>ae (.int .i64) (p0.add 3) w2 (fun(x3:Int)=>K (.bool (x3 != 0)) w2)))
 (ae (.int .i64) (p0.add 3) w (fun(x4:Int)=>K (.bool (x4 != 0)) w))
def pl272:aB:=.auto
theorem c272 (p0:Addr)(p1:Int)(w:World)(K:Value->World->Prop)(h:C272 p0 p1 w K):Ret Tryz.prog 272 #[.pointer (some p0),.int .i64 p1] w K:=aC (by kernel_rfl) Tryz.func272 (p:=pl272) (Eq.mpr (by kernel_rfl) h)
def C302 (p0:Addr)(p1:Int)(w:World)(K:Value->World->Prop):Prop:=
 ab Tryz.prog 275 #[.pointer (some p0),.string (⟨#[40]⟩:ByteArray)] w (.aP []) (fun(x1:Unit) w2=>ab Tryz.prog 279 #[.pointer (some p0),.int .i64 p1] w2 (.v (.one .raw)) (fun(x3:Value) w4=>ab Tryz.prog 275 #[.pointer (some p0),.string (⟨#[44]⟩:ByteArray)] w4 (.aP []) (fun(x5:Unit) w6=>ab Tryz.prog 279 #[.pointer (some p0),.int .i64 p1] w6 (.v (.one .raw)) (fun(x7:Value) w8=>ab Tryz.prog 275 #[.pointer (some p0),.string (⟨#[41]⟩:ByteArray)] w8 (.aP []) (fun(x9:Unit) aK=>K (.tuple #[x3,x7]) aK)))))
def pl302:aB:=.auto
theorem c302 (p0:Addr)(p1:Int)(w:World)(K:Value->World->Prop)(h:C302 p0 p1 w K):Ret Tryz.prog 302 #[.pointer (some p0),.int .i64 p1] w K:=aC (by kernel_rfl) Tryz.func302 (p:=pl302) (Eq.mpr (by kernel_rfl) h)
def C279 (p0:Addr)(p1:Int)(w:World)(K:Value->World->Prop):Prop:=
 ab Tryz.prog 272 #[.pointer (some p0),.int .i64 p1] w (.v (.one .bool)) (fun(x1:Bool) w2=>aa x1
 (K .nilIface w2)
 (ab Tryz.prog 273 #[.pointer (some p0),.func (.func 301) #[] #[]] w2 (.v (.one .str)) (fun(x3:ByteArray) w4=>aa (x3.toList==(⟨#[]⟩:ByteArray).toList)
 (K .nilIface w4)
 (aa (x3.toList==(⟨#[102,105,120]⟩:ByteArray).toList)
 (ab Tryz.prog 275 #[.pointer (some p0),.string (⟨#[40]⟩:ByteArray)] w4 (.aP []) (fun(x5:Unit) w6=>ab Tryz.prog 276 #[.pointer (some p0)] w6 (.v (.one .str)) (fun(x7:ByteArray) w8=>aq (.cells #[.string (⟨#[]⟩:ByteArray)] 300) w8 (fun g9 aK=>av (ad g9) [.string x7] aK (fun aR=>ab Tryz.prog 275 #[.pointer (some p0),.string (⟨#[41]⟩:ByteArray)] aR (.aP []) (fun(bw:Unit) aW=>az [.str] (ad g9) aW (fun(bn:ByteArray×Unit)=>K (.iface 300 (.agg #[.string bn.1])) aW)))))))
 (aa (x3.toList==(⟨#[110,101,103]⟩:ByteArray).toList)
 (ab Tryz.prog 275 #[.pointer (some p0),.string (⟨#[40]⟩:ByteArray)] w4 (.aP []) (fun(bm:Unit) br=>ab Tryz.prog 279 #[.pointer (some p0),.int .i64 (IntKind.i64.wrap (p1+1))] br (.v (.one .raw)) (fun(aX:Value) bx=>iu aX (aq (.cells #[.nilIface] 304) bx (fun g19 bz=>av (ad g19) [aX] bz (fun bq=>ab Tryz.prog 275 #[.pointer (some p0),.string (⟨#[41]⟩:ByteArray)] bq (.aP []) (fun(cr:Unit) dW=>az [.raw] (ad g19) dW (fun(cN:Value×Unit)=>K (.iface 304 (.agg #[cN.1])) dW))))))))
 (aa (x3.toList==(⟨#[97,100,100]⟩:ByteArray).toList)
 (ab Tryz.prog 302 #[.pointer (some p0),.int .i64 (IntKind.i64.wrap (p1+1))] w4 (.aP [.one .raw,.one .raw]) (fun(bG:Value×Value×Unit) bZ=>iu bG.1 (iu bG.2.1 (K (.iface 302 (.agg #[bG.1,bG.2.1])) bZ))))
 (aa (x3.toList==(⟨#[109,117,108]⟩:ByteArray).toList)
 (ab Tryz.prog 302 #[.pointer (some p0),.int .i64 (IntKind.i64.wrap (p1+1))] w4 (.aP [.one .raw,.one .raw]) (fun(cE:Value×Value×Unit) bV=>iu cE.1 (iu cE.2.1 (K (.iface 305 (.agg #[cE.1,cE.2.1])) bV))))
 (aa (x3.toList==(⟨#[109,97,120]⟩:ByteArray).toList)
 (ab Tryz.prog 302 #[.pointer (some p0),.int .i64 (IntKind.i64.wrap (p1+1))] w4 (.aP [.one .raw,.one .raw]) (fun(cH:Value×Value×Unit) cn=>iu cH.1 (iu cH.2.1 (K (.iface 306 (.agg #[cH.1,cH.2.1])) cn))))
 (ab Tryz.prog 303 #[.string x3] w4 (.aP [.one (.int .i64),.one .bool]) (fun(bX:Int×Bool×Unit) cZ=>K (.iface 222 (.agg #[.int .i64 bX.1])) cZ))))))))))
def pl279:aB:=.auto
theorem c279 (p0:Addr)(p1:Int)(w:World)(K:Value->World->Prop)(h:C279 p0 p1 w K):Ret Tryz.prog 279 #[.pointer (some p0),.int .i64 p1] w K:=aC (by kernel_rfl) Tryz.func279 (p:=pl279) (Eq.mpr (by kernel_rfl) h)
def C280 (p0:Addr)(w:World)(K:Value->World->Prop):Prop:=
 ab Tryz.prog 273 #[.pointer (some p0),.func (.func 304) #[] #[]] w (.v (.one .str)) (fun(x1:ByteArray) w2=>ab Tryz.prog 303 #[.string x1] w2 (.aP [.one (.int .i64),.one .bool]) (fun(x3:Int×Bool×Unit) w4=>K (.int .i64 x3.1) w4))
def pl280:aB:=.auto
theorem c280 (p0:Addr)(w:World)(K:Value->World->Prop)(h:C280 p0 w K):Ret Tryz.prog 280 #[.pointer (some p0)] w K:=aC (by kernel_rfl) Tryz.func280 (p:=pl280) (Eq.mpr (by kernel_rfl) h)
def C304 (p0:ByteArray)(w:World)(K:Value->World->Prop):Prop:=
 ab Tryz.prog 303 #[.string p0] w (.aP [.one (.int .i64),.one .bool]) (fun(x1:Int×Bool×Unit) w2=>aa x1.2.1
 (aa (decide (x1.1 >= 0))
 (K (.bool (decide (x1.1<=10000))) w2)
 (K (.bool false) w2))
 (K (.bool false) w2))
def pl304:aB:=.auto
theorem c304 (p0:ByteArray)(w:World)(K:Value->World->Prop)(h:C304 p0 w K):Ret Tryz.prog 304 #[.string p0] w K:=aC (by kernel_rfl) Tryz.func304 (p:=pl304) (Eq.mpr (by kernel_rfl) h)
def C278 (p0:Addr)(p1:Int)(w:World)(K:Value->World->Prop):Prop:=
 ab Tryz.prog 256 #[.pointer (some p0),.int .i64 p1] w (.v (.one .raw)) (fun(x1:Value) w2=>ab Tryz.prog 275 #[.pointer (some p0),.string (⟨#[44]⟩:ByteArray)] w2 (.aP []) (fun(x3:Unit) w4=>ab Tryz.prog 256 #[.pointer (some p0),.int .i64 p1] w4 (.v (.one .raw)) (fun(x5:Value) w6=>ab Tryz.prog 275 #[.pointer (some p0),.string (⟨#[41]⟩:ByteArray)] w6 (.aP []) (fun(x7:Unit) w8=>K (.tuple #[x1,x5]) w8))))
def pl278:aB:=.auto
theorem c278 (p0:Addr)(p1:Int)(w:World)(K:Value->World->Prop)(h:C278 p0 p1 w K):Ret Tryz.prog 278 #[.pointer (some p0),.int .i64 p1] w K:=aC (by kernel_rfl) Tryz.func278 (p:=pl278) (Eq.mpr (by kernel_rfl) h)
def C277 (p0:Addr)(p1:Int)(w:World)(K:Value->World->Prop):Prop:=
 ab Tryz.prog 256 #[.pointer (some p0),.int .i64 p1] w (.v (.one .raw)) (fun(x1:Value) w2=>ab Tryz.prog 275 #[.pointer (some p0),.string (⟨#[41]⟩:ByteArray)] w2 (.aP []) (fun(x3:Unit) w4=>K x1 w4))
def pl277:aB:=.auto
theorem c277 (p0:Addr)(p1:Int)(w:World)(K:Value->World->Prop)(h:C277 p0 p1 w K):Ret Tryz.prog 277 #[.pointer (some p0),.int .i64 p1] w K:=aC (by kernel_rfl) Tryz.func277 (p:=pl277) (Eq.mpr (by kernel_rfl) h)
def C256 (p0:Addr)(p1:Int)(w:World)(K:Value->World->Prop):Prop:=
 ab Tryz.prog 272 #[.pointer (some p0),.int .i64 p1] w (.v (.one .bool)) (fun(x1:Bool) w2=>aa x1
 (K .nilIface w2)
 (ab Tryz.prog 273 #[.pointer (some p0),.func (.func 274) #[] #[]] w2 (.v (.one .str)) (fun(x3:ByteArray) w4=>aa (x3.toList==(⟨#[]⟩:ByteArray).toList)
 (K (.iface 235 (.agg #[])) w4)
 (aa (x3.toList==(⟨#[122,101,114,111]⟩:ByteArray).toList)
 (K (.iface 235 (.agg #[])) w4)
 (ab Tryz.prog 275 #[.pointer (some p0),.string (⟨#[40]⟩:ByteArray)] w4 (.aP []) (fun(x5:Unit) w6=>aa (x3.toList==(⟨#[111,110,101]⟩:ByteArray).toList)
 (ab Tryz.prog 276 #[.pointer (some p0)] w6 (.v (.one .str)) (fun(x7:ByteArray) w8=>aq (.cells #[.string (⟨#[]⟩:ByteArray)] 216) w8 (fun g9 aK=>av (ad g9) [.string x7] aK (fun aR=>ab Tryz.prog 275 #[.pointer (some p0),.string (⟨#[41]⟩:ByteArray)] aR (.aP []) (fun(bw:Unit) aW=>az [.str] (ad g9) aW (fun(bn:ByteArray×Unit)=>K (.iface 216 (.agg #[.string bn.1])) aW))))))
 (aa (x3.toList==(⟨#[103,105,118,101]⟩:ByteArray).toList)
 (ab Tryz.prog 277 #[.pointer (some p0),.int .i64 (IntKind.i64.wrap (p1+1))] w6 (.v (.one .raw)) (fun(bm:Value) br=>iu bm (K (.iface 237 (.agg #[bm])) br)))
 (aa (x3.toList==(⟨#[97,110,100]⟩:ByteArray).toList)
 (ab Tryz.prog 278 #[.pointer (some p0),.int .i64 (IntKind.i64.wrap (p1+1))] w6 (.aP [.one .raw,.one .raw]) (fun(aX:Value×Value×Unit) bx=>iu aX.1 (iu aX.2.1 (K (.iface 239 (.agg #[aX.1,aX.2.1])) bx))))
 (aa (x3.toList==(⟨#[111,114]⟩:ByteArray).toList)
 (ab Tryz.prog 276 #[.pointer (some p0)] w6 (.v (.one .str)) (fun(bt:ByteArray) bz=>aq (.cells #[.string (⟨#[]⟩:ByteArray),.nilIface,.nilIface] 241) bz (fun g21 bA=>av (ad g21) [.string bt,.nilIface,.nilIface] bA (fun dW=>ab Tryz.prog 275 #[.pointer (some p0),.string (⟨#[44]⟩:ByteArray)] dW (.aP []) (fun(cN:Unit) dn=>ab Tryz.prog 278 #[.pointer (some p0),.int .i64 (IntKind.i64.wrap (p1+1))] dn (.aP [.one .raw,.one .raw]) (fun(dk:Value×Value×Unit) eM=>iu dk.1 (av ((ad g21).add 1) [dk.1] eM (fun bV=>iu dk.2.1 (av ((ad g21).add 2) [dk.2.1] bV (fun eg=>az [.str,.raw,.raw] (ad g21) eg (fun(dX:ByteArray×Value×Value×Unit)=>K (.iface 241 (.agg #[.string dX.1,dX.2.1,dX.2.2.1])) eg)))))))))))
 (aa (x3.toList==(⟨#[115,99,97,108,101]⟩:ByteArray).toList)
 (ab Tryz.prog 279 #[.pointer (some p0),.int .i64 (IntKind.i64.wrap (p1+1))] w6 (.v (.one .raw)) (fun(bX:Value) cZ=>iu bX (aq (.cells #[.nilIface,.nilIface] 245) cZ (fun Fb fT=>av (ad Fb) [bX,.nilIface] fT (fun fz=>ab Tryz.prog 275 #[.pointer (some p0),.string (⟨#[44]⟩:ByteArray)] fz (.aP []) (fun(dO:Unit) dq=>ab Tryz.prog 277 #[.pointer (some p0),.int .i64 (IntKind.i64.wrap (p1+1))] dq (.v (.one .raw)) (fun(dN:Value) gg=>iu dN (av ((ad Fb).add 1) [dN] gg (fun ef=>az [.raw,.raw] (ad Fb) ef (fun(fN:Value×Value×Unit)=>K (.iface 245 (.agg #[fN.1,fN.2.1])) ef))))))))))
 (aa (x3.toList==(⟨#[119,104,101,110]⟩:ByteArray).toList)
 (ab Tryz.prog 280 #[.pointer (some p0)] w6 (.v (.one (.int .i64))) (fun(jD:Int) k8=>aq (.cells #[.int .i64 0,.nilIface] 247) k8 (fun vQ lM=>av (ad vQ) [.int .i64 jD,.nilIface] lM (fun gN=>ab Tryz.prog 275 #[.pointer (some p0),.string (⟨#[44]⟩:ByteArray)] gN (.aP []) (fun(fO:Unit) gu=>ab Tryz.prog 277 #[.pointer (some p0),.int .i64 (IntKind.i64.wrap (p1+1))] gu (.v (.one .raw)) (fun(fR:Value) mR=>iu fR (av ((ad vQ).add 1) [fR] mR (fun iA=>az [.int .i64,.raw] (ad vQ) iA (fun(qc:Int×Value×Unit)=>K (.iface 247 (.agg #[.int .i64 qc.1,qc.2.1])) iA)))))))))
 (ab Tryz.prog 279 #[.pointer (some p0),.int .i64 (IntKind.i64.wrap (p1+1))] w6 (.v (.one .raw)) (fun(jz:Value) jV=>iu jz (aq (.cells #[.nilIface,.nilIface,.nilIface] 249) jV (fun Bs pd=>av (ad Bs) [jz,.nilIface,.nilIface] pd (fun nz=>ab Tryz.prog 275 #[.pointer (some p0),.string (⟨#[44]⟩:ByteArray)] nz (.aP []) (fun(ny:Unit) og=>ab Tryz.prog 278 #[.pointer (some p0),.int .i64 (IntKind.i64.wrap (p1+1))] og (.aP [.one .raw,.one .raw]) (fun(nt:Value×Value×Unit) tV=>iu nt.1 (av ((ad Bs).add 1) [nt.1] tV (fun kv=>iu nt.2.1 (av ((ad Bs).add 2) [nt.2.1] kv (fun su=>az [.raw,.raw,.raw] (ad Bs) su (fun(yi:Value×Value×Value×Unit)=>K (.iface 249 (.agg #[yi.1,yi.2.1,yi.2.2.1])) su)))))))))))))))))))))))
def pl256:aB:=.auto
theorem c256 (p0:Addr)(p1:Int)(w:World)(K:Value->World->Prop)(h:C256 p0 p1 w K):Ret Tryz.prog 256 #[.pointer (some p0),.int .i64 p1] w K:=aC (by kernel_rfl) Tryz.func256 (p:=pl256) (Eq.mpr (by kernel_rfl) h)
def C257 (p0:Addr)(w:World)(K:Value->World->Prop):Prop:=
 ae .ah (p0.add 0) w (fun(x1:ao)=>aa (decide ((x1.2.1:Int) > 0))
 (ab Tryz.prog 281 #[.pointer (some p0),.int .i64 2] w (.aP []) (fun(x2:Unit) w3=>K (.tuple #[]) w3))
 (K (.tuple #[]) w))
def pl257:aB:=.auto
theorem c257 (p0:Addr)(w:World)(K:Value->World->Prop)(h:C257 p0 w K):Ret Tryz.prog 257 #[.pointer (some p0)] w K:=aC (by kernel_rfl) Tryz.func257 (p:=pl257) (Eq.mpr (by kernel_rfl) h)
def C301 (p0:ByteArray)(w:World)(K:Value->World->Prop):Prop:=
 ab Tryz.prog 303 #[.string p0] w (.aP [.one (.int .i64),.one .bool]) (fun(x1:Int×Bool×Unit) w2=>aa x1.2.1
 (K (.bool true) w2)
 (aa (p0.toList==(⟨#[102,105,120]⟩:ByteArray).toList)
 (K (.bool true) w2)
 (aa (p0.toList==(⟨#[97,100,100]⟩:ByteArray).toList)
 (K (.bool true) w2)
 (aa (p0.toList==(⟨#[110,101,103]⟩:ByteArray).toList)
 (K (.bool true) w2)
 (aa (p0.toList==(⟨#[109,117,108]⟩:ByteArray).toList)
 (K (.bool true) w2)
 (K (.bool (p0.toList==(⟨#[109,97,120]⟩:ByteArray).toList)) w2))))))
def pl301:aB:=.auto
theorem c301 (p0:ByteArray)(w:World)(K:Value->World->Prop)(h:C301 p0 w K):Ret Tryz.prog 301 #[.string p0] w K:=aC (by kernel_rfl) Tryz.func301 (p:=pl301) (Eq.mpr (by kernel_rfl) h)
def C274 (p0:ByteArray)(w:World)(K:Value->World->Prop):Prop:=
 aa (p0.toList==(⟨#[122,101,114,111]⟩:ByteArray).toList)
 (aa (p0.toList==(⟨#[122,101,114,111]⟩:ByteArray).toList)
 (K (.bool true) w)
 (K (.bool false) w))
 (aa (p0.toList==(⟨#[111,110,101]⟩:ByteArray).toList)
 (aa (p0.toList==(⟨#[111,110,101]⟩:ByteArray).toList)
 (K (.bool true) w)
 (K (.bool false) w))
 (aa (p0.toList==(⟨#[103,105,118,101]⟩:ByteArray).toList)
 (aa (p0.toList==(⟨#[103,105,118,101]⟩:ByteArray).toList)
 (K (.bool true) w)
 (K (.bool false) w))
 (aa (p0.toList==(⟨#[97,110,100]⟩:ByteArray).toList)
 (aa (p0.toList==(⟨#[97,110,100]⟩:ByteArray).toList)
 (K (.bool true) w)
 (K (.bool false) w))
 (aa (p0.toList==(⟨#[111,114]⟩:ByteArray).toList)
 (aa (p0.toList==(⟨#[111,114]⟩:ByteArray).toList)
 (K (.bool true) w)
 (K (.bool false) w))
 (aa (p0.toList==(⟨#[115,99,97,108,101]⟩:ByteArray).toList)
 (aa (p0.toList==(⟨#[115,99,97,108,101]⟩:ByteArray).toList)
 (K (.bool true) w)
 (K (.bool false) w))
 (aa (p0.toList==(⟨#[119,104,101,110]⟩:ByteArray).toList)
 (aa (p0.toList==(⟨#[119,104,101,110]⟩:ByteArray).toList)
 (K (.bool true) w)
 (K (.bool false) w))
 (aa (p0.toList==(⟨#[105,102]⟩:ByteArray).toList)
 (K (.bool true) w)
 (K (.bool false) w))))))))
def pl274:aB:=.auto
theorem c274 (p0:ByteArray)(w:World)(K:Value->World->Prop)(h:C274 p0 w K):Ret Tryz.prog 274 #[.string p0] w K:=aC (by kernel_rfl) Tryz.func274 (p:=pl274) (Eq.mpr (by kernel_rfl) h)
def C255 (p0:ByteArray)(w:World)(K:Value->World->Prop):Prop:=
 ab Tryz.prog 270 #[.string p0] w (.v (.one (.int .i64))) (fun(x1:Int) w2=>aq (.cells #[.slice none 0 0,.int .i64 (IntKind.i64.wrap (x1+1)),.int .i64 0,.int .i64 0] 410) w2 (fun g3 w4=>aa (decide ((p0.size:Int) > 1000))
 (ay ((ad g3).add 3) (.int .i64 5) w4 (fun w5=>K (.pointer (some (ad g3))) w5))
 (ab Tryz.prog 271 #[.string p0] w4 (.aP [.one .ah,.one (.int .i64)]) (fun(x6:ao×Int×Unit) w7=>aa (decide (x6.2.1 > 0))
 (ay ((ad g3).add 3) (.int .i64 2) w7 (fun w8=>ay ((ad g3).add 2) (.int .i64 x6.2.1) w8 (fun w9=>ay ((ad g3).add 0) (.slice x6.1.1 x6.1.2.1 x6.1.2.2) w9 (fun aK=>K (.pointer (some (ad g3))) aK))))
 (ay ((ad g3).add 0) (.slice x6.1.1 x6.1.2.1 x6.1.2.2) w7 (fun aR=>K (.pointer (some (ad g3))) aR))))))
def pl255:aB:=.auto
theorem c255 (p0:ByteArray)(w:World)(K:Value->World->Prop)(h:C255 p0 w K):Ret Tryz.prog 255 #[.string p0] w K:=aC (by kernel_rfl) Tryz.func255 (p:=pl255) (Eq.mpr (by kernel_rfl) h)
def C230 (p0:ByteArray)(w:World)(K:Value->World->Prop):Prop:=
 ab Tryz.prog 255 #[.string p0] w (.v (.one .ptr)) (fun(x1:Option Addr) w2=>ab Tryz.prog 256 #[.pointer x1,.int .i64 0] w2 (.v (.one .raw)) (fun(x3:Value) w4=>ab Tryz.prog 257 #[.pointer x1] w4 (.aP []) (fun(x5:Unit) w6=>j7 x1 (fun a7=>ae (.int .i64) (a7.add 3) w6 (fun(x8:Int)=>aa (x8==0)
 (ab Tryz.prog 170 #[x3] w6 (.v (.one (.int .i64))) (fun(x9:Int) aK=>j7 x1 (fun Fe=>ay (Fe.add 3) (.int .i64 x9) aK (fun aO=>j7 x1 (fun Ff=>ae (.int .i64) (Ff.add 3) aO (fun(bn:Int)=>aa (bn != 0)
 (aH aO (fun bL=>j7 x1 (fun xO=>ae (.int .i64) (xO.add 2) bL (fun(aX:Int)=>j7 x1 (fun uv=>ae (.int .i64) (uv.add 3) bL (fun(bt:Int)=>K (.tuple #[.nilIface,.int .i64 aX,.int .i64 bt]) bL))))))
 (K (.tuple #[x3,.int .i64 0,.int .i64 0]) aO)))))))
 (j7 x1 (fun a20=>ae (.int .i64) (a20.add 3) w6 (fun(b9:Int)=>aa (b9 != 0)
 (aH w6 (fun bA=>j7 x1 (fun a23=>ae (.int .i64) (a23.add 2) bA (fun(cN:Int)=>j7 x1 (fun TW=>ae (.int .i64) (TW.add 3) bA (fun(dk:Int)=>K (.tuple #[.nilIface,.int .i64 cN,.int .i64 dk]) bA))))))
 (K (.tuple #[x3,.int .i64 0,.int .i64 0]) w6)))))))))
def pl230:aB:=(.seq .auto (.seq .auto (.seq .auto (.seq .auto (.seq .auto (.seq (.seq .auto (.cond (.seq .still .auto) .auto)) .auto))))))
theorem c230 (p0:ByteArray)(w:World)(K:Value->World->Prop)(h:C230 p0 w K):Ret Tryz.prog 230 #[.string p0] w K:=aC (by kernel_rfl) Tryz.func230 (p:=pl230) (Eq.mpr (by kernel_rfl) h)
theorem Bt:∀ (R:List Int) (acc:List dB) (at_:Int) (run:Bool),(eh acc at_ run R).1.length<=acc.length+1+R.length
 | [],acc,at_,run=>by show acc.length<=_;simp only[List.length_nil];omega
 | r::R,acc,at_,run=>by
  have h1:=Bt R (qh acc (enc r)) (at_+1) true;have h2:=Bt R (acc++[(enc r,at_+1)]) (at_+1) (kd r==97);have h3:=Bt R acc (at_+1) false;have e1:(qh acc (enc r)).length<=acc.length+1:=by unfold qh;simp
  simp only[List.length_append,List.length_cons,List.length_nil] at h2 ⊢;unfold eh;split
  ·simp
  split
  ·omega
  split
  ·omega
  ·omega
theorem Fg (o:Ob):bo o<=(jR o).length:=by
 induction o<;>simp_all [bo,jR]<;>omega
theorem TX (t:Tm):aJ t<=(iD t).length:=by
 induction t<;>simp_all [aJ,iD]<;>(try have:=Fg)<;>first | omega | (rename_i o _ _;have:=Fg o;omega) | (rename_i o _ _ _ _;have:=Fg o;omega)
theorem TY {x:dB}{l:List dB}(h:x∈l):x.1.length<=jS (l.map Prod.fst):=by
 induction l with
 | nil=>cases h
 | cons y l ih=>
  have e:jS ((y::l).map Prod.fst)=y.1.length+jS (l.map Prod.fst):=by simp[jS]
  rw[e]
  rcases List.mem_cons.1 h with rfl | h
  ·omega
  ·have:=ih h;omega
theorem TZ {bs:List UInt8}(h:bs.length<=1000):∀ x∈(eh [] 0 false (cA bs)).1,x.1.length<=10000:=fun x hx=>by
 have h1:=TY hx;have h2:=Bc (cA bs) [] 0 false;have h3:=Q7 (cA bs);have h4:=DN bs;have h5:jS ((([]:List dB)).map Prod.fst)=0:=rfl;omega
theorem T0 (R:List Int):reads R<=R.length:=by unfold reads;exact(List.takeWhile_sublist _).length_le
theorem LJ (s:ByteArray):∀ (fuel pos:Nat),s.size - pos<=fuel->Lib.runeCountFrom s fuel pos=(cA (s.data.toList.drop pos)).length
 | 0,pos,h=>by
  have:s.data.toList.drop pos=[]:=List.drop_eq_nil_of_le (by rw[xL];omega);rw[this];rfl
 | f+1,pos,h=>by
  unfold Lib.runeCountFrom
  by_cases hp:pos<s.size
  ·rw[if_pos hp]
   have aA:s.data.toList.drop pos≠[]:=fun t=>by
    have:=congrArg List.length t;rw[List.length_drop,xL,List.length_nil] at this;omega
   have hw:=vD (s.data.toList.drop pos);rw[xM _ aA,DL,LJ s f _ (by omega),List.length_cons,List.drop_drop];omega
  ·rw[if_neg hp]
   have:s.data.toList.drop pos=[]:=List.drop_eq_nil_of_le (by rw[xL];omega);rw[this];rfl
namespace Vc
theorem av.one {b i:Nat}{v:Value}{w:World}{K:World->Prop}{cs:Array Value}{T:TypeId}(hb:w.heap[b]? = some (.cells cs T (0,0)))(hi:i<cs.size)(h1:bJ v=true)
  (h:∀ w1,w1.heap[b]? = some (.cells (cs.setIfInBounds i v) T (0,0))->Fr (only b) w w1->w1.heap.size=w.heap.size->K w1):av ((⟨b,0,none⟩:Addr).add i) [v] w K:=by
 have e:((⟨b,0,none⟩:Addr).add i).add 0=⟨b,i,none⟩:=by rw[dw,dw,Nat.zero_add,Nat.add_zero]
 refine⟨⟨h1,by rw[e,oT hb];simp[hi],by rw[e];exact xE hb,trivial⟩,?_⟩;show K (w.setCell (((⟨b,0,none⟩:Addr).add i).add 0) v);rw[e];exact h _ (heap_setCell_same hb) (xD _ _ _ _) (by simp[World.setCell])
end Vc
theorem T1 (x y:List UInt8):((str x).toList==(str y).toList)=(x==y):=by
 rw[iv]
 by_cases h:x=y<;>simp[h]
theorem aa.str {y z:List UInt8}{A B:Prop}(h:y=z->A)(k:y≠z->B):aa ((str y).toList==(str z).toList) A B:=by
 rw[iv];exact aa.dec h k
def T2 (sl:Sl)(fin a e:Int):Obj:=.cells #[.slice sl.1 sl.2.1 sl.2.2,.int .i64 fin,.int .i64 a,.int .i64 e] 410 (0,0)
def du (w:World)(m b:Nat)(fin:Int)(s:RS):Prop:=∃ sl:Sl,w.heap[b]? = some (T2 sl fin s.at_ s.e)/\mH w sl s.l/\(¬ au sl b/\b<m/\m<=w.heap.size/\∀ k,au sl k->k<m)/\∀ x∈s.l,x.1.length<=10000
theorem du.lt {w:World}{m b:Nat}{fin:Int}{s:RS}(h:du w m b fin s):b<m/\m<=w.heap.size:=by
 obtain⟨sl,hb,_,⟨_,h1,h2,_⟩,_⟩:=h;exact⟨h1,h2⟩
theorem du.ag {w w':World}{m b:Nat}{fin:Int}{s:RS}(h:du w m b fin s){S:Nat->Prop}(f:Fr S w w')(hn:∀ k,k<m->¬ S k):du w' m b fin s:=by
 obtain⟨sl,hb,hs,⟨h1,h2,h3,h4⟩,h5⟩:=h;exact⟨sl,f.ag hb (hn b h2),hs.ag f (fun k U=>hn k (h4 k U)),⟨h1,h2,Nat.le_trans h3 f.size,h4⟩,h5⟩
theorem du.af {w w':World}{m b:Nat}{fin:Int}{s:RS}(h:du w m b fin s)(f:Fr none1 w w'):du w' m b fin s:=h.ag f (fun _ _ t=>t)
theorem T3 {w:World}{v:Sl}{x:dB}{l:List dB}(h:mH w v (x::l)){K:Option Addr->Nat->Nat->Prop}(k:∀ u:Sl,mH w u l->(∀ j,au u j->au v j)->K u.1 u.2.1 u.2.2):eu v.1 v.2.2 1 (v.2.1:Int) (v.2.2:Int) 2 K:=by
 obtain⟨hs,hl⟩:=h;simp only[List.length_cons] at hl;have e:mG (x::l)=[.string (str x.1),.int .i64 x.2]++mG l:=rfl
 rcases hs with⟨rfl,jb⟩ | ⟨g,off,cs,hv,hb,hle,hc,hn,he⟩
 ·dsimp only at hl;omega
 ·refine⟨by omega,by omega,by omega,by omega,?_⟩
  rw[hv];have hlen:=ur l;have D1:=ur (x::l);simp only[List.length_cons] at D1
  by_cases h1:(v.2.2:Int)=1
  ·rw[if_pos h1]
   have:l=[]:=List.eq_nil_of_length_eq_zero (by omega);subst this;refine k (some ⟨g,off,none⟩,((v.2.1:Int) - 1).toNat,((v.2.2:Int) - 1).toNat) ⟨.inr ⟨g,off,cs,rfl,hb,by dsimp only;omega,by dsimp only;omega,?_,fun i hi=>?_⟩,?_⟩ (fun j hj=>?_)
   ·dsimp only;rw[hlen,List.length_nil];omega
   ·rw[hlen,List.length_nil] at hi;omega
   ·dsimp only;rw[List.length_nil];omega
   ·obtain⟨a,ha,rfl⟩:=hj;injection ha with ha;subst ha;exact⟨_,hv,rfl⟩
  ·rw[if_neg h1]
   have ea:(some (⟨g,off,none⟩:Addr)).map (·.add (Int.toNat 1 * 2))=some ⟨g,off+2,none⟩:=by
    show some ((⟨g,off,none⟩:Addr).add (1 * 2))=_;rw[dw]
   rw[ea];refine k (some ⟨g,off+2,none⟩,((v.2.1:Int) - 1).toNat,((v.2.2:Int) - 1).toNat) ⟨.inr ⟨g,off+2,cs,rfl,hb,by dsimp only;omega,by dsimp only;omega,?_,fun i hi=>?_⟩,?_⟩ (fun j hj=>?_)
   ·dsimp only;rw[hlen];omega
   ·rw[hlen] at hi
    have:=he (i+2) (by omega);rw[show off+2+i=off+(i+2) by omega,this,e];rfl
   ·dsimp only;omega
   ·obtain⟨a,ha,rfl⟩:=hj;injection ha with ha;subst ha;exact⟨_,hv,rfl⟩
theorem T4 {w:World}{m b:Nat}{fin:Int}{s:RS}(h:du w m b fin s):Ret Tryz.prog 305 #[.pointer (some ⟨b,0,none⟩)] w fun r w'=>r=.int .i64 (EJ fin s)/\w=w':=by
 refine c305 _ w _ ?_;obtain⟨sl,hb,hs,_⟩:=h;have hl:=hs.len;refine ae.ai hb (x:=sl) rfl ?_;unfold EJ;cases jE:s.l with
 | nil=>
  rw[jE] at hl;refine aa.no (by rw[hl];decide) (ae.ai hb (x:=fin) rfl ⟨rfl,rfl⟩)
 | cons x l=>
  rw[jE] at hl hs;simp only[List.length_cons] at hl;refine aa.yes (by omega) (ae.ai hb (x:=sl) rfl ?_);exact A1 hs (i:=0) (by omega) (by omega) (x:=x) rfl fun a _ k2 _=>k2 _ ⟨rfl,rfl⟩
theorem Fh {w:World}{m b:Nat}{fin:Int}{s:RS}(h:du w m b fin s)(c:Int):Ret Tryz.prog 281 #[.pointer (some ⟨b,0,none⟩),.int .i64 c] w fun r w'=>r=.tuple #[]/\du w' m b fin (ky fin c s)/\Fr (only b) w w':=by
 refine c281 _ c w _ ?_;obtain⟨sl,hb,hs,kK,hsz⟩:=id h;refine ae.ai hb (x:=s.e) rfl ?_;unfold ky;refine aa.eq (fun he=>?_) (fun he=>?_)
 ·rw[if_pos he]
  refine ab.of (T4 h) ?_;rintro _ _ ⟨rfl,rfl⟩;refine⟨_,rfl,?_⟩;refine ay.ai hb (by show 0+3<4;omega) rfl fun w1 ar f1 _=>?_;refine ay.ai ar (by show 0+2<4;omega) rfl fun w2 aM f2 _=>?_;have f:=f1.trans f2;exact⟨rfl,⟨sl,aM,hs.ag f (fun k U t=>kK.1 (by have:k=b:=t;rw[<- this];exact U)),⟨kK.1,kK.2.1,Nat.le_trans kK.2.2.1 f.size,kK.2.2.2⟩,hsz⟩,f⟩
 ·rw[if_neg he]
  exact⟨rfl,h,Fr.refl _ _⟩
theorem yP {w:World}{m b:Nat}{fin:Int}{s:RS}(h:du w m b fin s)(v:Value)(right:List UInt8->Bool)
  (hr:∀ x:List UInt8,x.length<=10000->∀ K:Bool->World->Prop,(∀ w1,Fr none1 w w1->K (right x) w1)->j9 Tryz.prog v [.string (str x)] (.v (.one .bool)) w K) :
  Ret Tryz.prog 273 #[.pointer (some ⟨b,0,none⟩),v] w fun r w'=>r=.string (str (bT fin right s).1)/\du w' m b fin (bT fin right s).2/\Fr (only b) w w':=by
 refine c273 _ v w _ ?_;obtain⟨sl,hb,hs,kK,hsz⟩:=id h;have hl:=hs.len
 rcases s with⟨l,a,e⟩
 dsimp only at hb hs hsz hl;refine bQ.of (fun c w'=>c.1=(decide (e=0)&&match l with | []=>true | x::_=>!right x.1)/\Fr none1 w w') ?_ ?_
 ·refine ae.ai hb (x:=e) rfl ?_
  refine aa.eq (fun he=>ae.ai hb (x:=sl) rfl ?_) (fun he=>⟨by simp[he],Fr.refl _ _⟩);cases l with
  | nil=>exact aa.t (by rw[hl];rfl) ⟨by simp[he],Fr.refl _ _⟩
  | cons x l=>
   simp only[List.length_cons] at hl;refine aa.f (by rw[hl];exact beq_eq_false_iff_ne.2 (by omega)) (ae.ai hb (x:=sl) rfl ?_);refine A1 hs (i:=0) (by omega) (by omega) (x:=x) rfl fun q k1 _ _=>k1 _ ?_;exact hr x.1 (hsz x (by simp)) _ fun w1 f1=>⟨by simp[he],f1⟩
 rintro _ ⟨c,_⟩ w3 ⟨hc,f3⟩;dsimp only at hc ⊢;have h3:=h.af f3;refine aa.by (fun e1=>?_) (fun e1=>?_)
 ·rw[e1] at hc
  have rf:=Bool.and_eq_true_iff.1 hc.symm;have he:e=0:=of_decide_eq_true rf.1;subst he;refine ab.of (Fh h3 2) ?_;rintro _ w4 ⟨rfl,h4,f4⟩;refine⟨(),rfl,?_⟩;have ht:bT fin right ⟨l,a,0⟩=([],ky fin 2 ⟨l,a,0⟩):=by
   cases l with
   | nil=>exact KW
   | cons x l=>exact KV (by simpa using rf.2)
  rw[ht];obtain⟨sl4,dm,LK⟩:=id h4;refine ae.ai dm (x:=2) rfl (aa.t rfl ?_);exact⟨rfl,h4,Fr.eG f3 f4⟩
 ·obtain⟨LL,ba,ox,Bw,_⟩:=id h3
  refine ae.ai ba (x:=e) rfl ?_;refine aa.ne (fun he=>?_) (fun he=>?_)
  ·rw[KX (s:=⟨l,a,e⟩) he]
   exact⟨rfl,h3,Fr.eG f3 (Fr.refl _ _)⟩
  ·subst he
   rw[e1] at hc;cases l with
   | nil=>simp at hc
   | cons x l=>
    have hx:right x.1=true:=by simpa using hc
    rw[EL hx];have T5:=ox.len;simp only[List.length_cons] at T5;refine ae.ai ba (x:=LL) rfl ?_;refine A1 ox (i:=0) (by omega) (by omega) (x:=x) rfl fun q k1 _ _=>k1 _ ?_;refine ae.ai ba (x:=LL) rfl ?_;refine T3 ox fun u hu lQ=>?_;refine ay.ai ba (by show 0+0<4;omega) rfl fun w4 dm f4 _=>?_;have LM:¬ au u b:=fun t=>Bw.1 (lQ b t);exact⟨rfl,⟨u,dm,hu.ag f4 (fun k U t=>LM (by have:k=b:=t;rw[<- this];exact U)),⟨LM,Bw.2.1,Nat.le_trans Bw.2.2.1 f4.size,fun k U=>Bw.2.2.2 k (lQ k U)⟩,fun y hy=>hsz y (by simp[hy])⟩,Fr.eG f3 f4⟩
theorem mS {w:World}{m b:Nat}{fin:Int}{s:RS}(h:du w m b fin s)(x:List UInt8):Ret Tryz.prog 275 #[.pointer (some ⟨b,0,none⟩),.string (str x)] w fun r w'=>r=.tuple #[]/\du w' m b fin (dd fin x s)/\Fr (only b) w w':=by
 refine c275 _ (str x) w _ ?_;refine aq.of fun g w1 hg ar f1 _=>?_;refine ab.of (yP (h.af f1) _ (fun y=>decide (y=x)) fun y _ K hK=>?_) ?_
 ·have hf:Ret Tryz.prog 300 #[.string (str y),.pointer (some ⟨g,0,none⟩)] w1 fun r w'=>r=.bool (decide (y=x))/\w1=w':=by
   refine c300 (str y) _ w1 _ ?_;refine ae.of ar (x:=str x) rfl ?_;rw[iv];exact⟨rfl,rfl⟩
  refine lC (by kernel_rfl) Tryz.func300 (by kernel_rfl) (hf.mono ?_);rintro _ _ ⟨rfl,rfl⟩;exact⟨_,rfl,hK _ (Fr.refl _ _)⟩
 ·rintro _ w2 ⟨rfl,h2,f2⟩
  exact⟨_,rfl,rfl,h2,Fr.eG f1 f2⟩
theorem Fi {w:World}{m b:Nat}{fin:Int}{s:RS}(h:du w m b fin s):Ret Tryz.prog 276 #[.pointer (some ⟨b,0,none⟩)] w fun r w'=>r=.string (str (bT fin eI s).1)/\du w' m b fin (bT fin eI s).2/\Fr (only b) w w':=by
 refine c276 _ w _ ?_;refine ab.of (yP h _ eI fun y _ K hK=>?_) ?_
 ·refine lC (by kernel_rfl) Tryz.func169 (by kernel_rfl) ((tT y w).mono ?_)
  rintro _ w1 ⟨rfl,f1⟩;exact⟨_,rfl,hK w1 f1⟩
 ·rintro _ w2 ⟨rfl,h2,f2⟩
  exact⟨_,rfl,rfl,h2,f2⟩
theorem T6 (y:List UInt8)(hl:y.length<=10000)(w:World):Ret Tryz.prog 301 #[.string (str y)] w fun r w'=>r=.bool (gE y)/\Fr none1 w w':=by
 refine c301 (str y) w _ ?_;refine ab.of (A9 y (by omega) w) ?_;rintro _ w1 ⟨rfl,f1⟩;refine⟨(_,_,()),rfl,?_⟩;unfold gE;refine aa.by (fun e=>?_) (fun e=>?_)
 ·have e:(fB y).2=true:=e
  rw[e];exact⟨rfl,f1⟩
 have e:(fB y).2=false:=e;rw[e,Bool.false_or];refine aa.str (z:=[102,105,120]) (fun e=>⟨by rw[e];rfl,f1⟩) (fun e=>?_);rw[beq_eq_false_iff_ne.2 e,Bool.false_or];refine aa.str (z:=[97,100,100]) (fun e=>⟨by rw[e];rfl,f1⟩) (fun e=>?_);rw[beq_eq_false_iff_ne.2 e,Bool.false_or];refine aa.str (z:=[110,101,103]) (fun e=>⟨by rw[e];rfl,f1⟩) (fun e=>?_);rw[beq_eq_false_iff_ne.2 e,Bool.false_or];refine aa.str (z:=[109,117,108]) (fun e=>⟨by rw[e];rfl,f1⟩) (fun e=>?_);rw[beq_eq_false_iff_ne.2 e,Bool.false_or,<- T1 y [109,97,120]];exact⟨rfl,f1⟩
theorem T7 (y:List UInt8)(w:World):Ret Tryz.prog 274 #[.string (str y)] w fun r w'=>r=.bool (fV y)/\w=w':=by
 refine c274 (str y) w _ ?_;unfold fV;refine aa.str (z:=[122,101,114,111]) (fun e=>aa.str (z:=[122,101,114,111]) (fun _=>⟨by rw[e];rfl,rfl⟩) (fun k=>absurd e k)) (fun e=>?_);rw[beq_eq_false_iff_ne.2 e,Bool.false_or];refine aa.str (z:=[111,110,101]) (fun e=>aa.str (z:=[111,110,101]) (fun _=>⟨by rw[e];rfl,rfl⟩) (fun k=>absurd e k)) (fun e=>?_);rw[beq_eq_false_iff_ne.2 e,Bool.false_or];refine aa.str (z:=[103,105,118,101]) (fun e=>aa.str (z:=[103,105,118,101]) (fun _=>⟨by rw[e];rfl,rfl⟩) (fun k=>absurd e k)) (fun e=>?_);rw[beq_eq_false_iff_ne.2 e,Bool.false_or];refine aa.str (z:=[97,110,100]) (fun e=>aa.str (z:=[97,110,100]) (fun _=>⟨by rw[e];rfl,rfl⟩) (fun k=>absurd e k)) (fun e=>?_);rw[beq_eq_false_iff_ne.2 e,Bool.false_or];refine aa.str (z:=[111,114]) (fun e=>aa.str (z:=[111,114]) (fun _=>⟨by rw[e];rfl,rfl⟩) (fun k=>absurd e k)) (fun e=>?_);rw[beq_eq_false_iff_ne.2 e,Bool.false_or];refine aa.str (z:=[115,99,97,108,101]) (fun e=>aa.str (z:=[115,99,97,108,101]) (fun _=>⟨by rw[e];rfl,rfl⟩) (fun k=>absurd e k)) (fun e=>?_);rw[beq_eq_false_iff_ne.2 e,Bool.false_or];refine aa.str (z:=[119,104,101,110]) (fun e=>aa.str (z:=[119,104,101,110]) (fun _=>⟨by rw[e];rfl,rfl⟩) (fun k=>absurd e k)) (fun e=>?_);rw[beq_eq_false_iff_ne.2 e,Bool.false_or];refine aa.str (z:=[105,102]) (fun e=>⟨by rw[e];rfl,rfl⟩) (fun e=>?_);rw[beq_eq_false_iff_ne.2 e];exact⟨rfl,rfl⟩
theorem T8 (y:List UInt8)(hl:y.length<=10000)(w:World):Ret Tryz.prog 304 #[.string (str y)] w fun r w'=>r=.bool (lg y)/\Fr none1 w w':=by
 refine c304 (str y) w _ ?_;refine ab.of (A9 y (by omega) w) ?_;rintro _ w1 ⟨rfl,f1⟩;refine⟨(_,_,()),rfl,?_⟩;unfold lg;refine aa.by (fun e=>?_) (fun e=>?_)
 ·have e:(fB y).2=true:=e
  rw[e,Bool.true_and];refine aa.dec (fun h=>?_) (fun h=>?_)
  ·have h:0<=(fB y).1:=h
   rw[decide_eq_true h,Bool.true_and];exact⟨rfl,f1⟩
  ·have h:¬ 0<=(fB y).1:=h
   rw[decide_eq_false h];exact⟨rfl,f1⟩
 ·have e:(fB y).2=false:=e
  rw[e];exact⟨rfl,f1⟩
theorem T9 {w:World}{m b:Nat}{fin:Int}{s:RS}(h:du w m b fin s):Ret Tryz.prog 280 #[.pointer (some ⟨b,0,none⟩)] w fun r w'=>r=.int .i64 (fB (bT fin lg s).1).1/\du w' m b fin (bT fin lg s).2/\Fr (only b) w w':=by
 refine c280 _ w _ ?_;refine ab.of (yP h _ lg fun y hy K hK=>?_) ?_
 ·refine lC (by kernel_rfl) Tryz.func304 (by kernel_rfl) ((T8 y hy w).mono ?_)
  rintro _ w1 ⟨rfl,f1⟩;exact⟨_,rfl,hK w1 f1⟩
 ·rintro _ w2 ⟨rfl,h2,f2⟩
  refine⟨_,rfl,?_⟩;have hsz:(bT fin lg s).1.length<=100000:=by
   obtain⟨_,_,_,_,hz⟩:=h;unfold bT;split
   ·split
    ·simp
    ·rename_i x l hl
     split
     ·have:=hz x (by rw[hl];simp);dsimp only;omega
     ·simp
   ·simp
  refine ab.of (A9 _ hsz w2) ?_;rintro _ w3 ⟨rfl,f3⟩;exact⟨(_,_,()),rfl,rfl,h2.af f3,f2.dp f3⟩
theorem Ua {w:World}{m b:Nat}{fin:Int}{s:RS}(h:du w m b fin s)(right:List UInt8->Bool):(bT fin right s).1.length<=10000:=by
 obtain⟨_,_,_,_,hz⟩:=h;unfold bT;split
 ·split
  ·simp
  ·rename_i x l hl
   split
   ·have:=hz x (by rw[hl];simp);dsimp only;omega
   ·simp
 ·simp
theorem Bx {w:World}{m b:Nat}{fin:Int}{s:RS}(h:du w m b fin s)(n:Nat)(hn:n<=12):Ret Tryz.prog 272 #[.pointer (some ⟨b,0,none⟩),.int .i64 (12 - (n:Int))] w fun r w'=>
  r=.bool (decide (n=0)||decide (s.e≠0))/\du w' m b fin (if n=0 then ky fin 5 s else s)/\Fr (only b) w w':=by
 refine c272 _ _ w _ ?_;refine aa.dec (fun h0=>?_) (fun h0=>?_)
 ·have:n=0:=by omega
  subst this;refine ab.of (Fh h 5) ?_;rintro _ w1 ⟨rfl,h1,f1⟩;refine⟨(),rfl,?_⟩;obtain⟨sl,hb,_⟩:=id h1;refine ae.ai hb (x:=(ky fin 5 s).e) rfl ?_;refine⟨?_,h1,f1⟩;have:(ky fin 5 s).e≠0:=by
   unfold ky;split
   ·show(5:Int)≠0;decide
   ·assumption
  rw[show((ky fin 5 s).e != 0)=true from by simp[this]];rfl
 ·have LN:n≠0:=by omega
  obtain⟨sl,hb,_⟩:=id h;refine ae.ai hb (x:=s.e) rfl ?_;refine⟨?_,by rw[if_neg LN];exact h,Fr.refl _ _⟩;rw[decide_eq_false LN,Bool.false_or]
  congr 1
  by_cases he:s.e=0<;>simp[he]
theorem Fj {w:World}{m b:Nat}{fin:Int}{s:RS}(h:du w m b fin s)(x:List UInt8){T:TypeId}{zs:List Value}{cks:List Ck}(c:Cs cks)(hl:zs.length=(Cs.vals cks c).length)(h1:(Cs.vals cks c).all bJ=true){K:Cs cks->World->Prop}
  (k:∀ w',du w' m b fin (dd fin x s)->Fr (only b) w w'->K c w') :
  aq (.cells zs.toArray T) w fun g w1=>av ⟨g,0,none⟩ (Cs.vals cks c) w1 fun w2=>ab Tryz.prog 275 #[.pointer (some ⟨b,0,none⟩),.string (str x)] w2 (.aP []) fun(_:Unit) w3=>az cks ⟨g,0,none⟩ w3 fun y=>K y w3:=by
 refine cB hl h1 fun g w4 hg hb f=>?_;have aU:=h.lt;refine ab.of (mS (h.af f) x) ?_;rintro _ w5 ⟨rfl,h5,f5⟩;refine⟨(),rfl,?_⟩;refine az.aG (f5.ag hb (fun t=>by have:g=b:=t;omega)) ?_;exact k w5 h5 (Fr.eG f f5)
theorem LO (n:Nat)(hn:n+1<=12):IntKind.i64.wrap (12 - ((n+1:Nat):Int)+1)=12 - (n:Int):=by
 rw[wI (by omega) (by omega)];omega
theorem Fk:∀ (n:Nat) (hn:n<=12) {w:World} {m b:Nat} {fin:Int} {s:RS} (h:du w m b fin s),Ret Tryz.prog 279 #[.pointer (some ⟨b,0,none⟩),.int .i64 (12 - (n:Int))] w fun r w'=>r=(iC fin n s).1.v/\du w' m b fin (iC fin n s).2/\Fr (only b) w w'
 | 0,hn,w,m,b,fin,s,h=>by
  refine c279 _ _ w _ ?_;refine ab.of (Bx h 0 hn) ?_;rintro _ w1 ⟨rfl,h1,f1⟩;exact⟨_,rfl,aa.t rfl ⟨rfl,h1,f1⟩⟩
 | n+1,hn,w,m,b,fin,s,h=>by
  have ih:=fun{w:World} {s:RS} (h:du w m b fin s)=>Fk n (by omega) h;refine c279 _ _ w _ ?_;refine ab.of (Bx h (n+1) hn) ?_;rintro _ w1 ⟨rfl,h1,f1⟩;rw[if_neg (by omega)] at h1;refine⟨_,rfl,?_⟩;dsimp only;rw[LO n hn];unfold iC
  by_cases he:s.e=0
  case neg=>
   rw[if_pos he];exact aa.t (by simp[he]) ⟨rfl,h1,f1⟩
  rw[if_neg (by simpa using he)];refine aa.f (by simp[he]) ?_;refine ab.of (yP h1 _ gE fun y hy K hK=>?_) ?_
  ·refine lC (by kernel_rfl) Tryz.func301 (by kernel_rfl) ((T6 y hy w1).mono ?_)
   rintro _ w2 ⟨rfl,f2⟩;exact⟨_,rfl,hK w2 f2⟩
  rintro _ w2 ⟨rfl,h2,f2⟩;have uE:=Ua h1 gE;refine⟨_,rfl,?_⟩;generalize(bT fin gE s).1=x at uE ⊢;generalize(bT fin gE s).2=s2 at h2 ⊢;have f12:=f1.trans f2;have pair:∀ {K:Value×Value×Unit->World->Prop},(∀ w',du w' m b fin (gF fin (iC fin n) s2).2.2->Fr (only b) w w'->K ((gF fin (iC fin n) s2).1.v,(gF fin (iC fin n) s2).2.1.v,()) w') ->
    ab Tryz.prog 302 #[.pointer (some ⟨b,0,none⟩),.int .i64 (12 - (n:Int))] w2 (.aP [.one .raw,.one .raw]) K:=fun{K} hK=>by
   have hp:Ret Tryz.prog 302 #[.pointer (some ⟨b,0,none⟩),.int .i64 (12 - (n:Int))] w2 fun r w'=>r=.tuple #[(gF fin (iC fin n) s2).1.v,(gF fin (iC fin n) s2).2.1.v]/\du w' m b fin (gF fin (iC fin n) s2).2.2/\Fr (only b) w2 w':=by
    refine c302 _ _ w2 _ ?_;refine ab.of (mS h2 [40]) ?_;rintro _ w3 ⟨rfl,h3,f3⟩;refine⟨(),rfl,?_⟩;refine ab.of (ih h3) ?_;rintro _ w4 ⟨rfl,h4,f4⟩;refine⟨_,rfl,?_⟩;refine ab.of (mS h4 [44]) ?_;rintro _ w5 ⟨rfl,h5,f5⟩;refine⟨(),rfl,?_⟩;refine ab.of (ih h5) ?_;rintro _ w6 ⟨rfl,h6,f6⟩;refine⟨_,rfl,?_⟩;refine ab.of (mS h6 [41]) ?_;rintro _ w7 ⟨rfl,h7,f7⟩;exact⟨(),rfl,rfl,h7,(((f3.trans f4).trans f5).trans f6).trans f7⟩
   refine ab.of hp ?_;rintro _ w3 ⟨rfl,h3,f3⟩;exact⟨(_,_,()),rfl,hK w3 h3 (f12.trans f3)⟩
  refine aa.str (z:=[]) (fun e=>?_) (fun e=>?_)
  ·rw[if_pos e];exact⟨rfl,h2,f12⟩
  rw[if_neg e];unfold ra;refine aa.str (z:=[102,105,120]) (fun e=>?_) (fun e=>?_)
  ·rw[if_pos e]
   refine ab.of (mS h2 [40]) ?_;rintro _ w3 ⟨rfl,h3,f3⟩;refine⟨(),rfl,?_⟩;refine ab.of (Fi h3) ?_;rintro _ w4 ⟨rfl,h4,f4⟩;refine⟨_,rfl,?_⟩;exact Fj h4 [41] (zs:=[.string (⟨#[]⟩:ByteArray)]) (cks:=[.str]) (str (bT fin eI (dd fin [40] s2)).1,()) rfl rfl fun w5 h5 f5=>⟨rfl,h5,((f12.trans f3).trans f4).trans f5⟩
  rw[if_neg e];refine aa.str (z:=[110,101,103]) (fun e=>?_) (fun e=>?_)
  ·rw[if_pos e]
   refine ab.of (mS h2 [40]) ?_;rintro _ w3 ⟨rfl,h3,f3⟩;refine⟨(),rfl,?_⟩;refine ab.of (ih h3) ?_;rintro _ w4 ⟨rfl,h4,f4⟩;refine⟨_,rfl,⟨Ob.fp _,?_⟩⟩;exact Fj h4 [41] (zs:=[.nilIface]) (cks:=[.raw]) ((iC fin n (dd fin [40] s2)).1.v,()) rfl (by simp[Cs.vals,Ck.val,Ob.bP]) fun w5 h5 f5=>⟨rfl,h5,((f12.trans f3).trans f4).trans f5⟩
  rw[if_neg e];refine aa.str (z:=[97,100,100]) (fun e=>?_) (fun e=>?_)
  ·rw[if_pos e]
   exact pair fun w3 h3 f3=>⟨Ob.fp _,⟨Ob.fp _,rfl,h3,f3⟩⟩
  rw[if_neg e];refine aa.str (z:=[109,117,108]) (fun e=>?_) (fun e=>?_)
  ·rw[if_pos e]
   exact pair fun w3 h3 f3=>⟨Ob.fp _,⟨Ob.fp _,rfl,h3,f3⟩⟩
  rw[if_neg e];refine aa.str (z:=[109,97,120]) (fun e=>?_) (fun e=>?_)
  ·rw[if_pos e]
   exact pair fun w3 h3 f3=>⟨Ob.fp _,⟨Ob.fp _,rfl,h3,f3⟩⟩
  rw[if_neg e];refine ab.of (A9 x (by omega) w2) ?_;rintro _ w3 ⟨rfl,f3⟩;exact⟨(_,_,()),rfl,rfl,h2.af f3,f12.dp f3⟩
theorem LP:bJ .nilIface=true:=rfl
theorem Fm {n:Nat}(ih:∀ {w:World} {m b:Nat} {fin:Int} {s:RS},du w m b fin s->Ret Tryz.prog 256 #[.pointer (some ⟨b,0,none⟩),.int .i64 (12 - (n:Int))] w fun r w'=>r=(fh fin n s).1.v/\du w' m b fin (fh fin n s).2/\Fr (only b) w w')
  {w:World} {m b:Nat} {fin:Int} {s:RS} (h:du w m b fin s):Ret Tryz.prog 277 #[.pointer (some ⟨b,0,none⟩),.int .i64 (12 - (n:Int))] w fun r w'=>r=(kz fin (fh fin n) s).1.v/\du w' m b fin (kz fin (fh fin n) s).2/\Fr (only b) w w':=by
 refine c277 _ _ w _ ?_;refine ab.of (ih h) ?_;rintro _ w1 ⟨rfl,h1,f1⟩;refine⟨_,rfl,?_⟩;refine ab.of (mS h1 [41]) ?_;rintro _ w2 ⟨rfl,h2,f2⟩;exact⟨(),rfl,rfl,h2,f1.trans f2⟩
theorem Fo {n:Nat}(ih:∀ {w:World} {m b:Nat} {fin:Int} {s:RS},du w m b fin s->Ret Tryz.prog 256 #[.pointer (some ⟨b,0,none⟩),.int .i64 (12 - (n:Int))] w fun r w'=>r=(fh fin n s).1.v/\du w' m b fin (fh fin n s).2/\Fr (only b) w w')
  {w:World} {m b:Nat} {fin:Int} {s:RS} (h:du w m b fin s):Ret Tryz.prog 278 #[.pointer (some ⟨b,0,none⟩),.int .i64 (12 - (n:Int))] w fun r w'=>
   r=.tuple #[(gG fin (fh fin n) s).1.v,(gG fin (fh fin n) s).2.1.v]/\du w' m b fin (gG fin (fh fin n) s).2.2/\Fr (only b) w w':=by
 refine c278 _ _ w _ ?_;refine ab.of (ih h) ?_;rintro _ w1 ⟨rfl,h1,f1⟩;refine⟨_,rfl,?_⟩;refine ab.of (mS h1 [44]) ?_;rintro _ w2 ⟨rfl,h2,f2⟩;refine⟨(),rfl,?_⟩;refine ab.of (ih h2) ?_;rintro _ w3 ⟨rfl,h3,f3⟩;refine⟨_,rfl,?_⟩;refine ab.of (mS h3 [41]) ?_;rintro _ w4 ⟨rfl,h4,f4⟩;exact⟨(),rfl,rfl,h4,((f1.trans f2).trans f3).trans f4⟩
theorem LQ:∀ (n:Nat) (hn:n<=12) {w:World} {m b:Nat} {fin:Int} {s:RS} (h:du w m b fin s),Ret Tryz.prog 256 #[.pointer (some ⟨b,0,none⟩),.int .i64 (12 - (n:Int))] w fun r w'=>r=(fh fin n s).1.v/\du w' m b fin (fh fin n s).2/\Fr (only b) w w'
 | 0,hn,w,m,b,fin,s,h=>by
  refine c256 _ _ w _ ?_;refine ab.of (Bx h 0 hn) ?_;rintro _ w1 ⟨rfl,h1,f1⟩;exact⟨_,rfl,aa.t rfl ⟨rfl,h1,f1⟩⟩
 | n+1,hn,w,m,b,fin,s,h=>by
  have ih:=fun{w:World} {m b:Nat} {fin:Int} {s:RS} (h:du w m b fin s)=>LQ n (by omega) h;refine c256 _ _ w _ ?_;refine ab.of (Bx h (n+1) hn) ?_;rintro _ w1 ⟨rfl,h1,f1⟩;rw[if_neg (by omega)] at h1;refine⟨_,rfl,?_⟩;dsimp only;rw[LO n hn];unfold fh
  by_cases he:s.e=0
  case neg=>
   rw[if_pos he];exact aa.t (by simp[he]) ⟨rfl,h1,f1⟩
  rw[if_neg (by simpa using he)];refine aa.f (by simp[he]) ?_;refine ab.of (yP h1 _ fV fun y hy K hK=>?_) ?_
  ·refine lC (by kernel_rfl) Tryz.func274 (by kernel_rfl) ((T7 y w1).mono ?_)
   rintro _ _ ⟨rfl,rfl⟩;exact⟨_,rfl,hK w1 (Fr.refl _ _)⟩
  rintro _ w2 ⟨rfl,h2,f2⟩;refine⟨_,rfl,?_⟩;generalize(bT fin fV s).1=x;generalize(bT fin fV s).2=s1 at h2 ⊢;have f12:=f1.trans f2;refine aa.str (z:=[]) (fun e=>?_) (fun e=>?_)
  ·rw[if_pos e];exact⟨rfl,h2,f12⟩
  rw[if_neg e];refine aa.str (z:=[122,101,114,111]) (fun e=>?_) (fun e=>?_)
  ·rw[if_pos e];exact⟨rfl,h2,f12⟩
  rw[if_neg e];refine ab.of (mS h2 [40]) ?_;rintro _ w3 ⟨rfl,h3,f3⟩;refine⟨(),rfl,?_⟩;have f13:=f12.trans f3;generalize dd fin [40] s1=s2 at h3 ⊢;have aU:=h.lt;unfold qi;refine aa.str (z:=[111,110,101]) (fun e=>?_) (fun e=>?_)
  ·rw[if_pos e]
   refine ab.of (Fi h3) ?_;rintro _ w4 ⟨rfl,h4,f4⟩;refine⟨_,rfl,?_⟩;exact Fj h4 [41] (zs:=[.string (⟨#[]⟩:ByteArray)]) (cks:=[.str]) (str (bT fin eI s2).1,()) rfl rfl fun w5 h5 f5=>⟨rfl,h5,(f13.trans f4).trans f5⟩
  rw[if_neg e];refine aa.str (z:=[103,105,118,101]) (fun e=>?_) (fun e=>?_)
  ·rw[if_pos e]
   refine ab.of (Fm ih h3) ?_;rintro _ w4 ⟨rfl,h4,f4⟩;exact⟨_,rfl,⟨Tm.fp _,rfl,h4,f13.trans f4⟩⟩
  rw[if_neg e];refine aa.str (z:=[97,110,100]) (fun e=>?_) (fun e=>?_)
  ·rw[if_pos e]
   refine ab.of (Fo ih h3) ?_;rintro _ w4 ⟨rfl,h4,f4⟩;exact⟨(_,_,()),rfl,⟨Tm.fp _,⟨Tm.fp _,rfl,h4,f13.trans f4⟩⟩⟩
  rw[if_neg e];refine aa.str (z:=[111,114]) (fun e=>?_) (fun e=>?_)
  ·rw[if_pos e]
   refine ab.of (Fi h3) ?_;rintro _ w4 ⟨rfl,h4,f4⟩;refine⟨_,rfl,?_⟩;generalize(bT fin eI s2).1=y;generalize(bT fin eI s2).2=s3 at h4 ⊢;refine cB (zs:=[.string (⟨#[]⟩:ByteArray),.nilIface,.nilIface]) (vs:=[.string (str y),.nilIface,.nilIface]) rfl rfl fun g w5 hg hb f5=>?_;have Fq:m<=g:=by have:=h4.lt;omega
   have jA:g≠b:=by have:=h4.lt;omega
   refine ab.of (mS (h4.af f5) [44]) ?_;rintro _ w6 ⟨rfl,h6,f6⟩;refine⟨(),rfl,?_⟩;refine ab.of (Fo ih h6) ?_;rintro _ w7 ⟨rfl,h7,f7⟩;refine⟨(_,_,()),rfl,⟨Tm.fp _,?_⟩⟩;have hU:=f7.iX (f6.iX hb jA) jA;refine av.one hU (by show 1<3;omega) (Tm.bP _) fun w8 jW f8 _=>⟨Tm.fp _,?_⟩;refine av.one jW (by show 2<3;omega) (Tm.bP _) fun w9 nF f9 _=>?_;refine az.aG (x:=(str y,(gG fin (fh fin n) (dd fin [44] s3)).1.v,(gG fin (fh fin n) (dd fin [44] s3)).2.1.v,())) nF ?_;have f89:=f8.trans f9;exact⟨rfl,h7.ag f89 (fun k U t=>by have:k=g:=t;omega),(f13.trans f4).trans ((Fr.eG f5 (f6.trans f7)).comp f89 fun x hx t=>by have:x=g:=t;omega)⟩
  rw[if_neg e];refine aa.str (z:=[115,99,97,108,101]) (fun e=>?_) (fun e=>?_)
  ·rw[if_pos e]
   refine ab.of (Fk n (by omega) h3) ?_;rintro _ w4 ⟨rfl,h4,f4⟩;refine⟨_,rfl,⟨Ob.fp _,?_⟩⟩;generalize(iC fin n s2).1=y;generalize(iC fin n s2).2=s3 at h4 ⊢;refine cB (zs:=[.nilIface,.nilIface]) (vs:=[y.v,.nilIface]) rfl (by simp[Ob.bP,LP]) fun g w5 hg hb f5=>?_;have Fq:m<=g:=by have:=h4.lt;omega
   have jA:g≠b:=by have:=h4.lt;omega
   refine ab.of (mS (h4.af f5) [44]) ?_;rintro _ w6 ⟨rfl,h6,f6⟩;refine⟨(),rfl,?_⟩;refine ab.of (Fm ih h6) ?_;rintro _ w7 ⟨rfl,h7,f7⟩;refine⟨_,rfl,⟨Tm.fp _,?_⟩⟩;have hU:=f7.iX (f6.iX hb jA) jA;refine av.one hU (by show 1<2;omega) (Tm.bP _) fun w8 jW f8 _=>?_;refine az.aG (x:=(y.v,(kz fin (fh fin n) (dd fin [44] s3)).1.v,())) jW ?_;exact⟨rfl,h7.ag f8 (fun k U t=>by have:k=g:=t;omega),(f13.trans f4).trans ((Fr.eG f5 (f6.trans f7)).comp f8 fun x hx t=>by have:x=g:=t;omega)⟩
  rw[if_neg e];refine aa.str (z:=[119,104,101,110]) (fun e=>?_) (fun e=>?_)
  ·rw[if_pos e]
   refine ab.of (T9 h3) ?_;rintro _ w4 ⟨rfl,h4,f4⟩;refine⟨_,rfl,?_⟩;generalize(fB (bT fin lg s2).1).1=y;generalize(bT fin lg s2).2=s3 at h4 ⊢;refine cB (zs:=[.int .i64 0,.nilIface]) (vs:=[.int .i64 y,.nilIface]) rfl rfl fun g w5 hg hb f5=>?_;have Fq:m<=g:=by have:=h4.lt;omega
   have jA:g≠b:=by have:=h4.lt;omega
   refine ab.of (mS (h4.af f5) [44]) ?_;rintro _ w6 ⟨rfl,h6,f6⟩;refine⟨(),rfl,?_⟩;refine ab.of (Fm ih h6) ?_;rintro _ w7 ⟨rfl,h7,f7⟩;refine⟨_,rfl,⟨Tm.fp _,?_⟩⟩;have hU:=f7.iX (f6.iX hb jA) jA;refine av.one hU (by show 1<2;omega) (Tm.bP _) fun w8 jW f8 _=>?_;refine az.aG (x:=(y,(kz fin (fh fin n) (dd fin [44] s3)).1.v,())) jW ?_;exact⟨rfl,h7.ag f8 (fun k U t=>by have:k=g:=t;omega),(f13.trans f4).trans ((Fr.eG f5 (f6.trans f7)).comp f8 fun x hx t=>by have:x=g:=t;omega)⟩
  rw[if_neg e];refine ab.of (Fk n (by omega) h3) ?_;rintro _ w4 ⟨rfl,h4,f4⟩;refine⟨_,rfl,⟨Ob.fp _,?_⟩⟩;generalize(iC fin n s2).1=y;generalize(iC fin n s2).2=s3 at h4 ⊢;refine cB (zs:=[.nilIface,.nilIface,.nilIface]) (vs:=[y.v,.nilIface,.nilIface]) rfl (by simp[Ob.bP,LP]) fun g w5 hg hb f5=>?_;have Fq:m<=g:=by have:=h4.lt;omega
  have jA:g≠b:=by have:=h4.lt;omega
  refine ab.of (mS (h4.af f5) [44]) ?_;rintro _ w6 ⟨rfl,h6,f6⟩;refine⟨(),rfl,?_⟩;refine ab.of (Fo ih h6) ?_;rintro _ w7 ⟨rfl,h7,f7⟩;refine⟨(_,_,()),rfl,⟨Tm.fp _,?_⟩⟩;have hU:=f7.iX (f6.iX hb jA) jA;refine av.one hU (by show 1<3;omega) (Tm.bP _) fun w8 jW f8 _=>⟨Tm.fp _,?_⟩;refine av.one jW (by show 2<3;omega) (Tm.bP _) fun w9 nF f9 _=>?_;refine az.aG (x:=(y.v,(gG fin (fh fin n) (dd fin [44] s3)).1.v,(gG fin (fh fin n) (dd fin [44] s3)).2.1.v,())) nF ?_;have f89:=f8.trans f9;exact⟨rfl,h7.ag f89 (fun k U t=>by have:k=g:=t;omega),(f13.trans f4).trans ((Fr.eG f5 (f6.trans f7)).comp f89 fun x hx t=>by have:x=g:=t;omega)⟩
theorem Ub (bs:List UInt8)(hl:bs.length<9223372036854775807)(w:World):Ret Tryz.prog 270 #[.string (str bs)] w fun r w'=>r=.int .i64 ((cA bs).length:Int)/\Fr none1 w w':=by
 refine(Tryz.utf8_RuneCountInString (str bs) w (by rw[dx];exact hl)).mono ?_;rintro e w' ⟨rfl,pos,rfl⟩;refine⟨_,rfl,?_,lH _ _⟩;unfold Lib.runeCount;rw[LJ _ _ _ (by omega),jM,List.drop_zero]
theorem Uc (bs:List UInt8)(hl:bs.length<=1000000000000)(w:World):Ret Tryz.prog 255 #[.string (str bs)] w fun r w'=>∃ m g:Nat,r=.pointer (some ⟨g,0,none⟩)/\du w' m g (mJ bs) (lh bs)/\Fr none1 w w'/\w.heap.size<=g:=by
 refine c255 (str bs) w _ ?_;refine ab.of (Ub bs (by omega) w) ?_;rintro _ w1 ⟨rfl,f1⟩;refine⟨_,rfl,?_⟩;have yQ:=DN bs;have Ud:IntKind.i64.wrap (((cA bs).length:Int)+1)=mJ bs:=wI (by omega) (by omega);refine aq.of fun g w2 hg hb f2 fQ=>?_;rw[Ud] at hb;have uF:w.heap.size<=g:=by have:=f1.size;omega
 unfold lh;rw[dx];refine aa.dec (fun h=>?_) (fun h=>?_)
 ·rw[if_pos (by omega)]
  refine ay.ai hb (by show 0+3<4;omega) rfl fun w3 ba f3 ox=>?_;exact⟨g+1,g,rfl,⟨(none,0,0),ba,EB _,⟨jP _,by omega,by omega,fun k t=>(jP k t).elim⟩,fun x hx=>by cases hx⟩,f1.trans (f2.fresh f3 (by omega)),uF⟩
 ·rw[if_neg (by omega)]
  refine ab.of (SE bs w2 (by have:=T0 (cA bs);omega)) ?_;rintro _ w3 ⟨sl,rfl,jE,f3,hf⟩;refine⟨((sl.1,sl.2.1,sl.2.2),_,()),rfl,?_⟩;have ba:=f3.af hb;have hz:=TZ (bs:=bs) (by omega);have uG:¬ au sl g:=fun t=>by have:=hf g t;omega
  have LR:∀ k,au sl k->k<w3.heap.size:=fun k U=>jE.sl.lt U;refine aa.dec (fun hp=>?_) (fun hp=>?_)
  ·rw[if_pos (show 0<(eh [] 0 false (cA bs)).2 from hp)]
   refine ay.ai ba (by show 0+3<4;omega) rfl fun w4 dm f4 rn=>?_;refine ay.ai dm (by show 0+2<4;omega) rfl fun w5 dr f5 yR=>?_;refine ay.ai dr (by show 0+0<4;omega) rfl fun w6 gI f6 hs6=>?_;have f46:=(f4.trans f5).trans f6;exact⟨w3.heap.size,g,rfl,⟨sl,gI,jE.ag f46 (fun k U t=>uG (by have:k=g:=t;rw[<- this];exact U)),⟨uG,cj ba,by omega,LR⟩,hz⟩,f1.trans ((f2.trans f3).fresh f46 (by omega)),uF⟩
  ·rw[if_neg (show ¬ 0<(eh [] 0 false (cA bs)).2 from hp)]
   refine ay.ai ba (by show 0+0<4;omega) rfl fun w4 dm f4 rn=>?_;exact⟨w3.heap.size,g,rfl,⟨sl,dm,jE.ag f4 (fun k U t=>uG (by have:k=g:=t;rw[<- this];exact U)),⟨uG,cj ba,by omega,LR⟩,hz⟩,f1.trans ((f2.trans f3).fresh f4 (by omega)),uF⟩
theorem Ue {w:World}{m b:Nat}{fin:Int}{s:RS}(h:du w m b fin s):Ret Tryz.prog 257 #[.pointer (some ⟨b,0,none⟩)] w fun r w'=>r=.tuple #[]/\du w' m b fin (sD fin s)/\Fr (only b) w w':=by
 refine c257 _ w _ ?_;obtain⟨sl,hb,hs,_⟩:=id h;have hl:=hs.len;refine ae.ai hb (x:=sl) rfl ?_;unfold sD;cases jE:s.l with
 | nil=>
  rw[jE] at hl;exact aa.no (by rw[hl];decide) ⟨rfl,h,Fr.refl _ _⟩
 | cons x l=>
  rw[jE] at hl;simp only[List.length_cons] at hl;refine aa.yes (by omega) ?_;refine ab.of (Fh h 2) ?_;rintro _ w1 ⟨rfl,h1,f1⟩;exact⟨(),rfl,rfl,h1,f1⟩
theorem LS {bs:List UInt8}(h:(ot bs).e=0):aJ (fh (mJ bs) 12 (lh bs)).1<=1000000:=by
 obtain⟨h1,h2,_⟩:=To h;obtain⟨i1,_,_⟩:=K3 (mJ bs) 12 (lh bs) h1;obtain⟨b1,_,b3⟩:=Tu i1.e;obtain⟨xs,hx,ou⟩:=i1.wg;have h3:=TX (fh (mJ bs) 12 (lh bs)).1;rw[<- ou,List.length_map] at h3;rw[h2,List.append_nil,b3] at hx;have h4:=Bt (cA bs) [] 0 false;have h5:=DN bs;have hx:(eh [] 0 false (cA bs)).1=xs:=hx;rw[hx,List.length_nil] at h4;omega
theorem Uf (bs:List UInt8)(hl:bs.length<=1000000000000)(w:World):Ret Tryz.prog 230 #[.string (str bs)] w fun r w'=>r=.tuple #[(mK bs).1.v,.int .i64 (mK bs).2.1,.int .i64 (mK bs).2.2]/\Fr none1 w w':=by
 refine c230 (str bs) w _ ?_;refine ab.of (Uc bs hl w) ?_;rintro _ w1 ⟨m,g,rfl,h1,f1,hg⟩;refine⟨_,rfl,?_⟩;refine ab.of (LQ 12 (Nat.le_refl _) h1) ?_;rintro _ w2 ⟨rfl,h2,f2⟩;refine⟨_,rfl,?_⟩;refine ab.of (Ue h2) ?_;rintro _ w3 ⟨rfl,h3,f3⟩;refine⟨(),rfl,?_⟩;have f13:Fr none1 w w3:=f1.fresh (f2.trans f3) hg;have h3:du w3 m g (mJ bs) (ot bs):=h3;obtain⟨sl,hb,_⟩:=id h3;unfold mK;refine ae.ai hb (x:=(ot bs).e) rfl ?_;refine aa.eq (fun he=>?_) (fun he=>?_)
 ·rw[if_neg (fun t=>t he)]
  refine ab.of (Ej _ (LS he) w3) ?_;rintro _ w4 ⟨rfl,f4⟩;refine⟨_,rfl,?_⟩;refine ay.ai (f4.af hb) (by show 0+3<4;omega) rfl fun w5 dr f5 _=>?_;refine ae.ai dr (x:=jf (fh (mJ bs) 12 (lh bs)).1) rfl ?_;have f15:Fr none1 w w5:=(f13.trans f4).fresh f5 (by omega);refine aa.ne (fun hc=>?_) (fun hc=>?_)
  ·rw[if_pos hc]
   refine aH.of fun w6 _ f6=>?_;refine ae.ai (f6.af dr) (x:=(ot bs).at_) rfl (ae.ai (f6.af dr) (x:=jf (fh (mJ bs) 12 (lh bs)).1) rfl ?_);exact⟨rfl,f15.trans f6⟩
  ·rw[if_neg (fun t=>t hc)]
   exact⟨rfl,f15⟩
 ·rw[if_pos he]
  refine ae.ai hb (x:=(ot bs).e) rfl ?_;refine aa.ne (fun _=>?_) (fun hc=>absurd hc he);refine aH.of fun w6 _ f6=>?_;refine ae.ai (f6.af hb) (x:=(ot bs).at_) rfl (ae.ai (f6.af hb) (x:=(ot bs).e) rfl ?_);exact⟨rfl,f13.trans f6⟩
theorem Fs {α:Type}(a b:List α)(d:α){i:Nat}(h:i<a.length):(a++b).getD i d=a.getD i d:=by
 rw[List.getD_eq_getElem?_getD,List.getD_eq_getElem?_getD,List.getElem?_append_left h]
theorem LU {α:Type}(a:List α)(x d:α):(a++[x]).getD a.length d=x:=by
 rw[List.getD_eq_getElem?_getD];simp
theorem aY.jj {w:World}{v:Sl}{bs:List UInt8}(h:aY w v bs){lo hi:Int}(h0:0<=lo)(h1:lo<=hi)(h2:hi<=v.2.1)(hc:v.2.1<=v.2.2){K:Option Addr->Nat->Nat->Prop}
  (k:∀ u:Sl,aY w u ((bs.drop lo.toNat).take (hi - lo).toNat)->u.2.1<=u.2.2->u.2.1=(hi - lo).toNat->(∀ k,au u k->au v k)->K u.1 u.2.1 u.2.2):eu v.1 v.2.2 lo hi v.2.2 1 K:=by
 refine db.jj h h0 h1 h2 hc fun u hu=>k u ?_;unfold aY;rw[List.map_take,List.map_drop];exact hu
theorem aY.sL {w w':World}{v:Sl}{bs:List UInt8}(h:aY w v bs){S:Nat->Prop}(f:Fr S w w')(hn:bs≠[]->∀ k,au v k->¬ S k):aY w' v bs:=by
 by_cases e:bs=[]
 ·subst e
  obtain⟨h1,h2,h3⟩:=h;exact⟨h1,h2,fun a ha=>trivial⟩
 ·exact h.ag f (hn e)
theorem aY.Ft {w:World}{v:Sl}{bs:List UInt8}(h:aY w v bs)(hn:bs≠[]){k:Nat}(U:au v k):k<w.heap.size:=by
 obtain⟨a,ha,rfl⟩:=U;obtain⟨_,_,h3⟩:=h;have:=h3 a ha;cases bs with
 | nil=>exact(hn rfl).elim
 | cons b bs=>exact Jf this.1
theorem Ug {w:World}{n m:Int}(h0:0<=n)(h1:n<=m)(hb:m<=281474976710656):
  ∃ w',(Instr.makeSlice 22 (.int .i64 n) (.int .i64 m)).run Tryz.prog w=.ok (.slice (some ⟨w.heap.size,0,none⟩) n.toNat m.toNat) w'/\bR w' (some ⟨w.heap.size,0,none⟩,m.toNat,m.toNat) (List.replicate m.toNat 0)/\Fr none1 w w':=by
 obtain⟨hu,⟨i,hi,hs,hz,pV⟩,hc,nW⟩:=mm;have np:∀ w,(typeInfo 5).run Tryz.prog w=.ok i w:=fun w=>by simp[typeInfo,hi]
 have lI:∀ w,(sizeOf 5).run Tryz.prog w=.ok 1 w:=fun w=>by rw[jK hi,hs]
 have ha:∀ (k:IntKind) (n:Int) w,(asInt (.int k n)).run Tryz.prog w=.ok n w:=fun _ _ _=>rfl;unfold Instr.makeSlice;simp only[Sem.run_bind,under hu,Result.andThen_ok,ha,np,wI (x:=n) (by omega) (by omega),wI (x:=m) (by omega) (by omega)];have QK:¬ ((i.bytes:Int) * m > 2 ^ 48):=by rw[pV];omega
 rw[if_neg (by simp;omega)];have tP:∀ zc:Array Value,(m.toNat * 1≠0->zc=#[.int .u8 0])->(Array.range (m.toNat * 1)).map (zc[· % zc.size]!)=Array.replicate m.toNat (.int .u8 0):=fun zc tO=>by
  by_cases h:m.toNat * 1=0
  ·have:m.toNat=0:=by omega
   rw[this];simp
  ·rw[tO h]
   apply Array.ext
   ·simp
   ·intro j h1 h2
    have:j % 1=0:=Nat.mod_one _;simp[this]
 have fin:∀ cs:Array Value,cs=Array.replicate m.toNat (.int .u8 0) ->
   ∃ w',(do pure (Value.slice (some (<- newRow 5 cs)) n.toNat m.toNat):Sem Value).run Tryz.prog w=.ok (.slice (some ⟨w.heap.size,0,none⟩) n.toNat m.toNat) w'/\bR w' (some ⟨w.heap.size,0,none⟩,m.toNat,m.toNat) (List.replicate m.toNat 0)/\Fr none1 w w':=fun cs hcs=>by
  subst hcs;simp only[newRow,Sem.run_bind,run_newObj,Result.andThen_ok,Sem.run_pure];refine⟨_,rfl,.inr ⟨w.heap.size,0,_,rfl,Array.getElem?_push_size ..,Nat.le_refl _,by simp,by simp,fun j hj=>?_⟩,lH _ _⟩;simp at hj;rw[List.map_replicate,Array.getElem?_replicate,List.getElem?_replicate,if_pos (show 0+j<m.toNat by omega),if_pos (show j<m.toNat by omega)];rfl
 by_cases h:m.toNat * 1=0
 ·simp only[Sem.run_bind,run_askRoom,Result.andThen_ok,lI,if_pos h,Sem.run_pure]
  exact fin _ (tP #[] (fun hh=>absurd h hh))
 ·simp only[Sem.run_bind,run_askRoom,Result.andThen_ok,lI,if_neg h,pO hi hz,Sem.run_pure]
  exact fin _ (tP _ (fun _=>rfl))
theorem LV {g:Nat}{T:TypeId}:∀ (vs:List Value) (w:World) (cs jt:Array Value) (off i:Nat),w.heap[g]? = some (.cells cs T (0,0))->(setCells w ⟨g,off,none⟩ i vs).heap[g]? = some (.cells jt T (0,0))->∀ j,off+i+vs.length<=j->jt[j]? = cs[j]?
 | [],w,cs,jt,off,i,hb,gq,j,_=>by
  have:some (Obj.cells cs T (0,0))=some (.cells jt T (0,0)):=by rw[<- hb,<- gq];rfl
  injection this with this
  injection this with this
  rw[this]
 | v::vs,w,cs,jt,off,i,hb,gq,j,hj=>by
  simp only[List.length_cons] at hj;unfold setCells at gq;rw[dw] at gq;have hs:=Vc.heap_setCell_same (i:=off+i) (v:=v) hb;have:=LV vs _ _ jt off (i+1) hs gq j (by omega);rw[this,Array.getElem?_setIfInBounds_ne (by omega)]
def C150 (p0:Addr)(p1:Int)(w:World)(K:Value->World->Prop):Prop:=
 ae .bool (p0.add 1) w (fun(x1:Bool)=>aa x1
 (ay (p0.add 1) (.bool true) w (fun w2=>K (.slice none 0 0) w2))
 (ae .ah (p0.add 0) w (fun(x3:ao)=>aa (decide (p1 > (x3.2.1:Int)))
 (ay (p0.add 1) (.bool true) w (fun w4=>K (.slice none 0 0) w4))
 (ae .ah (p0.add 0) w (fun(x5:ao)=>eu x5.1 x5.2.2 0 p1 x5.2.2 1 (fun a6 l7 c8=>ae .ah (p0.add 0) w (fun(x9:ao)=>eu x9.1 x9.2.2 p1 x9.2.1 x9.2.2 1 (fun uh Uh c12=>ay (p0.add 0) (.slice uh Uh c12) w (fun aW=>K (.slice a6 l7 c8) aW)))))))))
def pl150:aB:=.auto
theorem c150 (p0:Addr)(p1:Int)(w:World)(K:Value->World->Prop)(h:C150 p0 p1 w K):Ret Tryz.prog 150 #[.pointer (some p0),.int .i64 p1] w K:=aC (by kernel_rfl) Tryz.func150 (p:=pl150) (Eq.mpr (by kernel_rfl) h)
def C194 (p0:Addr)(p1:Int)(w:World)(K:Value->World->Prop):Prop:=
 ab Tryz.prog 150 #[.pointer (some p0),.int .i64 p1] w (.v (.one .ah)) (fun(x1:ao) w2=>bj (Int×Int×Unit) (fun _ s3 w4 kg=>aa (decide (s3.2.1<(x1.2.1:Int)))
 (bK x1.1 x1.2.1 s3.2.1 1 (fun a6=>ae (.int .u8) a6 w4 (fun(x7:Int)=>lA 8 (kg (IntKind.i64.wrap ((BitVec.ofInt 64 (IntKind.i64.wrap (s3.1 * 2 ^ (min (Int.toNat 8) 64))) ||| BitVec.ofInt 64 (IntKind.i64.wrap x7)).toNat:Int),IntKind.i64.wrap (s3.2.1+1),()) w4))))
 (ab Tryz.prog 150 #[.pointer (some p0),.int .i64 s3.1] w4 (.v (.one .ah)) (fun(x8:ao) w9=>aw Tryz.prog (convert 22 9 (.slice x8.1 x8.2.1 x8.2.2)) w9 (.v (.one .str)) (fun(aS:ByteArray) aR=>K (.string aS) aR))))
 (0,0,()) w2)
def pl194:aB:=(.seq .auto (.seq .auto (.seq (.seq .auto (.block (.loop [(5,.one (.int .i64)),(12,.one (.int .i64))] .auto))) .auto)))
theorem c194 (p0:Addr)(p1:Int)(w:World)(K:Value->World->Prop)(h:C194 p0 p1 w K):Ret Tryz.prog 194 #[.pointer (some p0),.int .i64 p1] w K:=aC (by kernel_rfl) Tryz.func194 (p:=pl194) (Eq.mpr (by kernel_rfl) h)
def C192 (p0:Addr)(w:World)(K:Value->World->Prop):Prop:=
 ab Tryz.prog 150 #[.pointer (some p0),.int .i64 8] w (.v (.one .ah)) (fun(x1:ao) w2=>ab Tryz.prog 107 #[.slice x1.1 x1.2.1 x1.2.2] w2 (.aP [.one (.int .i64),.one .bool]) (fun(x3:Int×Bool×Unit) w4=>ae .bool (p0.add 1) w4 (fun(x5:Bool)=>aa x5
 (ay (p0.add 1) (.bool true) w4 (fun w6=>K (.int .i64 x3.1) w6))
 (ay (p0.add 1) (.bool (!x3.2.1)) w4 (fun w7=>K (.int .i64 x3.1) w7)))))
def pl192:aB:=.auto
theorem c192 (p0:Addr)(w:World)(K:Value->World->Prop)(h:C192 p0 w K):Ret Tryz.prog 192 #[.pointer (some p0)] w K:=aC (by kernel_rfl) Tryz.func192 (p:=pl192) (Eq.mpr (by kernel_rfl) h)
def C193 (p0:Addr)(w:World)(K:Value->World->Prop):Prop:=
 ab Tryz.prog 194 #[.pointer (some p0),.int .i64 2] w (.v (.one .str)) (fun(x1:ByteArray) w2=>ab Tryz.prog 230 #[.string x1] w2 (.aP [.one .raw,.one (.int .i64),.one (.int .i64)]) (fun(x3:Value×Int×Int×Unit) w4=>ae .bool (p0.add 1) w4 (fun(x5:Bool)=>aa x5
 (ay (p0.add 1) (.bool true) w4 (fun w6=>K x3.1 w6))
 (ay (p0.add 1) (.bool (x3.2.2.1 != 0)) w4 (fun w7=>K x3.1 w7)))))
def pl193:aB:=.auto
theorem c193 (p0:Addr)(w:World)(K:Value->World->Prop)(h:C193 p0 w K):Ret Tryz.prog 193 #[.pointer (some p0)] w K:=aC (by kernel_rfl) Tryz.func193 (p:=pl193) (Eq.mpr (by kernel_rfl) h)
def C151 (p0:Addr)(p1:Addr)(p2:Int)(w:World)(K:Value->World->Prop):Prop:=
 aa (p2==68)
 (ab Tryz.prog 192 #[.pointer (some p0)] w (.v (.one (.int .i64))) (fun(x1:Int) w2=>ay (p1.add 5) (.int .i64 x1) w2 (fun w3=>K (.tuple #[]) w3)))
 (aa (p2==86)
 (ab Tryz.prog 192 #[.pointer (some p0)] w (.v (.one (.int .i64))) (fun(x4:Int) w5=>ay (p1.add 6) (.int .i64 x4) w5 (fun w6=>K (.tuple #[]) w6)))
 (aa (p2==84)
 (ab Tryz.prog 193 #[.pointer (some p0)] w (.v (.one .raw)) (fun(x7:Value) w8=>iu x7 (av (p1.add 7) [x7] w8 (fun w9=>K (.tuple #[]) w9))))
 (aa (p2==73)
 (ab Tryz.prog 194 #[.pointer (some p0),.int .i64 1] w (.v (.one .str)) (fun(aS:ByteArray) aR=>ay (p1.add 1) (.string aS) aR (fun aO=>K (.tuple #[]) aO)))
 (aa (p2==78)
 (ab Tryz.prog 194 #[.pointer (some p0),.int .i64 1] w (.v (.one .str)) (fun(bC:ByteArray) bu=>ay (p1.add 2) (.string bC) bu (fun bL=>K (.tuple #[]) bL)))
 (aa (p2==76)
 (ab Tryz.prog 194 #[.pointer (some p0),.int .i64 1] w (.v (.one .str)) (fun(aT:ByteArray) cD=>ay (p1.add 3) (.string aT) cD (fun bx=>K (.tuple #[]) bx)))
 (aa (p2==67)
 (ab Tryz.prog 194 #[.pointer (some p0),.int .i64 1] w (.v (.one .str)) (fun(bt:ByteArray) bz=>ay (p1.add 4) (.string bt) bz (fun bq=>K (.tuple #[]) bq)))
 (K (.tuple #[]) w)))))))
def pl151:aB:=.auto
theorem c151 (p0:Addr)(p1:Addr)(p2:Int)(w:World)(K:Value->World->Prop)(h:C151 p0 p1 p2 w K):Ret Tryz.prog 151 #[.pointer (some p0),.pointer (some p1),.int .i32 p2] w K:=aC (by kernel_rfl) Tryz.func151 (p:=pl151) (Eq.mpr (by kernel_rfl) h)
def C93 (p0:Option Addr)(aI aN:Nat)(w:World)(K:Value->World->Prop):Prop:=
 aq (.cells #[.int .i64 0,.string (⟨#[]⟩:ByteArray),.string (⟨#[]⟩:ByteArray),.string (⟨#[]⟩:ByteArray),.string (⟨#[]⟩:ByteArray),.int .i64 0,.int .i64 0,.nilIface] 36) w (fun g1 w2=>aq (.cells #[.slice p0 aI aN,.bool false] 274) w2 (fun g3 w4=>aq (.cells #[.int .i64 0,.string (⟨#[]⟩:ByteArray),.string (⟨#[]⟩:ByteArray),.string (⟨#[]⟩:ByteArray),.string (⟨#[]⟩:ByteArray),.int .i64 0,.int .i64 0,.nilIface] 36) w4 (fun g5 w6=>av (ad g5) [.int .i64 0,.string (⟨#[]⟩:ByteArray),.string (⟨#[]⟩:ByteArray),.string (⟨#[]⟩:ByteArray),.string (⟨#[]⟩:ByteArray),.int .i64 0,.int .i64 0,.nilIface] w6 (fun w7=>ab Tryz.prog 150 #[.pointer (some (ad g3)),.int .i64 1] w7 (.v (.one .ah)) (fun(x8:ao) w9=>bj (Int×Unit) (fun _ yS aR Ui=>aa (decide (yS.1<(x8.2.1:Int)))
 (bK x8.1 x8.2.1 yS.1 1 (fun Ff=>ae (.int .u8) Ff aR (fun(bn:Int)=>ay ((ad g5).add 0) (.int .i64 (IntKind.i64.wrap bn)) aR (fun bL=>Ui (IntKind.i64.wrap (yS.1+1),()) bL))))
 (ae (.int .i64) ((ad g5).add 0) aR (fun(aT:Int)=>ab Tryz.prog 71 #[.int .i64 aT] aR (.v (.one .ah)) (fun(aX:ao) bx=>bj (Int×Unit) (fun _ Fu bz Uj=>aa (decide (Fu.1<(aX.2.1:Int)))
 (bK aX.1 aX.2.1 Fu.1 1 (fun Fv=>ae (.int .i32) Fv bz (fun(cc:Int)=>ab Tryz.prog 151 #[.pointer (some (ad g3)),.pointer (some (ad g5)),.int .i32 cc] bz (.aP []) (fun(cN:Unit) dn=>Uj (IntKind.i64.wrap (Fu.1+1),()) dn))))
 (az dR (ad g5) bz (fun(dk:bH)=>ab Tryz.prog 33 #[.agg (bS dk).toArray] bz (.aP [.one .ah,.one (.int .i64)]) (fun(cE:ao×Int×Unit) bV=>ae .bool ((ad g3).add 1) bV (fun(cH:Bool)=>aa cH
 (av (ad g1) [.int .i64 0,.string (⟨#[]⟩:ByteArray),.string (⟨#[]⟩:ByteArray),.string (⟨#[]⟩:ByteArray),.string (⟨#[]⟩:ByteArray),.int .i64 0,.int .i64 0,.nilIface] bV (fun cn=>az dR (ad g1) cn (fun(bX:bH)=>K (.tuple #[.agg (bS bX).toArray,.int .i64 2]) cn)))
 (aa (cE.2.1 != 0)
 (av (ad g1) [.int .i64 0,.string (⟨#[]⟩:ByteArray),.string (⟨#[]⟩:ByteArray),.string (⟨#[]⟩:ByteArray),.string (⟨#[]⟩:ByteArray),.int .i64 0,.int .i64 0,.nilIface] bV (fun cZ=>az dR (ad g1) cZ (fun(dH:bH)=>K (.tuple #[.agg (bS dH).toArray,.int .i64 2]) cZ)))
 (ab Tryz.prog 53 #[.slice cE.1.1 cE.1.2.1 cE.1.2.2,.slice p0 aI aN] bV (.v (.one .bool)) (fun(ez:Bool) fz=>aa (!ez)
 (av (ad g1) [.int .i64 0,.string (⟨#[]⟩:ByteArray),.string (⟨#[]⟩:ByteArray),.string (⟨#[]⟩:ByteArray),.string (⟨#[]⟩:ByteArray),.int .i64 0,.int .i64 0,.nilIface] fz (fun cW=>az dR (ad g1) cW (fun(ij:bH)=>K (.tuple #[.agg (bS ij).toArray,.int .i64 2]) cW)))
 (az dR (ad g5) fz (fun(dN:bH)=>av (ad g1) (bS dN) fz (fun gg=>az dR (ad g1) gg (fun(iw:bH)=>K (.tuple #[.agg (bS iw).toArray,.int .i64 0]) gg))))))))))))
 (0,()) bx))))
 (0,()) w9)))))
def pl93:aB:=(.seq .auto (.seq .auto (.seq .auto (.seq (.seq .auto (.block (.loop [(19,.one (.int .i64))] .auto))) (.seq (.seq .auto (.block (.loop [(31,.one (.int .i64))] .auto))) .auto)))))
theorem c93 (p0:Option Addr)(aI aN:Nat)(w:World)(K:Value->World->Prop)(h:C93 p0 aI aN w K):Ret Tryz.prog 93 #[.slice p0 aI aN] w K:=aC (by kernel_rfl) Tryz.func93 (p:=pl93) (Eq.mpr (by kernel_rfl) h)
def C91 (p0:Option Addr)(aI aN:Nat)(w:World)(K:Value->World->Prop):Prop:=
 aq (.cells #[.int .i64 0,.string (⟨#[]⟩:ByteArray),.string (⟨#[]⟩:ByteArray),.string (⟨#[]⟩:ByteArray),.string (⟨#[]⟩:ByteArray),.int .i64 0,.int .i64 0,.nilIface,.bool false] 110) w (fun g1 w2=>aa ((aI:Int)==0)
 (av (ad g1) [.int .i64 0,.string (⟨#[]⟩:ByteArray),.string (⟨#[]⟩:ByteArray),.string (⟨#[]⟩:ByteArray),.string (⟨#[]⟩:ByteArray),.int .i64 0,.int .i64 0,.nilIface,.bool false] w2 (fun w3=>az nX (ad g1) w3 (fun(x4:iY)=>K (.tuple #[.agg (iO x4).toArray,.int .i64 2]) w3)))
 (bK p0 aI 0 1 (fun a5=>ae (.int .u8) a5 w2 (fun(x6:Int)=>aa (decide (x6 > 1))
 (av (ad g1) [.int .i64 0,.string (⟨#[]⟩:ByteArray),.string (⟨#[]⟩:ByteArray),.string (⟨#[]⟩:ByteArray),.string (⟨#[]⟩:ByteArray),.int .i64 0,.int .i64 0,.nilIface,.bool false] w2 (fun w7=>az nX (ad g1) w7 (fun(x8:iY)=>K (.tuple #[.agg (iO x8).toArray,.int .i64 2]) w7)))
 (eu p0 aN 1 aI aN 1 (fun a9 l10 c11=>ab Tryz.prog 93 #[.slice a9 l10 c11] w2 (.aP [.agg dR,.one (.int .i64)]) (fun(bw:bH×Int×Unit) aW=>aq (.cells #[.int .i64 0,.string (⟨#[]⟩:ByteArray),.string (⟨#[]⟩:ByteArray),.string (⟨#[]⟩:ByteArray),.string (⟨#[]⟩:ByteArray),.int .i64 0,.int .i64 0,.nilIface] 36) aW (fun g14 bL=>av (ad g14) [.int .i64 bw.1.1,.string bw.1.2.1,.string bw.1.2.2.1,.string bw.1.2.2.2.1,.string bw.1.2.2.2.2.1,.int .i64 bw.1.2.2.2.2.2.1,.int .i64 bw.1.2.2.2.2.2.2.1,bw.1.2.2.2.2.2.2.2.1] bL (fun br=>aa (bw.2.1 != 0)
 (av (ad g1) [.int .i64 0,.string (⟨#[]⟩:ByteArray),.string (⟨#[]⟩:ByteArray),.string (⟨#[]⟩:ByteArray),.string (⟨#[]⟩:ByteArray),.int .i64 0,.int .i64 0,.nilIface,.bool false] br (fun cD=>az nX (ad g1) cD (fun(bE:iY)=>K (.tuple #[.agg (iO bE).toArray,.int .i64 bw.2.1]) cD)))
 (aH br (fun bO=>az dR (ad g14) bO (fun(cm:bH)=>bK p0 aI 0 1 (fun a21=>ae (.int .u8) a21 bO (fun(cr:Int)=>av (ad g1) [.int .i64 cm.1,.string cm.2.1,.string cm.2.2.1,.string cm.2.2.2.1,.string cm.2.2.2.2.1,.int .i64 cm.2.2.2.2.2.1,.int .i64 cm.2.2.2.2.2.2.1,cm.2.2.2.2.2.2.2.1,.bool (cr==1)] bO (fun dW=>az nX (ad g1) dW (fun(cN:iY)=>K (.tuple #[.agg (iO cN).toArray,.int .i64 0]) dW))))))))))))))))
def pl91:aB:=(.seq .auto (.seq .auto (.seq .auto (.seq .auto (.seq (.tail 6) .auto)))))
theorem c91 (p0:Option Addr)(aI aN:Nat)(w:World)(K:Value->World->Prop)(h:C91 p0 aI aN w K):Ret Tryz.prog 91 #[.slice p0 aI aN] w K:=aC (by kernel_rfl) Tryz.func91 (p:=pl91) (Eq.mpr (by kernel_rfl) h)
end Go.Proofs.YtmkehncgjnhhcaaGreatDoor
