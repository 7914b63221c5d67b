/-
  Texts of this claim, put together: StrSpec, NumF, ReadF, LexF, TakeF, LedF, SipF, PackSpec2, VcNest, VcAggs, TreeSpec, RefTree, CWithin, WithinSpec, MakeSpec, MakeSpec2, VcPlan, RefEv, SomeSpec, CReadG, ReadSpec, ReadSpec2, BytesMore, LendB, CPackT.
  Conditions: those of each theorem.
-/
import Derived.Test.YtmkehncgjnhhcaaGreatDoorQNF22x0
import Derived.Test.YtmkehncgjnhhcaaGreatDoorQNF22x1
import Derived.ChangeSame
import Derived.ChangeSlices
import Derived.KernelRfl
import Derived.Laws.IdiomStrings
import Derived.Lib.ItoaNum
import Derived.Lib.RuneCount
import Derived.SliceStrings
import Derived.Test.YtmkehncgjnhhcaaGreatDoorProg
set_option linter.unusedVariables false
set_option maxRecDepth 100000
namespace Go.Proofs.YtmkehncgjnhhcaaGreatDoor
open Vc
theorem TM (a:List UInt8)(i j:Nat):(str a).extract i j=str ((a.drop i).take (j - i)):=by
 apply ByteArray.ext;rw[ByteArray.data_extract];unfold str;simp
theorem zD {a:List UInt8}{lo hi:Int}(h0:0<=lo)(h1:lo<=hi)(h2:hi<=a.length){K:ByteArray->Prop}(k:K (str ((a.drop lo.toNat).take (hi.toNat - lo.toNat)))):ug (str a) lo hi K:=
 ⟨h0,h1,by rw[dR];exact h2,by rw[TM];exact k⟩
theorem vc {a:List UInt8}{i:Int}(h0:0<=i)(h1:i<a.length){K:Int->Prop}(k:K ((a.getD i.toNat 0).toNat:Int)):oD (str a) i K:=by
 refine⟨a.getD i.toNat 0,h0,?_,k⟩;have aS:i.toNat<(str a).size:=by rw[dR];omega
 rw[getElem?_pos (str a) i.toNat aS,List.getD_eq_getElem?_getD,List.getElem?_eq_getElem (by omega)];rfl
theorem TN (a b:List UInt8)(w:World):Ret Tryz.prog 343 #[.string (str a),.string (str b)] w fun r w'=>r=.bool (decide (a.take b.length=b))/\w=w':=by
 refine c343 _ _ w _ ?_;unfold C343;rw[dR,dR];refine aa.dec (fun h=>?_) (fun h=>?_)
 ·refine zD (by omega) (by omega) (by omega) ?_
  rw[iW];exact⟨by simp,rfl⟩
 ·refine⟨?_,rfl⟩
  rw[decide_eq_false];intro t;have:=congrArg List.length t;rw[List.length_take] at this;omega
def dx (s:List UInt8):List UInt8:=if s.take 1=[45] then s.drop 1 else s
theorem TO (s:List UInt8)(w:World):Ret Tryz.prog 319 #[.string (str s),.string (str [45])] w fun r w'=>r=.string (str (dx s))/\w=w':=by
 refine c319 _ _ w _ ?_;refine ab.of (R:=fun r w'=>r=.string (str (dx s))/\w=w') ?_ (by rintro _ _ ⟨rfl,rfl⟩;exact⟨_,rfl,rfl,rfl⟩);refine c329 _ _ w _ ?_;refine ab.of (TN s [45] w) ?_;rintro _ _ ⟨rfl,rfl⟩;refine⟨_,rfl,?_⟩;unfold dx;refine aa.dec (fun h=>?_) (fun h=>?_)
 ·have h:s.take 1=[45]:=h
  have hl:1<=s.length:=by
   have:=congrArg List.length h;rw[List.length_take] at this;simp only[List.length_cons,List.length_nil] at this;omega
  rw[if_pos h,dR,dR];refine zD (by simp) (by simp only[List.length_cons,List.length_nil];omega) (by omega) ?_;refine⟨?_,rfl⟩;rw[List.take_of_length_le (by simp)];rfl
 ·have h:¬ s.take 1=[45]:=h
  rw[if_neg h];exact⟨rfl,rfl⟩
def oW (cs:List UInt8):List Value:=(List.range 256).map fun c=>.bool (decide (c∈cs.map (·.toNat)))
theorem rW (cs:List UInt8):(oW cs).length=256:=by unfold oW;simp
theorem FB (cs:List UInt8){c:Nat}(h:c<256):(oW cs)[c]? = some (.bool (decide (c∈cs.map (·.toNat)))):=by
 unfold oW;rw[List.getElem?_map,List.getElem?_range h];rfl
theorem Lt (cs:List UInt8):(oW cs).all bI=true:=by
 rw[List.all_eq_true];intro v hv;obtain⟨c,_,rfl⟩:=List.mem_map.1 hv;rfl
theorem TP (cs:List UInt8)(c:UInt8):(oW cs).set c.toNat (.bool true)=oW (cs++[c]):=by
 refine List.ext_getElem? fun i=>?_
 by_cases hi:i<256
 ·rw[FB _ hi,List.getElem?_set]
  by_cases hc:c.toNat=i
  ·rw[if_pos hc,if_pos (by rw[rW,hc];exact hi)]
   simp[hc]
  ·rw[if_neg hc,FB _ hi]
   congr 2
   refine decide_eq_decide.2 ?_;rw[List.map_append,List.mem_append];simp only[List.map_cons,List.map_nil,List.mem_singleton];exact⟨.inl,fun t=>t.elim id (fun t=>absurd t.symm hc)⟩
 ·rw[List.getElem?_eq_none (by rw[List.length_set,rW];omega),List.getElem?_eq_none (by rw[rW];omega)]
def pY (w:World)(g:Nat)(cs:List UInt8):Prop:=w.heap[g]? = some (.cells (oW cs).toArray 472 (0,0))
theorem pY.Lu {w:World}{g:Nat}{cs:List UInt8}(h:pY w g cs){K:List Value->Prop}(k:K (oW cs)):eI 256 (⟨g,0,none⟩:Addr) w K:=
 ⟨oW cs,rW cs,nP h _ 0 fun j _=>by simp,k⟩
theorem Lv {w:World}{g:Nat}{cs:List UInt8}(h:pY w g cs)(c:UInt8):Ret Tryz.prog 344 #[.pointer (some ⟨g,0,none⟩),.int .u8 (c.toNat:Int)] w fun r w'=>r=.bool (decide (c∈cs))/\w=w':=by
 refine c344 _ _ w _ ?_;have hc:=UInt8.toNat_lt c;refine⟨by omega,by omega,?_⟩;rw[dP,Nat.mul_one,Int.toNat_natCast,Nat.zero_add];refine ae.of h (x:=decide (c∈cs)) ?_ ⟨rfl,rfl⟩;rw[List.getElem?_toArray,FB _ (by omega)]
 congr 2
 refine decide_eq_decide.2 ?_;rw[List.mem_map]
 constructor
 ·rintro⟨d,hd,e⟩
  rwa[<- UInt8.toNat_inj.1 e]
 ·intro t;exact⟨c,t,rfl⟩
theorem TQ (cs:List UInt8)(hcs:∀ c∈cs,c.toNat<128)(hl:cs.length<=1000)(w:World):Ret Tryz.prog 332 #[.string (str cs)] w fun r w'=>r=.tuple #[.agg (oW cs).toArray,.bool true]/\Fr none1 w w':=by
 refine c332 _ w _ ?_;unfold C332;refine ak.of fun g w1 hg df f1 _=>?_;have h1:pY w1 g []:=df;have F1:Fr (only g) w1 w1:=Fr.refl _ _;refine bw.of (fun s w'=>∃ n:Nat,s.1=n/\n<=cs.length/\pY w' g (cs.take n)/\Fr (only g) w1 w') (fun s _=>cs.length - s.1.toNat) ⟨0,rfl,by omega,h1,F1⟩ ?_;rintro _ ⟨i,_⟩ w2 ⟨n,hn,nY,h2,f2⟩;dsimp only at hn ⊢;subst hn;rw[dR];refine aa.dec (fun aS=>?_) (fun dQ=>?_)
 ·refine vc (by omega) (by omega) ?_
  rw[Int.toNat_natCast];have tc:cs.getD n 0∈cs:=by
   rw[List.getD_eq_getElem?_getD,List.getElem?_eq_getElem (by omega)];exact List.getElem_mem _
  have hc:=hcs _ tc;refine aa.no (by omega) ?_;refine⟨by omega,by omega,?_⟩;rw[dP,Nat.mul_one,Int.toNat_natCast,Nat.zero_add];refine aA.of h2 (by rw[List.size_toArray,rW];omega) rfl fun w3 h3 f3 _=>?_;rw[wI (x:=(n:Int)+1) (by omega) (by omega)];refine⟨⟨n+1,by omega,by omega,?_,f2.trans f3⟩,by omega⟩;unfold pY;rw[h3,List.setIfInBounds_toArray,TP];have:cs.take n++[cs.getD n 0]=cs.take (n+1):=by
   rw[List.take_succ_eq_append_getElem (by omega),List.getD_eq_getElem?_getD,List.getElem?_eq_getElem (by omega)];rfl
  rw[this]
 ·have:n=cs.length:=by omega
  subst this;rw[List.take_length] at h2;refine h2.Lu ?_;refine⟨rW cs,ar.aE h2 rfl (Lt cs) fun w3 h3 f3 _=>?_⟩;have h3:pY w3 g cs:=h3;refine h3.Lu ⟨rfl,(f1.fresh f2 (by omega)).fresh f3 (by omega)⟩
theorem TR {w:World}{g:Nat}{cs:List UInt8}(h:pY w g cs)(s:List UInt8)(hl:s.length<=1000000):Ret Tryz.prog 334 #[.string (str s),.pointer (some ⟨g,0,none⟩)] w fun r w'=>
  (∃ t u,r=.string (str t)/\s=t++u/\(∀ c∈u,c∈cs)/\(t=[]\/¬ t.getD (t.length - 1) 0∈cs))/\w=w':=by
 refine c334 _ _ w _ ?_;refine bw.of (fun q w'=>w=w'/\∃ t u,q.1=str t/\s=t++u/\∀ c∈u,c∈cs) (fun q _=>q.1.size) ⟨rfl,s,[],rfl,by simp,by simp⟩ ?_;rintro _ ⟨q,_⟩ _ ⟨rfl,t,u,hq,hs,hu⟩;dsimp only at hq ⊢;subst hq;have BY:t.length<=s.length:=by rw[hs,List.length_append];omega
 rw[dR];refine aa.dec (fun oJ=>?_) (fun hz=>?_)
 ·rw[wI (x:=(t.length:Int) - 1) (by omega) (by omega)]
  refine vc (by omega) (by omega) ?_;rw[show((t.length:Int) - 1).toNat=t.length - 1 by omega];refine ab.of (Lv h _) ?_;rintro _ _ ⟨rfl,rfl⟩;refine⟨_,rfl,?_⟩
  by_cases hc:t.getD (t.length - 1) 0∈cs
  ·refine aa.f (by rw[decide_eq_true hc];rfl) ?_
   refine zD (by omega) (by omega) (by omega) ?_;have e:(t.drop (0:Int).toNat).take (((t.length:Int) - 1).toNat - (0:Int).toNat)=t.take (t.length - 1):=by
    rw[show(0:Int).toNat=0 from rfl,List.drop_zero,show((t.length:Int) - 1).toNat - 0=t.length - 1 by omega]
   rw[e];refine⟨⟨rfl,t.take (t.length - 1),t.getD (t.length - 1) 0::u,rfl,?_,fun c qH=>?_⟩,?_⟩
   ·rw[hs]
    have:t=t.take (t.length - 1)++[t.getD (t.length - 1) 0]:=by
     conv=>lhs;rw[<- List.take_length (l:=t),show t.length=(t.length - 1)+1 by omega,List.take_succ_eq_append_getElem (by omega)]
     rw[List.getD_eq_getElem?_getD,List.getElem?_eq_getElem (by omega)];rfl
    conv=>lhs;rw[this]
    simp
   ·rcases List.mem_cons.1 qH with t' | t'
    ·rw[t'];exact hc
    ·exact hu c t'
   ·rw[dR,List.length_take];omega
  ·refine aa.t (by rw[decide_eq_false hc];rfl) ⟨⟨t,u,rfl,hs,hu,.inr hc⟩,rfl⟩
 ·exact⟨⟨t,u,rfl,hs,hu,.inl (List.eq_nil_of_length_eq_zero (by omega))⟩,rfl⟩
theorem TS {w:World}{g:Nat}{cs:List UInt8}(h:pY w g cs)(s:List UInt8)(hl:s.length<=1000000):Ret Tryz.prog 333 #[.string (str s),.pointer (some ⟨g,0,none⟩)] w fun r w'=>
  (∃ t u,r=.string (str t)/\s=u++t/\(∀ c∈u,c∈cs)/\(t=[]\/¬ t.getD 0 0∈cs))/\w=w':=by
 refine c333 _ _ w _ ?_;refine bw.of (fun q w'=>w=w'/\∃ t u,q.1=str t/\s=u++t/\∀ c∈u,c∈cs) (fun q _=>q.1.size) ⟨rfl,s,[],rfl,by simp,by simp⟩ ?_;rintro _ ⟨q,_⟩ _ ⟨rfl,t,u,hq,hs,hu⟩;dsimp only at hq ⊢;subst hq;have BY:t.length<=s.length:=by rw[hs,List.length_append];omega
 rw[dR];refine aa.dec (fun oJ=>?_) (fun hz=>?_)
 ·refine vc (by omega) (by omega) ?_
  rw[show(0:Int).toNat=0 from rfl];refine ab.of (Lv h _) ?_;rintro _ _ ⟨rfl,rfl⟩;refine⟨_,rfl,?_⟩
  by_cases hc:t.getD 0 0∈cs
  ·refine aa.f (by rw[decide_eq_true hc];rfl) ?_
   refine zD (by omega) (by omega) (by omega) ?_;have e:(t.drop (1:Int).toNat).take (((t.length:Nat):Int).toNat - (1:Int).toNat)=t.drop 1:=by
    rw[show(1:Int).toNat=1 from rfl,List.take_of_length_le (by rw[List.length_drop];omega)]
   rw[e];refine⟨⟨rfl,t.drop 1,u++[t.getD 0 0],rfl,?_,fun c qH=>?_⟩,?_⟩
   ·rw[hs]
    cases t with
    | nil=>simp at oJ
    | cons x t=>simp
   ·rcases List.mem_append.1 qH with t' | t'
    ·exact hu c t'
    ·simp only[List.mem_singleton] at t';rw[t'];exact hc
   ·rw[dR,List.length_drop];omega
  ·refine aa.t (by rw[decide_eq_false hc];rfl) ⟨⟨t,u,rfl,hs,hu,.inr hc⟩,rfl⟩
 ·exact⟨⟨t,u,rfl,hs,hu,.inl (List.eq_nil_of_length_eq_zero (by omega))⟩,rfl⟩
theorem TT (s cs:List UInt8)(ay:s≠[])(hcs:∀ c∈cs,c.toNat<128)(h2:2<=cs.length)(eD:cs.length<=1000)(hl:s.length<=1000000)(w:World):Ret Tryz.prog 320 #[.string (str s),.string (str cs)] w fun r w'=>
  (∃ v,r=.string (str v)/\(v=[]↔∀ c∈s,c∈cs))/\Fr none1 w w':=by
 refine c320 _ _ w _ ?_;unfold C320;have e0:(⟨#[]⟩:ByteArray)=str []:=rfl;rw[e0,iW,iW];refine aa.no ay (aa.no (fun t=>by rw[t] at h2;simp at h2) ?_);refine cq.of (fun q w'=>q.1=false/\w=w') ?_ ?_
 ·refine aa.f ?_ ⟨rfl,rfl⟩
  rw[dR,beq_eq_false_iff_ne];omega
 rintro _ ⟨q,_⟩ _ ⟨hq,rfl⟩;dsimp only at hq;subst hq;refine aa.f rfl ?_;refine ab.of (TQ cs hcs eD w) ?_;rintro _ w1 ⟨rfl,f1⟩;refine⟨(oW cs,true,()),rfl,?_⟩;refine ak.of fun g w2 hg mz f2 _=>?_;have BZ:pY w2 g []:=mz;refine⟨rW cs,ar.aE BZ (by rw[rW,rW]) (Lt cs) fun w3 h3 f3 _=>?_⟩;have h3:pY w3 g cs:=h3;refine aa.t rfl ?_;refine ab.of (TR h3 s hl) ?_;rintro _ _ ⟨⟨t,u,rfl,hs,hu,ht⟩,rfl⟩;refine⟨_,rfl,?_⟩;have BY:t.length<=s.length:=by rw[hs,List.length_append];omega
 refine ab.of (TS h3 t (by omega)) ?_;rintro _ _ ⟨⟨v,u',rfl,Lw,TU,hv⟩,rfl⟩;refine⟨_,rfl,⟨v,rfl,?_⟩,f1.trans (f2.fresh f3 (by omega))⟩
 constructor
 ·intro tu c hc
  rw[hs,Lw,tu,List.append_nil] at hc
  rcases List.mem_append.1 hc with hc | hc
  ·exact TU c hc
  ·exact hu c hc
 ·intro hall
  rcases hv with hv | hv
  ·exact hv
  ·cases v with
   | nil=>rfl
   | cons x v=>
    refine absurd (hall x ?_) hv;rw[hs,Lw];simp
def gN (c:UInt8):Bool:=decide (48<=c.toNat)&&decide (c.toNat<=57)
def B0:List UInt8:=[48,49,50,51,52,53,54,55,56,57]
theorem Lx (c:UInt8):c∈B0↔gN c=true:=by
 have hc:=UInt8.toNat_lt c
 constructor
 ·intro h
  have h:c=48\/c=49\/c=50\/c=51\/c=52\/c=53\/c=54\/c=55\/c=56\/c=57:=by simpa[B0] using h
  rcases h with h | h | h | h | h | h | h | h | h | h<;>subst h<;>rfl
 ·intro h
  have h:48<=c.toNat/\c.toNat<=57:=by simpa[gN] using h
  obtain⟨n,hn⟩:∃ n,c.toNat=n:=⟨_,rfl⟩;have e:c=UInt8.ofNat n:=by rw[<- hn];exact(UInt8.ofNat_toNat).symm
  have:n=48\/n=49\/n=50\/n=51\/n=52\/n=53\/n=54\/n=55\/n=56\/n=57:=by omega
  rcases this with t | t | t | t | t | t | t | t | t | t<;>(rw[t] at e;rw[e];decide)
def gi (d:List UInt8):Int:=d.foldl (fun n c=>n * 10+((c.toNat:Int) - 48)) 0
theorem B1 (d:List UInt8)(c:UInt8):gi (d++[c])=gi d * 10+((c.toNat:Int) - 48):=by unfold gi;rw[List.foldl_append];rfl
theorem FC:∀ (d:List UInt8) (n:Int),0<=n->(∀ c∈d,gN c=true)->0<=d.foldl (fun n c=>n * 10+((c.toNat:Int) - 48)) n/\d.foldl (fun n c=>n * 10+((c.toNat:Int) - 48)) n<(n+1) * ((10 ^ d.length:Nat):Int)
 | [],n,h0,_=>by simp;omega
 | c::d,n,h0,h=>by
  have hc:48<=c.toNat/\c.toNat<=57:=by simpa[gN] using h c (by simp)
  obtain⟨i1,i2⟩:=FC d (n * 10+((c.toNat:Int) - 48)) (by omega) (fun x hx=>h x (by simp[hx]));refine⟨i1,Int.lt_of_lt_of_le i2 ?_⟩;have e:(n+1) * ((10 ^ (c::d).length:Nat):Int)=(n * 10+10) * ((10 ^ d.length:Nat):Int):=by
   rw[List.length_cons,Nat.pow_succ,Int.natCast_mul,Int.mul_comm ((10 ^ d.length:Nat):Int),<- Int.mul_assoc]
   congr 1
   omega
  rw[e];exact Int.mul_le_mul_of_nonneg_right (by omega) (Int.natCast_nonneg _)
theorem B2 (d:List UInt8)(h:∀ c∈d,gN c=true)(hl:d.length<=18):0<=gi d/\gi d<1000000000000000000:=by
 obtain⟨a,b⟩:=FC d 0 (Int.le_refl _) h;have:10 ^ d.length<=10 ^ 18:=Nat.pow_le_pow_right (by decide) hl;unfold gi;omega
theorem TW {w:World}(s:List UInt8):∃ (v:Sl) (w':World),(convert 9 22 (.string (str s))).run Tryz.prog w=.ok (.slice v.1 v.2.1 v.2.2) w'/\dr w' 1 v (s.map fun b=>Value.int .u8 (b.toNat:Int))/\v.2.1=s.length/\Fr none1 w w':=by
 refine⟨(some ⟨w.heap.size,0,none⟩,(str s).size,_),_,run_bytes_of_string w 9 22 5 (str s) Tryz.underlying9 Tryz.underlying22 Tryz.underlying5,?_,dR s,?_⟩
 ·refine⟨by rw[List.length_map,Nat.mul_one];exact(dR s).symm,(fun t=>nomatch t),fun a ha=>?_⟩
  injection ha with ha
  subst ha;refine nP (Array.getElem?_push_size ..) _ 0 fun j hj=>?_;rw[List.length_map] at hj;unfold bytesRow;rw[Nat.zero_add,Array.getElem?_append_left (by unfold str;simpa using hj)];unfold str;simp
 ·exact(wo w).trans (mf _ _)
theorem TX (s d:List UInt8)(neg:Bool)(hs:s=(if neg then 45::d else d))(ay:d≠[])(hd:∀ c∈d,gN c=true)(hl:s.length<19)(w:World):
  Ret Tryz.prog 337 #[.string (str s)] w fun r w'=>r=.tuple #[.int .i64 (if neg then -(gi d) else gi d),.nilIface]/\Fr none1 w w':=by
 refine c337 _ w _ ?_;unfold C337;have nZ:0<d.length:=List.length_pos_iff.2 ay;have jK:s.length=d.length+(if neg then 1 else 0):=by rw[hs];cases neg<;>simp
 have TY:d.length<=18:=by omega
 have h0:0<s.length:=by omega
 have zE:48<=(d.getD 0 0).toNat/\(d.getD 0 0).toNat<=57:=by
  have:gN (d.getD 0 0)=true:=hd _ (by rw[List.getD_eq_getElem?_getD,List.getElem?_eq_getElem nZ];exact List.getElem_mem _);simpa[gN] using this
 have qI:((s.getD 0 0).toNat=45/\neg=true)\/(48<=(s.getD 0 0).toNat/\(s.getD 0 0).toNat<=57/\neg=false):=by
  rw[hs];cases neg with
  | true=>exact .inl ⟨rfl,rfl⟩
  | false=>exact .inr ⟨zE.1,zE.2,rfl⟩
 refine cq.of (fun q w'=>q.1=true/\w=w') ?_ ?_
 ·rw[dR]
  refine aa.yes (by omega) ⟨decide_eq_true (by omega),rfl⟩
 rintro _ ⟨q,_⟩ _ ⟨hq,rfl⟩;dsimp only at hq;subst hq;refine aa.t rfl ?_;refine cq.of (fun q w'=>q.1=str d/\w=w') ?_ ?_
 ·refine cq.of (fun q w'=>q.1=neg/\w=w') ?_ ?_
  ·refine vc (by omega) (by omega) ?_
   rw[show(0:Int).toNat=0 from rfl];refine aa.eq (fun h=>?_) (fun h=>?_)
   ·refine⟨?_,rfl⟩
    rcases qI with⟨_,hn⟩ | ⟨h1,_,_⟩
    ·exact hn.symm
    ·omega
   ·refine vc (by omega) (by omega) ⟨?_,rfl⟩
    rw[show(0:Int).toNat=0 from rfl]
    rcases qI with⟨h1,_⟩ | ⟨h1,_,hn⟩
    ·omega
    ·rw[hn];simp only[beq_eq_false_iff_ne];omega
  rintro _ ⟨q,_⟩ _ ⟨hq,rfl⟩;dsimp only at hq;subst hq;refine aa.by (fun hn=>?_) (fun hn=>?_)
  ·subst hn
   refine zD (by omega) (by rw[dR];omega) (by rw[dR];omega) ?_;have e:(s.drop (1:Int).toNat).take (((str s).size:Int).toNat - (1:Int).toNat)=d:=by
    rw[dR,hs];simp
   rw[e,dR];refine aa.no (by omega) ⟨rfl,rfl⟩
  ·subst hn
   refine⟨?_,rfl⟩;show str s=str d;rw[hs];rfl
 rintro _ ⟨q,_⟩ _ ⟨hq,rfl⟩;dsimp only at hq;subst hq;obtain⟨v,w1,r1,hv,cM,f1⟩:=TW (w:=w) d;refine⟨v,w1,r1,?_⟩;refine bw.of (fun q w'=>w1=w'/\∃ n:Nat,q.2.1=n/\n<=d.length/\q.1=gi (d.take n)) (fun q _=>d.length - q.2.1.toNat) ⟨rfl,0,rfl,by omega,rfl⟩ ?_;rintro _ ⟨m,i,_⟩ _ ⟨rfl,n,hn,nY,hm⟩;dsimp only at hn hm ⊢;subst hn;subst hm;refine aa.dec (fun aS=>?_) (fun dQ=>?_)
 ·have tc:d.getD n 0∈d:=by rw[List.getD_eq_getElem?_getD,List.getElem?_eq_getElem (by omega)];exact List.getElem_mem _
  have hc:48<=(d.getD n 0).toNat/\(d.getD n 0).toNat<=57:=by simpa[gN] using hd _ tc
  refine dr.ld hv (by omega) aS (x:=((d.getD n 0).toNat:Int)) (by rw[Int.toNat_natCast,List.getElem?_map,List.getD_eq_getElem?_getD,List.getElem?_eq_getElem (by omega)];rfl) ?_;have e1:IntKind.u8.wrap (((d.getD n 0).toNat:Int) - 48)=((d.getD n 0).toNat:Int) - 48:=by rw[IntKind.wrap_u8];omega
  rw[e1];refine aa.no (by omega) ?_;obtain⟨b1,b2⟩:=B2 (d.take n) (fun c hc=>hd c (List.mem_of_mem_take hc)) (by rw[List.length_take];omega);rw[wI (x:=((d.getD n 0).toNat:Int) - 48) (by omega) (by omega)];obtain⟨b3,b4⟩:=B2 (d.take (n+1)) (fun c hc=>hd c (List.mem_of_mem_take hc)) (by rw[List.length_take];omega);have e2:d.take (n+1)=d.take n++[d.getD n 0]:=by
   rw[List.take_succ_eq_append_getElem (by omega),List.getD_eq_getElem?_getD,List.getElem?_eq_getElem (by omega)];rfl
  rw[e2,B1] at b3 b4;rw[wI (x:=gi (d.take n) * 10) (by omega) (by omega),wI (x:=gi (d.take n) * 10+(((d.getD n 0).toNat:Int) - 48)) (by omega) (by omega),wI (x:=(n:Int)+1) (by omega) (by omega)];refine⟨⟨rfl,n+1,by omega,by omega,?_⟩,by omega⟩;rw[e2,B1]
 ·have:n=d.length:=by omega
  subst this;rw[List.take_length];obtain⟨b1,b2⟩:=B2 d hd TY;refine vc (by omega) (by omega) ?_;rw[show(0:Int).toNat=0 from rfl]
  rcases qI with⟨h1,hn⟩ | ⟨h1,h2,hn⟩
  ·subst hn
   refine aa.t (by rw[h1];rfl) ?_;rw[wI (x:=0 - gi d) (by omega) (by omega),Int.zero_sub];exact⟨rfl,f1⟩
  ·subst hn
   refine aa.f (by simp only[beq_eq_false_iff_ne];omega) ⟨rfl,f1⟩
theorem FD {t:TypeId}(ht:∃ ms,Tryz.prog.underlying t=some (.interface ms))(o:Operand)(w:World):
  (do eqGuard .neq t o (.const .nilIface) .nilIface .nilIface;binOp .neq t .nilIface .nilIface:Sem Value).run Tryz.prog w=.ok (.bool false) w:=by
 obtain⟨ms,ht⟩:=ht;have h1:(eqGuard .neq t o (.const .nilIface) .nilIface .nilIface).run Tryz.prog w=.ok () w:=by
  unfold eqGuard;simp
 rw[Sem.run_bind,h1,Result.andThen_ok];have h2:(Op.equalIn (9999+1) t .nilIface .nilIface).run Tryz.prog w=.ok true w:=by
  unfold Op.equalIn;simp only[Sem.run_bind,under ht,Result.andThen_ok,Sem.run_pure]
 show(do pure (Value.bool (!(<- Op.equalIn (9999+1) t .nilIface .nilIface))):Sem Value).run Tryz.prog w=_
 rw[Sem.run_bind,h2];rfl
theorem Ly (s d:List UInt8)(neg:Bool)(hs:s=(if neg then 45::d else d))(ay:d≠[])(hd:∀ c∈d,gN c=true)(hl:s.length<19)(w:World):
  Ret Tryz.prog 321 #[.string (str s)] w fun r w'=>r=.tuple #[.int .i64 (if neg then -(gi d) else gi d),.nilIface]/\Fr none1 w w':=by
 refine c321 _ w _ ?_;refine ab.of (TX s d neg hs ay hd hl w) ?_;rintro _ w1 ⟨rfl,f1⟩;refine⟨(_,.nilIface,()),rfl,?_⟩;refine⟨false,w1,FD ⟨_,Tryz.underlying422⟩ _ w1,aa.f rfl ⟨rfl,f1⟩⟩
def fU (s:List UInt8):Int×Bool:=
 if dx s=[]\/13<(dx s).length\/(dx s).all gN=false\/((dx s).getD 0 0=48/\s≠[48]) then(0,false) else
 if 1000000000000<gi (dx s) then(0,false) else(if s.take 1=[45] then -(gi (dx s)) else gi (dx s),true)
theorem B3 (s:List UInt8)(hl:s.length<=100000)(w:World):Ret Tryz.prog 303 #[.string (str s)] w fun r w'=>r=.tuple #[.int .i64 (fU s).1,.bool (fU s).2]/\Fr none1 w w':=by
 refine c303 _ w _ ?_;unfold C303;have e0:(⟨#[]⟩:ByteArray)=str []:=rfl;have e45:(⟨#[45]⟩:ByteArray)=str [45]:=rfl;have e48:(⟨#[48]⟩:ByteArray)=str [48]:=rfl;have ed:(⟨#[48,49,50,51,52,53,54,55,56,57]⟩:ByteArray)=str B0:=rfl;rw[e0,e45,e48,ed];refine ab.of (TO s w) ?_;rintro _ _ ⟨rfl,rfl⟩;refine⟨_,rfl,?_⟩;have nZ:(dx s).length<=s.length:=by unfold dx;split<;>simp
 refine cq.of (fun q w'=>q.1=decide (dx s=[]\/13<(dx s).length\/(dx s).all gN=false\/((dx s).getD 0 0=48/\s≠[48]))/\Fr none1 w w') ?_ ?_
 ·rw[iW]
  refine aa.dec (fun h=>?_) (fun h=>?_)
  ·exact⟨(decide_eq_true (.inl h)).symm,Fr.refl _ _⟩
  rw[dR];refine aa.dec (fun h2=>?_) (fun h2=>?_)
  ·exact⟨(decide_eq_true (.inr (.inl (by omega)))).symm,Fr.refl _ _⟩
  refine ab.of (TT (dx s) B0 h (by decide) (by decide) (by decide) (by omega) w) ?_;rintro _ w1 ⟨⟨v,rfl,hv⟩,f1⟩;refine⟨_,rfl,?_⟩;rw[iW];have hall:v=[]↔(dx s).all gN=true:=by
   rw[hv,List.all_eq_true];exact⟨fun t c hc=>(Lx c).1 (t c hc),fun t c hc=>(Lx c).2 (t c hc)⟩
  by_cases tu:v=[]
  ·refine aa.f (by simp[tu]) ?_
   have ha:=hall.1 tu;have oJ:0<(dx s).length:=List.length_pos_iff.2 h;refine vc (by omega) (by omega) ?_;rw[show(0:Int).toNat=0 from rfl];refine aa.eq (fun Lz=>?_) (fun Lz=>?_)
   ·refine⟨?_,f1⟩
    have TZ:(dx s).getD 0 0=48:=UInt8.toNat_inj.1 (by have:(48:UInt8).toNat=48:=rfl;omega);rw[iW]
    by_cases B4:s=[48]
    ·rw[decide_eq_true B4,decide_eq_false]
     ·rfl
     ·rintro(t | t | t | t)
      ·exact h t
      ·omega
      ·rw[ha] at t;cases t
      ·exact t.2 B4
    ·rw[decide_eq_false B4,decide_eq_true (.inr (.inr (.inr ⟨TZ,B4⟩)))];rfl
   ·refine⟨?_,f1⟩
    rw[decide_eq_false];rintro(t | t | t | t)
    ·exact h t
    ·omega
    ·rw[ha] at t;cases t
    ·exact Lz (by rw[t.1];rfl)
  ·refine aa.t (by simp[tu]) ⟨?_,f1⟩
   refine(decide_eq_true (.inr (.inr (.inl ?_)))).symm;have:=fun t=>tu (hall.2 t);simpa using this
 rintro _ ⟨q,_⟩ w1 ⟨hq,f1⟩;dsimp only at hq;subst hq;unfold fU;refine aa.dec (fun h=>?_) (fun h=>?_)
 ·rw[if_pos h];exact⟨rfl,f1⟩
 rw[if_neg h];have ay:dx s≠[]:=fun t=>h (.inl t);have LA:(dx s).length<=13:=by
  by_cases t:13<(dx s).length
  ·exact absurd (.inr (.inl t)) h
  ·omega
 have hall:∀ c∈dx s,gN c=true:=by
  have:(dx s).all gN=true:=by
   cases ha:(dx s).all gN with
   | true=>rfl
   | false=>exact absurd (.inr (.inr (.inl ha))) h
  exact List.all_eq_true.1 this
 have xk:s=(if decide (s.take 1=[45]) then 45::dx s else dx s):=by
  unfold dx
  by_cases t:s.take 1=[45]
  ·rw[if_pos (decide_eq_true t),if_pos t]
   conv=>lhs;rw[<- List.take_append_drop 1 s,t]
   rfl
  ·rw[if_neg (by simpa using t),if_neg t]
 have jK:s.length<=14:=by
  rw[xk];split
  ·simp only[List.length_cons];omega
  ·omega
 obtain⟨b1,b2⟩:=B2 (dx s) hall (by omega)
 by_cases hn:s.take 1=[45]
 ·rw[if_pos (decide_eq_true hn)] at xk
  rw[if_pos hn];refine ab.of (Ly s (dx s) true xk ay hall (by omega) w1) ?_;rintro _ w2 ⟨rfl,f2⟩;refine⟨(-(gi (dx s)),.nilIface,()),rfl,?_⟩;refine⟨false,w2,FD ⟨_,Tryz.underlying422⟩ _ w2,aa.f rfl ?_⟩;have f12:=f1.trans f2;refine aa.dec (fun h1=>?_) (fun h1=>?_)
  ·rw[if_pos (by omega)];exact⟨rfl,f12⟩
  ·rw[if_neg (by omega)]
   refine aa.no (by omega) ⟨rfl,f12⟩
 ·rw[if_neg (by simpa using hn)] at xk
  rw[if_neg hn];refine ab.of (Ly s (dx s) false xk ay hall (by omega) w1) ?_;rintro _ w2 ⟨rfl,f2⟩;refine⟨(gi (dx s),.nilIface,()),rfl,?_⟩;refine⟨false,w2,FD ⟨_,Tryz.underlying422⟩ _ w2,aa.f rfl ?_⟩;have f12:=f1.trans f2;refine aa.no (by omega) ?_;refine aa.dec (fun h1=>?_) (fun h1=>?_)
  ·rw[if_pos (by omega)];exact⟨rfl,f12⟩
  ·rw[if_neg (by omega)];exact⟨rfl,f12⟩
theorem FE {n:Nat}(h:n<10):Lib.decDigits n=[UInt8.ofNat (48+n)]:=Lib.decDigits_one h
theorem LB {n:Nat}(h:¬ n<10):Lib.decDigits n=Lib.decDigits (n / 10)++[UInt8.ofNat (48+n % 10)]:=by rw[Lib.decDigits,dif_neg h]
theorem LC {k:Nat}(h:k<10):gN (UInt8.ofNat (48+k))=true:=by
 unfold gN;rw[mU (by omega),decide_eq_true (by omega),decide_eq_true (by omega)];rfl
theorem LD {c:UInt8}(h:gN c=true):48<=c.toNat/\c.toNat<=57:=by
 unfold gN at h;simp only[Bool.and_eq_true,decide_eq_true_eq] at h;exact h
theorem xl:∀ n:Nat,Lib.decDigits n≠[]/\(∀ c∈Lib.decDigits n,gN c=true)/\gi (Lib.decDigits n)=n/\((Lib.decDigits n).getD 0 0=48->n=0)/\(∀ k:Nat,1<=k->n<10 ^ k->(Lib.decDigits n).length<=k):=by
 intro n
 induction n using Nat.strongRecOn with
 | _ n ih=>
  by_cases h:n<10
  ·rw[FE h]
   refine⟨by simp,fun c hc=>?_,?_,fun t=>?_,fun k U _=>by simpa using U⟩
   ·simp only[List.mem_singleton] at hc;rw[hc];exact LC h
   ·show(0:Int) * 10+(((UInt8.ofNat (48+n)).toNat:Int) - 48)=n
    rw[mU (by omega)];omega
   ·have t:UInt8.ofNat (48+n)=48:=t
    have:=congrArg UInt8.toNat t;rw[mU (by omega)] at this;have e:(48:UInt8).toNat=48:=rfl;omega
  ·obtain⟨i1,i2,i3,i4,i5⟩:=ih (n / 10) (by omega)
   rw[LB h];refine⟨by simp,fun c hc=>?_,?_,fun t=>?_,fun k U aS=>?_⟩
   ·rcases List.mem_append.1 hc with hc | hc
    ·exact i2 c hc
    ·simp only[List.mem_singleton] at hc;rw[hc];exact LC (by omega)
   ·rw[B1,i3,mU (by omega)];omega
   ·have hp:0<(Lib.decDigits (n / 10)).length:=List.length_pos_iff.2 i1
    rw[List.getD_eq_getElem?_getD,List.getElem?_append_left hp,<- List.getD_eq_getElem?_getD] at t;have:=i4 t;omega
   ·obtain⟨k',rfl⟩:∃ k',k=k'+1:=⟨k - 1,by omega⟩
    have rX:1<=k':=by
     cases k' with
     | zero=>simp at aS;omega
     | succ k'=>omega
    have vd:n / 10<10 ^ k':=by rw[Nat.pow_succ] at aS;omega
    have:=i5 k' rX vd;simp only[List.length_append,List.length_singleton];omega
theorem LF {n:Nat}(h:n<=1000000000000):(Lib.decDigits n).length<=13:=(xl n).2.2.2.2 13 (by omega) (by omega)
theorem T0 (s:List UInt8):dx (45::s)=s:=by unfold dx;rw[if_pos (by simp)];rfl
theorem T1 {s:List UInt8}(h:∀ c∈s,gN c=true):dx s=s/\s.take 1≠[45]:=by
 have ht:s.take 1≠[45]:=fun t=>by
  cases s with
  | nil=>simp at t
  | cons c l=>
   have hc:=h c (by simp);simp at t;rw[t] at hc;exact absurd hc (by decide)
 exact⟨by unfold dx;rw[if_neg ht],ht⟩
theorem T2 {n:Nat}(h:n<=1000000000000):fU (Lib.decDigits n)=((n:Int),true):=by
 obtain⟨ay,hd,hv,h0,_⟩:=xl n;have LA:=LF h;obtain⟨jU,uy⟩:=T1 hd;unfold fU;rw[jU,if_neg,hv,if_neg (by omega),if_neg uy];rintro(t | t | t | t)
 ·exact ay t
 ·omega
 ·rw[List.all_eq_true.2 hd] at t;cases t
 ·have:=h0 t.1
  subst this;exact t.2 (by rw[FE (by omega)];rfl)
theorem T3 {n:Nat}(h:n<=1000000000000)(hn:n≠0):fU (45::Lib.decDigits n)=(-(n:Int),true):=by
 obtain⟨ay,hd,hv,h0,_⟩:=xl n;have LA:=LF h;unfold fU;rw[T0,if_neg,hv,if_neg (by omega),if_pos (by simp)];rintro(t | t | t | t)
 ·exact ay t
 ·omega
 ·rw[List.all_eq_true.2 hd] at t;cases t
 ·exact hn (h0 t.1)
theorem LG {n:Int}(h0:-1000000000000<=n)(h1:n<=1000000000000):fU (Lib.itoa n)=(n,true):=by
 unfold Lib.itoa
 by_cases h:n<0
 ·rw[if_pos h,T3 (by omega) (by omega)]
  congr 1;omega
 ·rw[if_neg h,T2 (by omega)]
  congr 1;omega
theorem T4 {α:Type}{Q:List α->Prop}(h0:Q [])(h1:∀ l a,Q l->Q (l++[a]))(l:List α):Q l:=by
 have:∀ r:List α,Q r.reverse:=fun r=>by
  induction r with
  | nil=>exact h0
  | cons a r ih=>rw[List.reverse_cons];exact h1 _ _ ih
 have:=this l.reverse;rwa[List.reverse_reverse] at this
theorem T5 (d:List UInt8)(h:∀ c∈d,gN c=true):0<=gi d:=(FC d 0 (by omega) h).1
theorem LH:∀ d:List UInt8,d≠[]->(∀ c∈d,gN c=true)->(d.getD 0 0=48->d=[48])->Lib.decDigits (gi d).toNat=d/\(d≠[48]->1<=gi d):=by
 intro d
 induction d using T4 with
 | h0=>intro h;exact absurd rfl h
 | h1 e c ih=>
  intro _ hd hz;have hc:=LD (hd c (by simp));have hv:=B1 e c;have LI:UInt8.ofNat (48+(c.toNat - 48))=c:=by rw[show 48+(c.toNat - 48)=c.toNat by omega];exact UInt8.ofNat_toNat
  by_cases he:e=[]
  ·subst he
   have tu:gi []=0:=rfl;rw[List.nil_append] at *;have:gi [c]=(c.toNat:Int) - 48:=by rw[hv,tu];omega
   rw[this];refine⟨?_,fun ay=>?_⟩
   ·rw[show((c.toNat:Int) - 48).toNat=c.toNat - 48 by omega,FE (by omega),LI]
   ·have:c≠48:=fun t=>ay (by rw[t])
    have:c.toNat≠48:=fun t=>this (by rw[<- UInt8.toNat_inj];exact t);omega
  ·have hp:0<e.length:=List.length_pos_iff.2 he
   have hg:(e++[c]).getD 0 0=e.getD 0 0:=by rw[List.getD_eq_getElem?_getD,List.getElem?_append_left hp,<- List.getD_eq_getElem?_getD]
   have LJ:e.getD 0 0≠48:=fun t=>by
    have:=hz (hg.trans t);have:=congrArg List.length this;rw[List.length_append,List.length_singleton,List.length_singleton] at this;omega
   obtain⟨i1,i2⟩:=ih he (fun c hc=>hd c (by simp[hc])) (fun t=>absurd t LJ);have tv:=i2 (fun t=>LJ (by rw[t];rfl));rw[hv];refine⟨?_,fun _=>by omega⟩;rw[LB (n:=(gi e * 10+((c.toNat:Int) - 48)).toNat) (by omega),show(gi e * 10+((c.toNat:Int) - 48)).toNat / 10=(gi e).toNat by omega,i1,show(gi e * 10+((c.toNat:Int) - 48)).toNat % 10=c.toNat - 48 by omega,LI]
theorem LK {s:List UInt8}(h:(fU s).2=true):s=Lib.itoa (fU s).1/\-1000000000000<=(fU s).1/\(fU s).1<=1000000000000:=by
 unfold fU at h ⊢;split at h
 ·cases h
 rename_i hc;split at h
 ·cases h
 rename_i hb;rw[if_neg hc,if_neg hb];simp only[not_or] at hc;obtain⟨h1,h2,h3,h4⟩:=hc;have hd:∀ c∈dx s,gN c=true:=by
  have:(dx s).all gN=true:=by cases h:(dx s).all gN;exact absurd h h3;rfl
  exact List.all_eq_true.1 this
 have hn:=T5 _ hd
 by_cases hm:s.take 1=[45]
 ·have hs:s=45::dx s:=by
   unfold dx;rw[if_pos hm];cases s with
   | nil=>simp at hm
   | cons c l=>simp at hm;subst hm;rfl
  have hz:(dx s).getD 0 0≠48:=fun t=>h4 ⟨t,fun e=>by rw[e] at hm;simp at hm⟩;obtain⟨i1,i2⟩:=LH _ h1 hd (fun t=>absurd t hz);have:=i2 (fun t=>hz (by rw[t];rfl));rw[if_pos hm];refine⟨?_,by dsimp only;omega,by dsimp only;omega⟩;dsimp only;unfold Lib.itoa;rw[if_pos (by omega),show(-gi (dx s)).natAbs=(gi (dx s)).toNat by omega,i1];exact hs
 ·have hs:dx s=s:=by unfold dx;rw[if_neg hm]
  rw[if_neg hm];rw[hs] at h1 h2 h3 h4 hb hn hd ⊢;obtain⟨i1,i2⟩:=LH s h1 hd (fun t=>by
   by_cases e:s=[48]
   ·exact e
   ·exact absurd ⟨t,e⟩ h4)
  refine⟨?_,by dsimp only;omega,by dsimp only;omega⟩;dsimp only;unfold Lib.itoa;rw[if_neg (by omega),i1]
structure RS where
 l:List dH
 at_:Int
 e:Int
def FF (fin:Int)(s:RS):Int:=match s.l with | x::_=>x.2 | []=>fin
def kQ (fin c:Int)(s:RS):RS:=if s.e=0 then⟨s.l,FF fin s,c⟩ else s
def cn (fin:Int)(right:List UInt8->Bool)(s:RS):List UInt8×RS:=
 if s.e=0 then match s.l with
  | []=>([],⟨[],fin,2⟩)
  | x::l=>if right x.1=true then(x.1,⟨l,s.at_,0⟩) else([],⟨x::l,x.2,2⟩)
 else([],s)
def dy (fin:Int)(x:List UInt8)(s:RS):RS:=(cn fin (fun y=>decide (y=x)) s).2
def gZ (x:List UInt8):Bool:=(fU x).2||(x==[102,105,120]||(x==[97,100,100]||(x==[110,101,103]||(x==[109,117,108]||x==[109,97,120]))))
def gv (x:List UInt8):Bool:=x==[122,101,114,111]||(x==[111,110,101]||(x==[103,105,118,101]||(x==[97,110,100]||(x==[111,114]||(x==[115,99,97,108,101]||(x==[119,104,101,110]||x==[105,102]))))))
def lN (x:List UInt8):Bool:=(fU x).2&&(decide (0<=(fU x).1)&&decide ((fU x).1<=10000))
def hU (fin:Int)(rec:RS->Ob×RS)(s:RS):Ob×Ob×RS:=
 ((rec (dy fin [40] s)).1,(rec (dy fin [44] (rec (dy fin [40] s)).2)).1,dy fin [41] (rec (dy fin [44] (rec (dy fin [40] s)).2)).2)
def rY (fin:Int)(rec:RS->Ob×RS)(x:List UInt8)(s:RS):Ob×RS:=
 if x=[102,105,120] then(.fix (cn fin eZ (dy fin [40] s)).1,dy fin [41] (cn fin eZ (dy fin [40] s)).2)
 else if x=[110,101,103] then(.neg (rec (dy fin [40] s)).1,dy fin [41] (rec (dy fin [40] s)).2)
 else if x=[97,100,100] then(.add (hU fin rec s).1 (hU fin rec s).2.1,(hU fin rec s).2.2)
 else if x=[109,117,108] then(.mul (hU fin rec s).1 (hU fin rec s).2.1,(hU fin rec s).2.2)
 else if x=[109,97,120] then(.max (hU fin rec s).1 (hU fin rec s).2.1,(hU fin rec s).2.2)
 else(.const (fU x).1,s)
def jc (fin:Int):Nat->RS->Ob×RS
 | 0,s=>(.none,kQ fin 5 s)
 | n+1,s=>if s.e≠0 then(.none,s) else if(cn fin gZ s).1=[] then(.none,(cn fin gZ s).2) else rY fin (jc fin n) (cn fin gZ s).1 (cn fin gZ s).2
def kR (fin:Int)(rec:RS->Tm×RS)(s:RS):Tm×RS:=((rec s).1,dy fin [41] (rec s).2)
def hZ (fin:Int)(rec:RS->Tm×RS)(s:RS):Tm×Tm×RS:=((rec s).1,(rec (dy fin [44] (rec s).2)).1,dy fin [41] (rec (dy fin [44] (rec s).2)).2)
def qY (fin:Int)(num:RS->Ob×RS)(rec:RS->Tm×RS)(x:List UInt8)(s:RS):Tm×RS:=
 if x=[111,110,101] then(.one (cn fin eZ s).1,dy fin [41] (cn fin eZ s).2)
 else if x=[103,105,118,101] then(.gD (kR fin rec s).1,(kR fin rec s).2)
 else if x=[97,110,100] then(.and (hZ fin rec s).1 (hZ fin rec s).2.1,(hZ fin rec s).2.2)
 else if x=[111,114] then
  (.or (cn fin eZ s).1 (hZ fin rec (dy fin [44] (cn fin eZ s).2)).1 (hZ fin rec (dy fin [44] (cn fin eZ s).2)).2.1,(hZ fin rec (dy fin [44] (cn fin eZ s).2)).2.2)
 else if x=[115,99,97,108,101] then(.scale (num s).1 (kR fin rec (dy fin [44] (num s).2)).1,(kR fin rec (dy fin [44] (num s).2)).2)
 else if x=[119,104,101,110] then
  (.when (fU (cn fin lN s).1).1 (kR fin rec (dy fin [44] (cn fin lN s).2)).1,(kR fin rec (dy fin [44] (cn fin lN s).2)).2)
 else(.cond (num s).1 (hZ fin rec (dy fin [44] (num s).2)).1 (hZ fin rec (dy fin [44] (num s).2)).2.1,(hZ fin rec (dy fin [44] (num s).2)).2.2)
def fD (fin:Int):Nat->RS->Tm×RS
 | 0,s=>(.none,kQ fin 5 s)
 | n+1,s=>if s.e≠0 then(.none,s) else if(cn fin gv s).1=[] then(.zero,(cn fin gv s).2) else if(cn fin gv s).1=[122,101,114,111] then(.zero,(cn fin gv s).2)
   else qY fin (jc fin n) (fD fin n) (cn fin gv s).1 (dy fin [40] (cn fin gv s).2)
def tw (fin:Int)(s:RS):RS:=match s.l with | []=>s | _::_=>kQ fin 2 s
def nj (bs:List UInt8):Int:=((cJ bs).length:Int)+1
def lO (bs:List UInt8):RS:=if 1000<bs.length then⟨[],0,5⟩ else if 0<(eQ [] 0 false (cJ bs)).2 then⟨(eQ [] 0 false (cJ bs)).1,(eQ [] 0 false (cJ bs)).2,2⟩ else⟨(eQ [] 0 false (cJ bs)).1,0,0⟩
def oX (bs:List UInt8):RS:=tw (nj bs) (fD (nj bs) 12 (lO bs)).2
def nk (bs:List UInt8):Tm×Int×Int:=
 if(oX bs).e≠0 then(.none,(oX bs).at_,(oX bs).e) else if jJ (fD (nj bs) 12 (lO bs)).1≠0 then(.none,(oX bs).at_,jJ (fD (nj bs) 12 (lO bs)).1) else((fD (nj bs) 12 (lO bs)).1,0,0)
theorem FG {fin:Int}{right:List UInt8->Bool}{x:dH}{l:List dH}{a:Int}(h:right x.1=true):cn fin right ⟨x::l,a,0⟩=(x.1,⟨l,a,0⟩):=by
 unfold cn;simp[h]
theorem LL {fin:Int}{right:List UInt8->Bool}{x:dH}{l:List dH}{a:Int}(h:¬ right x.1=true):cn fin right ⟨x::l,a,0⟩=([],⟨x::l,x.2,2⟩):=by
 unfold cn;simp[h]
theorem LM {fin:Int}{right:List UInt8->Bool}{a:Int}:cn fin right ⟨[],a,0⟩=([],⟨[],fin,2⟩):=by
 unfold cn;simp
theorem LN {fin:Int}{right:List UInt8->Bool}{s:RS}(h:s.e≠0):cn fin right s=([],s):=by
 unfold cn;rw[if_neg h]
theorem LO {fin c:Int}{s:RS}(h:s.e≠0):kQ fin c s=s:=by unfold kQ;rw[if_neg h]
structure fP (s:RS)(ts:List (List UInt8))(s':RS):Prop where
 e:s.e=0
 e':s'.e=0
 at_:s'.at_=s.at_
 xm:∃ xs:List dH,s.l=xs++s'.l/\xs.map Prod.fst=ts
theorem fP.trans {s s1 s2:RS}{a b:List (List UInt8)}(h:fP s a s1)(k:fP s1 b s2):fP s (a++b) s2:=by
 obtain⟨xs,hx,oY⟩:=h.xm;obtain⟨ys,hy,uD⟩:=k.xm;exact⟨h.e,k.e',k.at_.trans h.at_,xs++ys,by rw[hx,hy,List.append_assoc],by rw[List.map_append,oY,uD]⟩
theorem fP.nil {s s':RS}(h:fP s [] s'):s=s':=by
 obtain⟨xs,hx,oY⟩:=h.xm;have:xs=[]:=by simpa using oY
 subst this
 rcases s with⟨l,a,e⟩
 rcases s' with⟨l',a',e'⟩
 have h1:=h.e;have h2:=h.e';have h3:=h.at_;dsimp only at h1 h2 h3 hx;subst h1 h2 h3;rw[List.nil_append] at hx;rw[hx]
theorem fP.split {s s':RS}{a b:List (List UInt8)}(h:fP s (a++b) s'):∃ s1,fP s a s1/\fP s1 b s':=by
 obtain⟨xs,hx,oY⟩:=h.xm;obtain⟨ys,zs,rfl,hy,hz⟩:=List.map_eq_append_iff.1 oY;exact⟨⟨zs++s'.l,s.at_,0⟩,⟨h.e,rfl,rfl,ys,by rw[hx,List.append_assoc],hy⟩,⟨rfl,h.e',h.at_,zs,rfl,hz⟩⟩
theorem fP.head {s s':RS}{t:List UInt8}{ts:List (List UInt8)}(h:fP s (t::ts) s'):∃ (x:dH) (l:List dH),s=⟨x::l,s.at_,0⟩/\x.1=t/\fP ⟨l,s.at_,0⟩ ts s':=by
 obtain⟨xs,hx,oY⟩:=h.xm;cases xs with
 | nil=>simp at oY
 | cons x xs=>
  simp only[List.map_cons,List.cons.injEq] at oY;refine⟨x,xs++s'.l,?_,oY.1,rfl,h.e',h.at_,xs,rfl,oY.2⟩
  rcases s with⟨l,a,e⟩
  have h1:=h.e;dsimp only at h1 hx ⊢;rw[h1,hx];rfl
theorem rZ {fin:Int}{right:List UInt8->Bool}{s:RS}(h:(cn fin right s).2.e=0):fP s [(cn fin right s).1] (cn fin right s).2/\right (cn fin right s).1=true:=by
 rcases s with⟨l,a,e⟩
 by_cases he:e=0
 ·subst he
  cases l with
  | nil=>rw[LM] at h;exact absurd (show(2:Int)=0 from h) (by decide)
  | cons x l=>
   by_cases hr:right x.1=true
   ·rw[FG hr];exact⟨⟨rfl,rfl,rfl,[x],rfl,rfl⟩,hr⟩
   ·rw[LL hr] at h;exact absurd (show(2:Int)=0 from h) (by decide)
 ·rw[LN he] at h;exact absurd h he
theorem lP {fin:Int}{x:List UInt8}{s:RS}(h:(dy fin x s).e=0):fP s [x] (dy fin x s):=by
 obtain⟨h1,h2⟩:=rZ (fin:=fin) (right:=fun y=>decide (y=x)) h;have h2:=of_decide_eq_true h2;rw[h2] at h1;exact h1
theorem kv {fin:Int}{right:List UInt8->Bool}{s s':RS}{t:List UInt8}{ts:List (List UInt8)}(hr:right t=true)(h:fP s (t::ts) s'):∃ s1,cn fin right s=(t,s1)/\fP s1 ts s':=by
 obtain⟨x,l,hs,hx,ha⟩:=h.head;refine⟨_,?_,ha⟩;rw[hs,FG (by rw[hx];exact hr),hx]
theorem fE {fin:Int}{s s':RS}{t:List UInt8}{ts:List (List UInt8)}(h:fP s (t::ts) s'):∃ s1,dy fin t s=s1/\fP s1 ts s':=by
 obtain⟨s1,h1,h2⟩:=kv (fin:=fin) (right:=fun y=>decide (y=t)) (by simp) h;exact⟨s1,by unfold dy;rw[h1],h2⟩
structure Cut (s:RS)(ts:List (List UInt8)):Prop where
 e:s.e=0
 cut:∃ u:List (List UInt8),u≠[]/\s.l.map Prod.fst++u=ts
theorem Cut.head {s:RS}{t:List UInt8}{ts:List (List UInt8)}(h:Cut s (t::ts)):s=⟨[],s.at_,0⟩\/∃ (x:dH) (l:List dH),s=⟨x::l,s.at_,0⟩/\x.1=t/\Cut ⟨l,s.at_,0⟩ ts:=by
 obtain⟨u,hu,he⟩:=h.cut
 rcases s with⟨l,a,e⟩
 have h1:=h.e;dsimp only at h1 he ⊢;subst h1;cases l with
 | nil=>exact .inl rfl
 | cons x l=>
  simp only[List.map_cons,List.cons_append,List.cons.injEq] at he;exact .inr ⟨x,l,rfl,he.1,rfl,u,hu,he.2⟩
theorem Cut.split {s:RS}{a b:List (List UInt8)}(h:Cut s (a++b)):Cut s a\/∃ s1,fP s a s1/\Cut s1 b:=by
 obtain⟨u,hu,he⟩:=h.cut
 rcases List.append_eq_append_iff.1 he with⟨c,oa,r6⟩ | ⟨c,oa,r6⟩
 ·by_cases hc:c=[]
  ·subst hc
   rw[List.append_nil] at oa;rw[List.nil_append] at r6;refine .inr ⟨⟨[],s.at_,0⟩,⟨h.e,rfl,rfl,s.l,by simp,oa.symm⟩,rfl,b,?_,by simp⟩;rw[<- r6];exact hu
  ·exact .inl ⟨h.e,c,hc,oa.symm⟩
 ·obtain⟨ys,zs,hl,hy,hz⟩:=List.map_eq_append_iff.1 oa
  exact .inr ⟨⟨zs,s.at_,0⟩,⟨h.e,rfl,rfl,ys,hl,hy⟩,rfl,u,hu,by rw[hz];exact r6.symm⟩
theorem LP (fin:Int):∀ (n:Nat) (s:RS),s.e≠0->(jc fin n s).2=s
 | 0,s,h=>LO h
 | n+1,s,h=>by unfold jc;rw[if_pos h]
theorem LQ (fin:Int):∀ (n:Nat) (s:RS),s.e≠0->(fD fin n s).2=s
 | 0,s,h=>LO h
 | n+1,s,h=>by unfold fD;rw[if_pos h]
def kx:Ob->List (List UInt8)
 | .none=>[]
 | .const n=>[Lib.itoa n]
 | .fix s=>[102,105,120]::[40]::s::[[41]]
 | .neg o=>[110,101,103]::[40]::(kx o++[[41]])
 | .add l r=>[97,100,100]::[40]::(kx l++([44]::(kx r++[[41]])))
 | .mul l r=>[109,117,108]::[40]::(kx l++([44]::(kx r++[[41]])))
 | .max l r=>[109,97,120]::[40]::(kx l++([44]::(kx r++[[41]])))
def jd:Tm->List (List UInt8)
 | .none=>[]
 | .zero=>[[122,101,114,111]]
 | .one s=>[111,110,101]::[40]::s::[[41]]
 | .gD t=>[103,105,118,101]::[40]::(jd t++[[41]])
 | .and l r=>[97,110,100]::[40]::(jd l++([44]::(jd r++[[41]])))
 | .or s l r=>[111,114]::[40]::s::[44]::(jd l++([44]::(jd r++[[41]])))
 | .scale o t=>[115,99,97,108,101]::[40]::(kx o++([44]::(jd t++[[41]])))
 | .when d t=>[119,104,101,110]::[40]::Lib.itoa d::[44]::(jd t++[[41]])
 | .cond o l r=>[105,102]::[40]::(kx o++([44]::(jd l++([44]::(jd r++[[41]])))))
theorem T6 {x:List UInt8}(h:gZ x=true):x=[102,105,120]\/x=[97,100,100]\/x=[110,101,103]\/x=[109,117,108]\/x=[109,97,120]\/(fU x).2=true:=by
 unfold gZ at h;simp only[Bool.or_eq_true,beq_iff_eq] at h
 rcases h with h | h | h | h | h | h<;>simp[h]
theorem T7 {x:List UInt8}(h:(fU x).2=true):x≠[]/\x≠[102,105,120]/\x≠[110,101,103]/\x≠[97,100,100]/\x≠[109,117,108]/\x≠[109,97,120]:=by
 refine⟨?_,?_,?_,?_,?_,?_⟩<;>(rintro rfl;exact absurd h (by decide +kernel))
theorem T8 {x:List UInt8}(h:gv x=true):x=[122,101,114,111]\/x=[111,110,101]\/x=[103,105,118,101]\/x=[97,110,100]\/x=[111,114]\/x=[115,99,97,108,101]\/x=[119,104,101,110]\/x=[105,102]:=by
 unfold gv at h;simpa only[Bool.or_eq_true,beq_iff_eq] using h
theorem T9 {x:List UInt8}(h:lN x=true):(fU x).2=true/\0<=(fU x).1/\(fU x).1<=10000:=by
 unfold lN at h;simpa only[Bool.and_eq_true,decide_eq_true_eq] using h
def LR (n:Nat)(rec:RS->Ob×RS):Prop:=∀ s,(rec s).2.e=0->fP s (kx (rec s).1) (rec s).2/\cX (rec s).1=true/\dn (rec s).1<=n
def FH (n:Nat)(rec:RS->Tm×RS):Prop:=∀ s,(rec s).2.e=0->fP s (jd (rec s).1) (rec s).2/\cI (rec s).1=true/\cA (rec s).1<=n
theorem FI {fin:Int}{n:Nat}{rec:RS->Ob×RS}(hr:LR n rec){s:RS}(h:(hU fin rec s).2.2.e=0):
  fP s ([40]::(kx (hU fin rec s).1++([44]::(kx (hU fin rec s).2.1++[[41]])))) (hU fin rec s).2.2/\(cX (hU fin rec s).1=true/\dn (hU fin rec s).1<=n)/\cX (hU fin rec s).2.1=true/\dn (hU fin rec s).2.1<=n:=by
 unfold hU at h ⊢;dsimp only at h ⊢;have h5:=lP h;have h4:=hr _ h5.e;have h3:=lP h4.1.e;have h2:=hr _ h3.e;have h1:=lP h2.1.e;have:=h1.trans (h2.1.trans (h3.trans (h4.1.trans h5)));exact⟨by simpa using this,h2.2,h4.2⟩
theorem LS (fin:Int):∀ n,LR n (jc fin n)
 | 0,s,h=>by
  exfalso
  by_cases he:s.e=0
  ·have:(jc fin 0 s).2.e=5:=by show(kQ fin 5 s).e=5;unfold kQ;rw[if_pos he]
   rw[this] at h;exact absurd h (by decide)
  ·rw[LP fin 0 s he] at h;exact he h
 | n+1,s,h=>by
  have ih:=LS fin n;have he:s.e=0:=by
   refine Classical.byContradiction fun he=>?_;rw[LP fin (n+1) s he] at h;exact he h
  unfold jc at h ⊢;rw[if_neg (by simpa using he)] at h ⊢
  by_cases jF:(cn fin gZ s).1=[]
  ·rw[if_pos jF] at h
   have:=(rZ h).2;rw[jF] at this;exact absurd this (by decide +kernel)
  rw[if_neg jF] at h ⊢;have step:∀ {o:Ob} {u:List (List UInt8)} {s':RS},fP (cn fin gZ s).2 u s'->fP s ((cn fin gZ s).1::u) s'/\gZ (cn fin gZ s).1=true:=fun ha=>by
   have t:=rZ (fin:=fin) (right:=gZ) (s:=s) ha.e;exact⟨t.1.trans ha,t.2⟩
  generalize hx:(cn fin gZ s).1=x at h jF step ⊢;generalize ka:(cn fin gZ s).2=s1 at h step ⊢;unfold rY at h ⊢
  by_cases c1:x=[102,105,120]
  ·rw[if_pos c1] at h ⊢
   dsimp only at h ⊢;have h3:=lP h;have h2:=rZ h3.e;have h1:=lP h2.1.e;have:=h1.trans (h2.1.trans h3);refine⟨by have:=(step (o:=.none) this).1;rw[c1] at this;simpa[kx] using this,h2.2,by unfold dn;omega⟩
  rw[if_neg c1] at h ⊢
  by_cases c2:x=[110,101,103]
  ·rw[if_pos c2] at h ⊢
   dsimp only at h ⊢;have h3:=lP h;have h2:=ih _ h3.e;have h1:=lP h2.1.e;have:=h1.trans (h2.1.trans h3);refine⟨by have:=(step (o:=.none) this).1;rw[c2] at this;simpa[kx] using this,h2.2.1,by unfold dn;have:=h2.2.2;omega⟩
  rw[if_neg c2] at h ⊢
  by_cases c3:x=[97,100,100]
  ·rw[if_pos c3] at h ⊢
   dsimp only at h ⊢;have hp:=FI ih h;refine⟨by have:=(step (o:=.none) hp.1).1;rw[c3] at this;exact this,by unfold cX;rw[hp.2.1.1,hp.2.2.1];rfl,by unfold dn;have:=hp.2.1.2;have:=hp.2.2.2;omega⟩
  rw[if_neg c3] at h ⊢
  by_cases c4:x=[109,117,108]
  ·rw[if_pos c4] at h ⊢
   dsimp only at h ⊢;have hp:=FI ih h;refine⟨by have:=(step (o:=.none) hp.1).1;rw[c4] at this;exact this,by unfold cX;rw[hp.2.1.1,hp.2.2.1];rfl,by unfold dn;have:=hp.2.1.2;have:=hp.2.2.2;omega⟩
  rw[if_neg c4] at h ⊢
  by_cases c5:x=[109,97,120]
  ·rw[if_pos c5] at h ⊢
   dsimp only at h ⊢;have hp:=FI ih h;refine⟨by have:=(step (o:=.none) hp.1).1;rw[c5] at this;exact this,by unfold cX;rw[hp.2.1.1,hp.2.2.1];rfl,by unfold dn;have:=hp.2.1.2;have:=hp.2.2.2;omega⟩
  rw[if_neg c5] at h ⊢;dsimp only at h ⊢;have h1:=step (o:=.none) (u:=[]) (s':=s1) ⟨h,h,rfl,[],rfl,rfl⟩
  rcases T6 h1.2 with t | t | t | t | t | t
  ·exact absurd t c1
  ·exact absurd t c3
  ·exact absurd t c2
  ·exact absurd t c4
  ·exact absurd t c5
  ·have hi:=LK t
   refine⟨?_,?_,by unfold dn;omega⟩
   ·unfold kx
    rw[<- hi.1];exact h1.1
   ·unfold cX cH
    rw[decide_eq_true hi.2.1,decide_eq_true hi.2.2];rfl
theorem FJ {fin:Int}{n:Nat}{rec:RS->Tm×RS}(hr:FH n rec){s:RS}(h:(kR fin rec s).2.e=0):
  fP s (jd (kR fin rec s).1++[[41]]) (kR fin rec s).2/\cI (kR fin rec s).1=true/\cA (kR fin rec s).1<=n:=by
 unfold kR at h ⊢;dsimp only at h ⊢;have h5:=lP h;have h4:=hr _ h5.e;exact⟨h4.1.trans h5,h4.2⟩
theorem FL {fin:Int}{n:Nat}{rec:RS->Tm×RS}(hr:FH n rec){s:RS}(h:(hZ fin rec s).2.2.e=0):
  fP s (jd (hZ fin rec s).1++([44]::(jd (hZ fin rec s).2.1++[[41]]))) (hZ fin rec s).2.2/\(cI (hZ fin rec s).1=true/\cA (hZ fin rec s).1<=n)/\cI (hZ fin rec s).2.1=true/\cA (hZ fin rec s).2.1<=n:=by
 unfold hZ at h ⊢;dsimp only at h ⊢;have h5:=lP h;have h4:=hr _ h5.e;have h3:=lP h4.1.e;have h2:=hr _ h3.e;have:=h2.1.trans (h3.trans (h4.1.trans h5));exact⟨by simpa using this,h2.2,h4.2⟩
theorem LU (fin:Int):∀ n,FH n (fD fin n)
 | 0,s,h=>by
  exfalso
  by_cases he:s.e=0
  ·have:(fD fin 0 s).2.e=5:=by show(kQ fin 5 s).e=5;unfold kQ;rw[if_pos he]
   rw[this] at h;exact absurd h (by decide)
  ·rw[LQ fin 0 s he] at h;exact he h
 | n+1,s,h=>by
  have ih:=LU fin n;have zF:=LS fin n;have he:s.e=0:=by
   refine Classical.byContradiction fun he=>?_;rw[LQ fin (n+1) s he] at h;exact he h
  unfold fD at h ⊢;rw[if_neg (by simpa using he)] at h ⊢
  by_cases jF:(cn fin gv s).1=[]
  ·rw[if_pos jF] at h
   have:=(rZ h).2;rw[jF] at this;exact absurd this (by decide +kernel)
  rw[if_neg jF] at h ⊢;have step:∀ {u:List (List UInt8)} {s':RS},fP (cn fin gv s).2 u s'->fP s ((cn fin gv s).1::u) s'/\gv (cn fin gv s).1=true:=fun ha=>by
   have t:=rZ (fin:=fin) (right:=gv) (s:=s) ha.e;exact⟨t.1.trans ha,t.2⟩
  generalize hx:(cn fin gv s).1=x at h jF step ⊢;generalize ka:(cn fin gv s).2=s1 at h step ⊢
  by_cases c0:x=[122,101,114,111]
  ·rw[if_pos c0] at h ⊢
   dsimp only at h ⊢;refine⟨by have:=(step (u:=[]) (s':=s1) ⟨h,h,rfl,[],rfl,rfl⟩).1;rw[c0] at this;exact this,rfl,by unfold cA;omega⟩
  rw[if_neg c0] at h ⊢;have step2:∀ {u:List (List UInt8)} {s':RS},fP (dy fin [40] s1) u s'->fP s (x::[40]::u) s'/\gv x=true:=fun ha=>step ((lP ha.e).trans ha);generalize gk:dy fin [40] s1=s2 at h step2 ⊢;unfold qY at h ⊢
  by_cases c1:x=[111,110,101]
  ·rw[if_pos c1] at h ⊢
   dsimp only at h ⊢;have h3:=lP h;have h2:=rZ h3.e;refine⟨by have:=(step2 (h2.1.trans h3)).1;rw[c1] at this;simpa[jd] using this,h2.2,by unfold cA;omega⟩
  rw[if_neg c1] at h ⊢
  by_cases c2:x=[103,105,118,101]
  ·rw[if_pos c2] at h ⊢
   dsimp only at h ⊢;have hp:=FJ ih h;refine⟨by have:=(step2 hp.1).1;rw[c2] at this;exact this,hp.2.1,by unfold cA;have:=hp.2.2;omega⟩
  rw[if_neg c2] at h ⊢
  by_cases c3:x=[97,110,100]
  ·rw[if_pos c3] at h ⊢
   dsimp only at h ⊢;have hp:=FL ih h;refine⟨by have:=(step2 hp.1).1;rw[c3] at this;exact this,by unfold cI;rw[hp.2.1.1,hp.2.2.1];rfl,by unfold cA;have:=hp.2.1.2;have:=hp.2.2.2;omega⟩
  rw[if_neg c3] at h ⊢
  by_cases c4:x=[111,114]
  ·rw[if_pos c4] at h ⊢
   dsimp only at h ⊢;have hp:=FL ih h;have h2:=lP hp.1.e;have h1:=rZ h2.e;refine⟨by have:=(step2 (h1.1.trans (h2.trans hp.1))).1;rw[c4] at this;simpa[jd] using this,by unfold cI;rw[hp.2.1.1,hp.2.2.1,h1.2];rfl,by unfold cA;have:=hp.2.1.2;have:=hp.2.2.2;omega⟩
  rw[if_neg c4] at h ⊢
  by_cases c5:x=[115,99,97,108,101]
  ·rw[if_pos c5] at h ⊢
   dsimp only at h ⊢;have hp:=FJ ih h;have h2:=lP hp.1.e;have h1:=zF _ h2.e;refine⟨by have:=(step2 (h1.1.trans (h2.trans hp.1))).1;rw[c5] at this;simpa[jd] using this,by unfold cI;rw[hp.2.1,h1.2.1];rfl,by unfold cA;have:=hp.2.2;have:=h1.2.2;omega⟩
  rw[if_neg c5] at h ⊢
  by_cases c6:x=[119,104,101,110]
  ·rw[if_pos c6] at h ⊢
   dsimp only at h ⊢;have hp:=FJ ih h;have h2:=lP hp.1.e;have h1:=rZ h2.e;have hd:=T9 h1.2;have hi:=LK hd.1;refine⟨?_,by unfold cI;rw[hp.2.1,decide_eq_true hd.2.1,decide_eq_true hd.2.2];rfl,by unfold cA;have:=hp.2.2;omega⟩;have:=(step2 (h1.1.trans (h2.trans hp.1))).1;rw[c6] at this;unfold jd;rw[<- hi.1];simpa using this
  rw[if_neg c6] at h ⊢;dsimp only at h ⊢;have hp:=FL ih h;have h2:=lP hp.1.e;have h1:=zF _ h2.e;have h0:=step2 (h1.1.trans (h2.trans hp.1));have c7:x=[105,102]:=by
   rcases T8 h0.2 with t | t | t | t | t | t | t | t
   ·exact absurd t c0
   ·exact absurd t c1
   ·exact absurd t c2
   ·exact absurd t c3
   ·exact absurd t c4
   ·exact absurd t c5
   ·exact absurd t c6
   ·exact t
  refine⟨by have:=h0.1;rw[c7] at this;simpa[jd] using this,by unfold cI;rw[hp.2.1.1,hp.2.2.1,h1.2.1];rfl,by unfold cA;have:=hp.2.1.2;have:=hp.2.2.2;have:=h1.2.2;omega⟩
theorem LV (fin:Int):∀ (n:Nat) (o:Ob),cX o=true->dn o<=n->∀ {s s':RS},fP s (kx o) s'->jc fin n s=(o,s')
 | 0,o,hf,hd,s,s',h=>by cases o<;>simp[cX,dn] at hf hd
 | n+1,o,hf,hd,s,s',h=>by
  have ih:=LV fin n;have he:=h.e;unfold jc;rw[if_neg (by simpa using he)];cases o with
  | none=>cases hf
  | const k=>
   have hv:=Fo hf;have hn:=LG hv.1 hv.2;have hw:gZ (Lib.itoa k)=true:=by unfold gZ;rw[hn];rfl
   obtain⟨s1,e1,h⟩:=kv (fin:=fin) hw h;have:=h.nil;subst this;have ay:=T7 (x:=Lib.itoa k) (by rw[hn]);rw[e1];dsimp only;rw[if_neg ay.1];unfold rY;rw[if_neg ay.2.1,if_neg ay.2.2.1,if_neg ay.2.2.2.1,if_neg ay.2.2.2.2.1,if_neg ay.2.2.2.2.2,hn]
  | fix x=>
   obtain⟨s1,e1,h⟩:=kv (fin:=fin) (right:=gZ) (by decide +kernel) h;obtain⟨s2,e2,h⟩:=fE (fin:=fin) h;obtain⟨s3,e3,h⟩:=kv (fin:=fin) (right:=eZ) hf h;obtain⟨s4,e4,h⟩:=fE (fin:=fin) h;have:=h.nil;subst this;rw[e1];dsimp only;rw[if_neg (by decide)];unfold rY;rw[if_pos rfl,e2,e3];dsimp only;rw[e4]
  | neg x=>
   have FM:dn x<=n:=by unfold dn at hd;omega
   obtain⟨s1,e1,h⟩:=kv (fin:=fin) (right:=gZ) (by decide +kernel) h;obtain⟨s2,e2,h⟩:=fE (fin:=fin) h;obtain⟨s3,ha,h⟩:=h.split;obtain⟨s4,e4,h⟩:=fE (fin:=fin) h;have:=h.nil;subst this;rw[e1];dsimp only;rw[if_neg (by decide)];unfold rY;rw[if_neg (by decide),if_pos rfl,e2,ih x hf FM ha];dsimp only;rw[e4]
  | add l r=>
   simp only[cX,Bool.and_eq_true] at hf;have hl:dn l<=n:=by unfold dn at hd;omega
   have hr:dn r<=n:=by unfold dn at hd;omega
   obtain⟨s1,e1,h⟩:=kv (fin:=fin) (right:=gZ) (by decide +kernel) h;obtain⟨s2,e2,h⟩:=fE (fin:=fin) h;obtain⟨s3,ha,h⟩:=h.split;obtain⟨s4,e4,h⟩:=fE (fin:=fin) h;obtain⟨s5,hb,h⟩:=h.split;obtain⟨s6,e6,h⟩:=fE (fin:=fin) h;have:=h.nil;subst this;rw[e1];dsimp only;rw[if_neg (by decide)];unfold rY;rw[if_neg (by decide),if_neg (by decide),if_pos rfl];unfold hU;rw[e2,ih l hf.1 hl ha];dsimp only;rw[e4,ih r hf.2 hr hb];dsimp only;rw[e6]
  | mul l r=>
   simp only[cX,Bool.and_eq_true] at hf;have hl:dn l<=n:=by unfold dn at hd;omega
   have hr:dn r<=n:=by unfold dn at hd;omega
   obtain⟨s1,e1,h⟩:=kv (fin:=fin) (right:=gZ) (by decide +kernel) h;obtain⟨s2,e2,h⟩:=fE (fin:=fin) h;obtain⟨s3,ha,h⟩:=h.split;obtain⟨s4,e4,h⟩:=fE (fin:=fin) h;obtain⟨s5,hb,h⟩:=h.split;obtain⟨s6,e6,h⟩:=fE (fin:=fin) h;have:=h.nil;subst this;rw[e1];dsimp only;rw[if_neg (by decide)];unfold rY;rw[if_neg (by decide),if_neg (by decide),if_neg (by decide),if_pos rfl];unfold hU;rw[e2,ih l hf.1 hl ha];dsimp only;rw[e4,ih r hf.2 hr hb];dsimp only;rw[e6]
  | max l r=>
   simp only[cX,Bool.and_eq_true] at hf;have hl:dn l<=n:=by unfold dn at hd;omega
   have hr:dn r<=n:=by unfold dn at hd;omega
   obtain⟨s1,e1,h⟩:=kv (fin:=fin) (right:=gZ) (by decide +kernel) h;obtain⟨s2,e2,h⟩:=fE (fin:=fin) h;obtain⟨s3,ha,h⟩:=h.split;obtain⟨s4,e4,h⟩:=fE (fin:=fin) h;obtain⟨s5,hb,h⟩:=h.split;obtain⟨s6,e6,h⟩:=fE (fin:=fin) h;have:=h.nil;subst this;rw[e1];dsimp only;rw[if_neg (by decide)];unfold rY;rw[if_neg (by decide),if_neg (by decide),if_neg (by decide),if_neg (by decide),if_pos rfl];unfold hU;rw[e2,ih l hf.1 hl ha];dsimp only;rw[e4,ih r hf.2 hr hb];dsimp only;rw[e6]
theorem FN {fin:Int}{rec:RS->Tm×RS}{t:Tm}{s s1 s2:RS}(h:rec s=(t,s1))(e:dy fin [41] s1=s2):kR fin rec s=(t,s2):=by
 unfold kR;rw[h];dsimp only;rw[e]
theorem FO {fin:Int}{rec:RS->Tm×RS}{l r:Tm}{s s1 s2 s3 s4:RS}(h:rec s=(l,s1))(e:dy fin [44] s1=s2)(h2:rec s2=(r,s3))(e2:dy fin [41] s3=s4):hZ fin rec s=(l,r,s4):=by
 unfold hZ;rw[h];dsimp only;rw[e,h2];dsimp only;rw[e2]
theorem LW (fin:Int):∀ (n:Nat) (t:Tm),cI t=true->cA t<=n->∀ {s s':RS},fP s (jd t) s'->fD fin n s=(t,s')
 | 0,t,hf,hd,s,s',h=>by cases t<;>simp[cI,cA] at hf hd
 | n+1,t,hf,hd,s,s',h=>by
  have ih:=LW fin n;have zF:=LV fin n;have he:=h.e;unfold fD;rw[if_neg (by simpa using he)];cases t with
  | none=>cases hf
  | zero=>
   obtain⟨s1,e1,h⟩:=kv (fin:=fin) (right:=gv) (by decide) h;have:=h.nil;subst this;rw[e1];dsimp only;rw[if_neg (by decide),if_pos rfl]
  | one x=>
   obtain⟨s1,e1,h⟩:=kv (fin:=fin) (right:=gv) (by decide) h;obtain⟨s2,e2,h⟩:=fE (fin:=fin) h;obtain⟨s3,e3,h⟩:=kv (fin:=fin) (right:=eZ) hf h;obtain⟨s4,e4,h⟩:=fE (fin:=fin) h;have:=h.nil;subst this;rw[e1];dsimp only;rw[if_neg (by decide),if_neg (by decide),e2];unfold qY;rw[if_pos rfl,e3];dsimp only;rw[e4]
  | gD x=>
   have FM:cA x<=n:=by unfold cA at hd;omega
   obtain⟨s1,e1,h⟩:=kv (fin:=fin) (right:=gv) (by decide) h;obtain⟨s2,e2,h⟩:=fE (fin:=fin) h;obtain⟨s3,ha,h⟩:=h.split;obtain⟨s4,e4,h⟩:=fE (fin:=fin) h;have:=h.nil;subst this;rw[e1];dsimp only;rw[if_neg (by decide),if_neg (by decide),e2];unfold qY;rw[if_neg (by decide),if_pos rfl,FN (ih x hf FM ha) e4]
  | and l r=>
   simp only[cI,Bool.and_eq_true] at hf;have hl:cA l<=n:=by unfold cA at hd;omega
   have hr:cA r<=n:=by unfold cA at hd;omega
   obtain⟨s1,e1,h⟩:=kv (fin:=fin) (right:=gv) (by decide) h;obtain⟨s2,e2,h⟩:=fE (fin:=fin) h;obtain⟨s3,ha,h⟩:=h.split;obtain⟨s4,e4,h⟩:=fE (fin:=fin) h;obtain⟨s5,hb,h⟩:=h.split;obtain⟨s6,e6,h⟩:=fE (fin:=fin) h;have:=h.nil;subst this;rw[e1];dsimp only;rw[if_neg (by decide),if_neg (by decide),e2];unfold qY;rw[if_neg (by decide),if_neg (by decide),if_pos rfl,FO (ih l hf.1 hl ha) e4 (ih r hf.2 hr hb) e6]
  | or x l r=>
   simp only[cI,Bool.and_eq_true] at hf;have hl:cA l<=n:=by unfold cA at hd;omega
   have hr:cA r<=n:=by unfold cA at hd;omega
   obtain⟨s1,e1,h⟩:=kv (fin:=fin) (right:=gv) (by decide) h;obtain⟨s2,e2,h⟩:=fE (fin:=fin) h;obtain⟨s7,e7,h⟩:=kv (fin:=fin) (right:=eZ) hf.1 h;obtain⟨s8,e8,h⟩:=fE (fin:=fin) h;obtain⟨s3,ha,h⟩:=h.split;obtain⟨s4,e4,h⟩:=fE (fin:=fin) h;obtain⟨s5,hb,h⟩:=h.split;obtain⟨s6,e6,h⟩:=fE (fin:=fin) h;have:=h.nil;subst this;rw[e1];dsimp only;rw[if_neg (by decide),if_neg (by decide),e2];unfold qY;rw[if_neg (by decide),if_neg (by decide),if_neg (by decide),if_pos rfl,e7];dsimp only;rw[e8,FO (ih l hf.2.1 hl ha) e4 (ih r hf.2.2 hr hb) e6]
  | scale o x=>
   simp only[cI,Bool.and_eq_true] at hf;have hl:dn o<=n:=by unfold cA at hd;omega
   have hr:cA x<=n:=by unfold cA at hd;omega
   obtain⟨s1,e1,h⟩:=kv (fin:=fin) (right:=gv) (by decide) h;obtain⟨s2,e2,h⟩:=fE (fin:=fin) h;obtain⟨s3,ha,h⟩:=h.split;obtain⟨s4,e4,h⟩:=fE (fin:=fin) h;obtain⟨s5,hb,h⟩:=h.split;obtain⟨s6,e6,h⟩:=fE (fin:=fin) h;have:=h.nil;subst this;rw[e1];dsimp only;rw[if_neg (by decide),if_neg (by decide),e2];unfold qY;rw[if_neg (by decide),if_neg (by decide),if_neg (by decide),if_neg (by decide),if_pos rfl,zF o hf.1 hl ha];dsimp only;rw[e4,FN (ih x hf.2 hr hb) e6]
  | when d x=>
   simp only[cI,Bool.and_eq_true,decide_eq_true_eq] at hf;have hr:cA x<=n:=by unfold cA at hd;omega
   have hn:=LG (n:=d) (by omega) (by omega);have ob:lN (Lib.itoa d)=true:=by unfold lN;rw[hn];simp[hf.1.1,hf.1.2]
   obtain⟨s1,e1,h⟩:=kv (fin:=fin) (right:=gv) (by decide) h;obtain⟨s2,e2,h⟩:=fE (fin:=fin) h;obtain⟨s3,e3,h⟩:=kv (fin:=fin) (right:=lN) ob h;obtain⟨s4,e4,h⟩:=fE (fin:=fin) h;obtain⟨s5,hb,h⟩:=h.split;obtain⟨s6,e6,h⟩:=fE (fin:=fin) h;have:=h.nil;subst this;rw[e1];dsimp only;rw[if_neg (by decide),if_neg (by decide),e2];unfold qY;rw[if_neg (by decide),if_neg (by decide),if_neg (by decide),if_neg (by decide),if_neg (by decide),if_pos rfl,e3];dsimp only;rw[e4,FN (ih x hf.2 hr hb) e6,hn]
  | cond o l r=>
   simp only[cI,Bool.and_eq_true] at hf;have ho:dn o<=n:=by unfold cA at hd;omega
   have hl:cA l<=n:=by unfold cA at hd;omega
   have hr:cA r<=n:=by unfold cA at hd;omega
   obtain⟨s1,e1,h⟩:=kv (fin:=fin) (right:=gv) (by decide) h;obtain⟨s2,e2,h⟩:=fE (fin:=fin) h;obtain⟨s7,hc,h⟩:=h.split;obtain⟨s8,e8,h⟩:=fE (fin:=fin) h;obtain⟨s3,ha,h⟩:=h.split;obtain⟨s4,e4,h⟩:=fE (fin:=fin) h;obtain⟨s5,hb,h⟩:=h.split;obtain⟨s6,e6,h⟩:=fE (fin:=fin) h;have:=h.nil;subst this;rw[e1];dsimp only;rw[if_neg (by decide),if_neg (by decide),e2];unfold qY;rw[if_neg (by decide),if_neg (by decide),if_neg (by decide),if_neg (by decide),if_neg (by decide),if_neg (by decide),zF o hf.1 ho hc];dsimp only;rw[e8,FO (ih l hf.2.1 hl ha) e4 (ih r hf.2.2 hr hb) e6]
theorem pZ (b:UInt8):UInt8.ofNat b.toNat=b:=UInt8.ofNat_toNat
theorem Ua (l:List UInt8)(ay:l≠[])(h:(gV l).1≠65533):enc ((gV l).1:Int)=l.take (gV l).2:=by
 have jV:=Ez l;rw[EB _ jV];cases l with
 | nil=>exact absurd rfl ay
 | cons b0 t=>
  have se:=b0.toNat_lt;simp only[gV,Utf8.decode,uI,ke,dR,Nat.zero_add,List.getD_cons_zero,List.length_cons] at h jV ⊢
  by_cases c1:b0.toNat<128
  ·simp only[if_pos c1] at h jV ⊢
   rw[pZ];rfl
  simp only[if_neg c1] at h jV ⊢;cases t with
  | nil=>simp[Utf8.runeError] at h
  | cons b1 t=>
   have au:=b1.toNat_lt;simp only[List.getD_cons_succ,List.getD_cons_zero,List.length_cons] at h jV ⊢
   by_cases c2:(b0.toNat / 32==6&&(decide (1<t.length+1+1)&&b1.toNat / 64==2))=true
   ·simp only[if_pos c2] at h jV ⊢
    simp only[Bool.and_eq_true,beq_iff_eq,decide_eq_true_eq] at c2
    by_cases c3:b0.toNat % 32 * 64+b1.toNat % 64 >= 128
    ·simp only[if_pos c3] at h jV ⊢
     rw[if_neg (by omega),if_pos (by omega)];rw[show 192+(b0.toNat % 32 * 64+b1.toNat % 64) / 64=b0.toNat by omega,show 128+(b0.toNat % 32 * 64+b1.toNat % 64) % 64=b1.toNat by omega,pZ,pZ];rfl
    ·simp only[if_neg c3] at h;exact absurd rfl h
   simp only[if_neg c2] at h jV ⊢;cases t with
   | nil=>simp[Utf8.runeError] at h
   | cons b2 t=>
    have aK:=b2.toNat_lt;simp only[List.getD_cons_succ,List.getD_cons_zero,List.length_cons] at h jV ⊢
    by_cases c4:(b0.toNat / 16==14&&(decide (1<t.length+1+1+1)&&b1.toNat / 64==2)&&(decide (2<t.length+1+1+1)&&b2.toNat / 64==2))=true
    ·simp only[if_pos c4] at h jV ⊢
     simp only[Bool.and_eq_true,beq_iff_eq,decide_eq_true_eq] at c4
     by_cases c5:(decide (b0.toNat % 16 * 4096+b1.toNat % 64 * 64+b2.toNat % 64 >= 2048)&&Utf8.valid ((b0.toNat % 16 * 4096+b1.toNat % 64 * 64+b2.toNat % 64:Nat):Int))=true
     ·simp only[if_pos c5] at h jV ⊢
      simp only[Bool.and_eq_true,decide_eq_true_eq] at c5;rw[if_neg (by omega),if_neg (by omega),if_pos (by omega)];rw[show 224+(b0.toNat % 16 * 4096+b1.toNat % 64 * 64+b2.toNat % 64) / 4096=b0.toNat by omega,show 128+(b0.toNat % 16 * 4096+b1.toNat % 64 * 64+b2.toNat % 64) / 64 % 64=b1.toNat by omega,
       show 128+(b0.toNat % 16 * 4096+b1.toNat % 64 * 64+b2.toNat % 64) % 64=b2.toNat by omega,pZ,pZ,pZ];rfl
     ·simp only[if_neg c5] at h;exact absurd rfl h
    simp only[if_neg c4] at h jV ⊢;cases t with
    | nil=>simp[Utf8.runeError] at h
    | cons b3 t=>
     have aU:=b3.toNat_lt;simp only[List.getD_cons_zero,List.length_cons] at h jV ⊢
     by_cases c6:(b0.toNat / 8==30&&(decide (1<t.length+1+1+1+1)&&b1.toNat / 64==2)&&(decide (2<t.length+1+1+1+1)&&b2.toNat / 64==2)&&(decide (3<t.length+1+1+1+1)&&b3.toNat / 64==2))=true
     ·simp only[if_pos c6] at h jV ⊢
      simp only[Bool.and_eq_true,beq_iff_eq,decide_eq_true_eq] at c6
      by_cases c7:(decide (b0.toNat % 8 * 262144+b1.toNat % 64 * 4096+b2.toNat % 64 * 64+b3.toNat % 64 >= 65536)&&Utf8.valid ((b0.toNat % 8 * 262144+b1.toNat % 64 * 4096+b2.toNat % 64 * 64+b3.toNat % 64:Nat):Int))=true
      ·simp only[if_pos c7] at h jV ⊢
       simp only[Bool.and_eq_true,decide_eq_true_eq] at c7;rw[if_neg (by omega),if_neg (by omega),if_neg (by omega)];rw[show 240+(b0.toNat % 8 * 262144+b1.toNat % 64 * 4096+b2.toNat % 64 * 64+b3.toNat % 64) / 262144=b0.toNat by omega,show 128+(b0.toNat % 8 * 262144+b1.toNat % 64 * 4096+b2.toNat % 64 * 64+b3.toNat % 64) / 4096 % 64=b1.toNat by omega,
        show 128+(b0.toNat % 8 * 262144+b1.toNat % 64 * 4096+b2.toNat % 64 * 64+b3.toNat % 64) / 64 % 64=b2.toNat by omega,show 128+(b0.toNat % 8 * 262144+b1.toNat % 64 * 4096+b2.toNat % 64 * 64+b3.toNat % 64) % 64=b3.toNat by omega,pZ,pZ,pZ,pZ];rfl
      ·simp only[if_neg c7] at h;exact absurd rfl h
     ·simp only[if_neg c6] at h;exact absurd rfl h
theorem LX:∀ (n:Nat) (l:List UInt8),l.length<=n->(∀ r∈cJ l,r≠65533)->ef (cJ l)=l
 | 0,l,h,_=>by
  have:l=[]:=List.eq_nil_of_length_eq_zero (by omega);subst this;rfl
 | n+1,l,h,hr=>by
  by_cases hl:l=[]
  ·subst hl;rfl
  ·rw[yQ l hl] at hr ⊢
   have h1:=wL l;have hd:(l.drop (gV l).2).length=l.length - (gV l).2:=List.length_drop;rw[tf,Ua l hl (fun t=>hr _ (List.mem_cons_self ..) (by omega)),LX n _ (by omega) (fun r hm=>hr r (List.mem_cons_of_mem _ hm)),List.take_append_drop]
theorem Ub (l:List UInt8)(h:∀ r∈cJ l,r≠65533):ef (cJ l)=l:=LX l.length l (Nat.le_refl _) h
theorem LY {r:Int}(h:isLet r=true):kd r=97:=by unfold kd;rw[if_pos h]
theorem Uc {r:Int}(h:isLet r=true):r≠65533/\r≠32:=by
 refine⟨?_,?_⟩<;>(rintro rfl;exact absurd h (by decide))
theorem FP {b:UInt8}(h:b.toNat<128):enc (b.toNat:Int)=[b]:=by
 rw[EB _ (by unfold jT;omega),if_pos h,pZ]
theorem LZ:∀ (l:List UInt8),(∀ b∈l,b.toNat<128)->ef (l.map fun b=>(b.toNat:Int))=l
 | [],_=>rfl
 | b::l,h=>by rw[List.map_cons,tf,FP (h b (by simp)),LZ l (fun c hc=>h c (by simp[hc]))];rfl
theorem L0 (W:List dH)(a:Int)(X:List Int):∀ (ls:List Int) (t:List UInt8) (at_:Int),(∀ r∈ls,kd r=97)->eQ (W++[(t,a)]) at_ true (ls++X)=eQ (W++[(t++ef ls,a)]) (at_+ls.length) true X
 | [],t,at_,_=>by simp[RW]
 | r::ls,t,at_,h=>by
  have h1:=h r (by simp);rw[List.cons_append]
  conv=>lhs;unfold eQ
  rw[h1,if_neg (by decide),if_pos ⟨rfl,rfl⟩,Fv,L0 W a X ls _ _ (fun x hx=>h x (by simp[hx])),tf,List.append_assoc]
  congr 1
  simp only[List.length_cons];omega
theorem Ud (W:List dH)(X:List Int)(wd:List Int)(at_:Int)(ay:wd≠[])(h:∀ r∈wd,kd r=97):eQ W at_ false (wd++X)=eQ (W++[(ef wd,at_+1)]) (at_+wd.length) true X:=by
 cases wd with
 | nil=>exact absurd rfl ay
 | cons r ls=>
  have h1:=h r (by simp);rw[List.cons_append]
  conv=>lhs;unfold eQ
  rw[h1,if_neg (by decide),if_neg (by simp),if_pos (by decide),show((97:Int)==97)=true from rfl,L0 W _ X ls _ _ (fun x hx=>h x (by simp[hx])),tf]
  congr 1
  simp only[List.length_cons];omega
theorem Ue (W:List dH)(X:List Int)(c:Int)(at_:Int)(run:Bool)(h:kd c=40):eQ W at_ run (c::X)=eQ (W++[(enc c,at_+1)]) (at_+1) false X:=by
 conv=>lhs;unfold eQ
 rw[h,if_neg (by decide),if_neg (by simp),if_pos (by decide)];rfl
def ia (b:Bool)(bs:List UInt8)(ts:List (List UInt8)):Prop:=
 ∃ R:List Int,(∀ r∈R,jT r/\r≠32)/\ef R=bs/\∀ (W:List dH) (at_:Int),∃ (ys:List dH) (run:Bool),ys.map Prod.fst=ts/\(b=true->run=false)/\∀ X,eQ W at_ false (R++X)=eQ (W++ys) (at_+R.length) run X
theorem ia.app {b:Bool}{x y:List UInt8}{s t:List (List UInt8)}(h:ia true x s)(k:ia b y t):ia b (x++y) (s++t):=by
 obtain⟨R,h1,h2,h3⟩:=h;obtain⟨Q,k1,k2,k3⟩:=k;refine⟨R++Q,fun r hr=>(List.mem_append.1 hr).elim (h1 r) (k1 r),by rw[KA,h2,k2],fun W at_=>?_⟩;obtain⟨ys,run,a1,a2,a3⟩:=h3 W at_;obtain⟨zs,Uf,b1,b2,b3⟩:=k3 (W++ys) (at_+R.length);have:=a2 rfl;subst this;refine⟨ys++zs,Uf,by rw[List.map_append,a1,b1],b2,fun X=>?_⟩;rw[List.append_assoc,a3,b3,List.append_assoc,List.length_append]
 congr 1
 omega
theorem ia.sign {b:Bool}{x:List UInt8}{s:List (List UInt8)}(h:ia b x s){c:UInt8}(hc:c=40\/c=41\/c=44):ia true (x++[c]) (s++[[c]]):=by
 have U:c.toNat<128/\kd (c.toNat:Int)=40/\c.toNat≠32:=by rcases hc with rfl | rfl | rfl<;>decide
 obtain⟨R,h1,h2,h3⟩:=h;refine⟨R++[(c.toNat:Int)],fun r hr=>?_,by rw[KA,h2,RV,FP U.1],fun W at_=>?_⟩
 ·rcases List.mem_append.1 hr with hr | hr
  ·exact h1 r hr
  ·have:=List.mem_singleton.1 hr
   subst this;exact⟨by unfold jT;omega,by omega⟩
 ·obtain⟨ys,run,a1,a2,a3⟩:=h3 W at_
  refine⟨ys++[([c],at_+R.length+1)],false,by rw[List.map_append,a1];rfl,fun _=>rfl,fun X=>?_⟩;rw[List.append_assoc,a3,List.singleton_append,Ue _ _ _ _ _ U.2.1,FP U.1,List.append_assoc,List.length_append]
  congr 1
  simp only[List.length_singleton];omega
theorem L1 (wd:List Int)(ay:wd≠[])(h:∀ r∈wd,kd r=97/\jT r):ia false (ef wd) [ef wd]:=
 ⟨wd,fun r hr=>⟨(h r hr).2,by rintro rfl;exact absurd (h 32 hr).1 (by decide)⟩,rfl,fun W at_=>⟨[(ef wd,at_+1)],true,rfl,(fun t=>nomatch t),fun X=>Ud W X wd at_ ay fun r hr=>(h r hr).1⟩⟩
theorem nn (wd:List UInt8)(ay:wd≠[])(h:∀ b∈wd,b.toNat<128/\kd (b.toNat:Int)=97):ia false wd [wd]:=by
 have:=L1 (wd.map fun b=>(b.toNat:Int)) (by simp[ay]) fun r hr=>by
  obtain⟨b,hb,rfl⟩:=List.mem_map.1 hr;exact⟨(h b hb).2,by unfold jT;have:=(h b hb).1;omega⟩
 rwa[LZ wd fun b hb=>(h b hb).1] at this
theorem L2:∀ (rs:List Int) (n:Nat),kf n rs=true->∀ r∈rs,isLet r=true
 | [],_,_,r,hr=>by cases hr
 | a::rs,n,h,r,hr=>by
  unfold kf at h;split at h
  ·cases h
  rename_i ha;split at h
  ·cases h
  split at h
  ·cases h
  rcases List.mem_cons.1 hr with rfl | hr
  ·simpa using ha
  ·exact L2 rs (n+1) h r hr
theorem FQ {s:List UInt8}(h:eZ s=true):ia false s [s]:=by
 have hl:=L2 _ _ h;have ay:cJ s≠[]:=fun t=>by
  have:kf 0 (cJ s)=true:=h;rw[t] at this;exact absurd this (by decide)
 have:=L1 (cJ s) ay fun r hr=>⟨LY (hl r hr),RU s r hr⟩;rwa[Ub s fun r hr=>(Uc (hl r hr)).1] at this
theorem L3 {c:UInt8}(h:gN c=true):c.toNat<128/\kd (c.toNat:Int)=97:=by
 have:=LD h;refine⟨by omega,LY ?_⟩;unfold isLet uJ;rw[decide_eq_true (show(48:Int)<=(c.toNat:Int) by omega),decide_eq_true (show(c.toNat:Int)<=57 by omega)];simp
theorem L4 (n:Int):ia false (Lib.itoa n) [Lib.itoa n]:=by
 refine nn _ ?_ ?_
 ·unfold Lib.itoa
  split
  ·simp
  ·exact(xl _).1
 ·unfold Lib.itoa
  split
  ·intro b hb
   rcases List.mem_cons.1 hb with rfl | hb
   ·decide
   ·exact L3 ((xl _).2.1 b hb)
  ·exact fun b hb=>L3 ((xl _).2.1 b hb)
theorem B5 {b:Bool}{wd x:List UInt8}{s:List (List UInt8)}(hw:ia false wd [wd])(h:ia b x s):ia true (gM wd [x]) (wd::[40]::(s++[[41]])):=by
 have:=((hw.sign (c:=40) (.inl rfl)).app h).sign (c:=41) (.inr (.inl rfl));unfold gM;rw[Lh];simpa using this
theorem xn {b d:Bool}{wd x y:List UInt8}{s t:List (List UInt8)}(hw:ia false wd [wd])(h:ia b x s)(k:ia d y t):ia true (gM wd [x,y]) (wd::[40]::(s++([44]::(t++[[41]])))):=by
 have:=((((hw.sign (c:=40) (.inl rfl)).app h).sign (c:=44) (.inr (.inr rfl))).app k).sign (c:=41) (.inr (.inl rfl));unfold gM;rw[Li];simpa using this
theorem L5 {b d f:Bool}{wd x y z:List UInt8}{s t u:List (List UInt8)}(hw:ia false wd [wd])(h:ia b x s)(k:ia d y t)(m:ia f z u):
  ia true (gM wd [x,y,z]) (wd::[40]::(s++([44]::(t++([44]::(u++[[41]])))))):=by
 have:=((((((hw.sign (c:=40) (.inl rfl)).app h).sign (c:=44) (.inr (.inr rfl))).app k).sign (c:=44) (.inr (.inr rfl))).app m).sign (c:=41) (.inr (.inl rfl));unfold gM;rw[Lj];simpa using this
theorem sg:∀ o:Ob,cX o=true->∃ b,ia b (fT o) (kx o)
 | .none,h=>by cases h
 | .const n,_=>⟨_,L4 n⟩
 | .fix s,h=>⟨_,B5 (nn _ (by decide) (by decide)) (FQ h)⟩
 | .neg o,h=>by
  obtain⟨b,hb⟩:=sg o h;exact⟨_,B5 (nn _ (by decide) (by decide)) hb⟩
 | .add l r,h=>by
  simp only[cX,Bool.and_eq_true] at h;obtain⟨b,hb⟩:=sg l h.1;obtain⟨c,hc⟩:=sg r h.2;exact⟨_,xn (nn _ (by decide) (by decide)) hb hc⟩
 | .mul l r,h=>by
  simp only[cX,Bool.and_eq_true] at h;obtain⟨b,hb⟩:=sg l h.1;obtain⟨c,hc⟩:=sg r h.2;exact⟨_,xn (nn _ (by decide) (by decide)) hb hc⟩
 | .max l r,h=>by
  simp only[cX,Bool.and_eq_true] at h;obtain⟨b,hb⟩:=sg l h.1;obtain⟨c,hc⟩:=sg r h.2;exact⟨_,xn (nn _ (by decide) (by decide)) hb hc⟩
theorem qZ:∀ t:Tm,cI t=true->∃ b,ia b (dY t) (jd t)/\(t≠.zero->b=true)
 | .none,h=>by cases h
 | .zero,_=>⟨_,nn _ (by decide) (by decide),fun t=>absurd rfl t⟩
 | .one s,h=>⟨_,B5 (nn _ (by decide) (by decide)) (FQ h),fun _=>rfl⟩
 | .gD t,h=>by
  obtain⟨b,hb,_⟩:=qZ t h;exact⟨_,B5 (nn _ (by decide) (by decide)) hb,fun _=>rfl⟩
 | .and l r,h=>by
  simp only[cI,Bool.and_eq_true] at h;obtain⟨b,hb,_⟩:=qZ l h.1;obtain⟨c,hc,_⟩:=qZ r h.2;exact⟨_,xn (nn _ (by decide) (by decide)) hb hc,fun _=>rfl⟩
 | .or s l r,h=>by
  simp only[cI,Bool.and_eq_true] at h;obtain⟨b,hb,_⟩:=qZ l h.2.1;obtain⟨c,hc,_⟩:=qZ r h.2.2;exact⟨_,L5 (nn _ (by decide) (by decide)) (FQ h.1) hb hc,fun _=>rfl⟩
 | .scale o t,h=>by
  simp only[cI,Bool.and_eq_true] at h;obtain⟨b,hb⟩:=sg o h.1;obtain⟨c,hc,_⟩:=qZ t h.2;exact⟨_,xn (nn _ (by decide) (by decide)) hb hc,fun _=>rfl⟩
 | .when d t,h=>by
  simp only[cI,Bool.and_eq_true] at h;obtain⟨c,hc,_⟩:=qZ t h.2;exact⟨_,xn (nn _ (by decide) (by decide)) (L4 d) hc,fun _=>rfl⟩
 | .cond o l r,h=>by
  simp only[cI,Bool.and_eq_true] at h;obtain⟨a,ha⟩:=sg o h.1;obtain⟨b,hb,_⟩:=qZ l h.2.1;obtain⟨c,hc,_⟩:=qZ r h.2.2;exact⟨_,L5 (nn _ (by decide) (by decide)) ha hb hc,fun _=>rfl⟩
theorem ia.Ug {b:Bool}{bs:List UInt8}{ts:List (List UInt8)}(h:ia b bs ts):∃ ys:List dH,eQ [] 0 false (cJ bs)=(ys,0)/\ys.map Prod.fst=ts:=by
 obtain⟨R,h1,h2,h3⟩:=h;obtain⟨ys,run,a1,a2,a3⟩:=h3 [] 0;have hR:cJ bs=R:=by rw[<- h2];exact R0 R fun r hr=>(h1 r hr).1
 refine⟨ys,?_,a1⟩;have:=a3 [];rw[List.append_nil] at this;rw[hR,this,List.nil_append];rfl
theorem Uh {fin:Int}{s:RS}(h:s.l=[]):tw fin s=s:=by unfold tw;rw[h]
theorem Ui {fin:Int}{s:RS}(h:(tw fin s).e=0):s.e=0/\s.l=[]/\tw fin s=s:=by
 unfold tw at h ⊢;cases hl:s.l with
 | nil=>rw[hl] at h;exact⟨h,rfl,rfl⟩
 | cons x l=>
  rw[hl] at h;dsimp only at h;unfold kQ at h;split at h
  ·exact absurd (show(2:Int)=0 from h) (by decide)
  ·contradiction
theorem Uj {bs:List UInt8}{t:Tm}{ys:List dH}(hc:jJ t=0)(hl:bs.length<=1000)(hs:eQ [] 0 false (cJ bs)=(ys,0))(ht:ys.map Prod.fst=jd t):nk bs=(t,0,0):=by
 have hf:=Fs hc;have hb:lO bs=⟨ys,0,0⟩:=by unfold lO;rw[if_neg (by omega),hs];rfl
 have hr:=LW (nj bs) 12 t hf.1 hf.2.2 (s:=⟨ys,0,0⟩) (s':=⟨[],0,0⟩) ⟨rfl,rfl,rfl,ys,by simp,ht⟩;unfold nk oX;rw[hb,hr];dsimp only;rw[Uh rfl,if_neg (by simp),if_neg (by simpa using hc)]
theorem Uk {t:Tm}(h:(bp t).2=0):jJ t=0/\(dY t).length<=1000/\bp t=(dY t,0):=by
 unfold bp at h ⊢;split at h
 ·rename_i hc;exact absurd h hc
 rename_i hc;split at h
 ·exact absurd h (by decide)
 rename_i hl;exact⟨by simpa using hc,by omega,by rw[if_neg hc,if_neg hl]⟩
theorem Ul {t:Tm}(h:(bp t).2=0):nk (bp t).1=(t,0,0):=by
 obtain⟨h1,h2,h3⟩:=Uk h;obtain⟨b,hb,_⟩:=qZ t (Fs h1).1;obtain⟨ys,a1,a2⟩:=hb.Ug;rw[h3];exact Uj h1 h2 a1 a2
def ky (l:List (List UInt8)):Nat:=l.flatten.length
theorem FR (a b:List (List UInt8)):ky (a++b)=ky a+ky b:=by unfold ky;rw[List.flatten_append,List.length_append]
theorem Um (l:List dH)(x:List UInt8):ky ((qX l x).map Prod.fst)=ky (l.map Prod.fst)+x.length:=by
 by_cases h:l=[]
 ·subst h;unfold qX ky;simp
 ·obtain⟨a,y,rfl⟩:=Lq l h
  rw[Fv,List.map_append,List.map_append,FR,FR];simp[ky];omega
theorem B6:∀ (R:List Int) (W:List dH) (at_:Int) (run:Bool),ky ((eQ W at_ run R).1.map Prod.fst)<=ky (W.map Prod.fst)+(ef R).length
 | [],W,at_,run=>by show ky (W.map Prod.fst)<=_;omega
 | r::R,W,at_,run=>by
  unfold eQ;rw[tf,List.length_append];split
  ·simp[ky]
  split
  ·have:=B6 R (qX W (enc r)) (at_+1) true
   rw[Um] at this;omega
  split
  ·have:=B6 R (W++[(enc r,at_+1)]) (at_+1) (kd r==97)
   rw[List.map_append,FR] at this;have e:ky ([(enc r,at_+1)].map Prod.fst)=(enc r).length:=by simp[ky]
   omega
  ·have:=B6 R W (at_+1) false
   omega
theorem Un {bs:List UInt8}(h:(lO bs).e=0):bs.length<=1000/\¬ 0<(eQ [] 0 false (cJ bs)).2/\lO bs=⟨(eQ [] 0 false (cJ bs)).1,0,0⟩:=by
 unfold lO at h ⊢;split at h
 ·exact absurd (show(5:Int)=0 from h) (by decide)
 split at h
 ·exact absurd (show(2:Int)=0 from h) (by decide)
 rename_i h1 h2;exact⟨by omega,h2,by rw[if_neg h1,if_neg h2]⟩
abbrev aT:=Int×List UInt8×List UInt8×List UInt8×List UInt8×Int×Int×Tm
def aT.e (m:aT):dT:=(m.1,str m.2.1,str m.2.2.1,str m.2.2.2.1,str m.2.2.2.2.1,m.2.2.2.2.2.1,m.2.2.2.2.2.2.1,m.2.2.2.2.2.2.2.v,())
def aT.t (m:aT):Tm:=m.2.2.2.2.2.2.2
def bb:aT:=(0,[],[],[],[],0,0,.none)
def du (m:aT):List UInt8×Int:=iZ m.e (bp m.t).1 (bp m.t).2
abbrev iE:=List UInt8×Bool
def dL (z:Bool)(n:Nat)(s:iE):List UInt8×iE:=if s.2=true\/s.1.length<n then(if z=true then List.replicate n 0 else[],(s.1,true)) else(s.1.take n,(s.1.drop n,false))
def fG (z:Bool)(size:Nat)(s:iE):List UInt8×iE:=dL z (fA (dL z size s).1) (dL z size s).2
def je (z:Bool)(s:iE):Int×iE:=((gU (dL z 8 s).1).1,((dL z 8 s).2.1,(dL z 8 s).2.2||(!z&&!(gU (dL z 8 s).1).2)))
def sh (z:Bool)(s:iE):Tm×iE:=((nk (fG z 2 s).1).1,((fG z 2 s).2.1,(fG z 2 s).2.2||(!z&&((nk (fG z 2 s).1).2.2 != 0))))
def gO (z:Bool)(x:iE×aT)(c:UInt8):iE×aT:=
 if c=68 then((je z x.1).2,(x.2.1,x.2.2.1,x.2.2.2.1,x.2.2.2.2.1,x.2.2.2.2.2.1,(je z x.1).1,x.2.2.2.2.2.2.2.1,x.2.2.2.2.2.2.2.2))
 else if c=86 then((je z x.1).2,(x.2.1,x.2.2.1,x.2.2.2.1,x.2.2.2.2.1,x.2.2.2.2.2.1,x.2.2.2.2.2.2.1,(je z x.1).1,x.2.2.2.2.2.2.2.2))
 else if c=84 then((sh z x.1).2,(x.2.1,x.2.2.1,x.2.2.2.1,x.2.2.2.2.1,x.2.2.2.2.2.1,x.2.2.2.2.2.2.1,x.2.2.2.2.2.2.2.1,(sh z x.1).1))
 else if c=73 then((fG z 1 x.1).2,(x.2.1,(fG z 1 x.1).1,x.2.2.2.1,x.2.2.2.2.1,x.2.2.2.2.2.1,x.2.2.2.2.2.2.1,x.2.2.2.2.2.2.2.1,x.2.2.2.2.2.2.2.2))
 else if c=78 then((fG z 1 x.1).2,(x.2.1,x.2.2.1,(fG z 1 x.1).1,x.2.2.2.2.1,x.2.2.2.2.2.1,x.2.2.2.2.2.2.1,x.2.2.2.2.2.2.2.1,x.2.2.2.2.2.2.2.2))
 else if c=76 then((fG z 1 x.1).2,(x.2.1,x.2.2.1,x.2.2.2.1,(fG z 1 x.1).1,x.2.2.2.2.2.1,x.2.2.2.2.2.2.1,x.2.2.2.2.2.2.2.1,x.2.2.2.2.2.2.2.2))
 else((fG z 1 x.1).2,(x.2.1,x.2.2.1,x.2.2.2.1,x.2.2.2.2.1,(fG z 1 x.1).1,x.2.2.2.2.2.2.1,x.2.2.2.2.2.2.2.1,x.2.2.2.2.2.2.2.2))
def lp (z:Bool)(bs:List UInt8):iE×aT:=
 (eM (fA (dL z 1 (bs,false)).1:Int)).foldl (gO z) ((dL z 1 (bs,false)).2,((fA (dL z 1 (bs,false)).1:Int),[],[],[],[],0,0,.none))
def zG (z:Bool)(bs:List UInt8):Bool:=!(lp z bs).1.2&&((du (lp z bs).2).2==0&&((du (lp z bs).2).1==bs&&(!z||(lp z bs).1.1==[])))
def fQ (z:Bool)(bs:List UInt8):aT×Int:=if zG z bs=true then((lp z bs).2,0) else(bb,2)
theorem FU (z:Bool)(a rest:List UInt8):dL z a.length (a++rest,false)=(a,(rest,false)):=by
 unfold dL;rw[if_neg (by simp)];simp
theorem B7 (z:Bool){n:Nat}(a rest:List UInt8)(h:a.length=n):dL z n (a++rest,false)=(a,(rest,false)):=by rw[<- h];exact FU z a rest
theorem L6 (b:UInt8):fA [b]=b.toNat:=by unfold fA;simp
theorem Uo (a b:UInt8):fA [a,b]=a.toNat * 256+b.toNat:=by unfold fA;simp
theorem zH (z:Bool)(s rest:List UInt8)(h:s.length<=255):fG z 1 (kn s++rest,false)=(s,(rest,false)):=by
 unfold fG;have h1:dL z 1 (kn s++rest,false)=([UInt8.ofNat (s.length % 256)],(s++rest,false)):=B7 z [UInt8.ofNat (s.length % 256)] (s++rest) rfl;rw[h1];dsimp only;rw[L6,oK (Nat.mod_lt _ (by decide)),Nat.mod_eq_of_lt (by omega)];exact FU z s rest
theorem xo (z:Bool)(n:Int)(h0:-9223372036854775808<=n)(h1:n<=9223372036854775807)(rest:List UInt8):je z (cu n++rest,false)=(n,(rest,false)):=by
 unfold je;rw[B7 z (cu n) rest (iB n)];dsimp only;rw[Bt n h0 h1];simp
theorem tz (t:Tm):(bp t).1.length<=1000:=by
 unfold bp;split
 ·simp
 split
 ·simp
 ·dsimp only;omega
theorem Up (z:Bool)(t:Tm)(h:(bp t).2=0)(rest:List UInt8):
  sh z (UInt8.ofNat ((bp t).1.length / 256 % 256)::UInt8.ofNat ((bp t).1.length % 256)::(bp t).1++rest,false)=(t,(rest,false)):=by
 unfold sh;have hl:=tz t;have h1:fG z 2 (UInt8.ofNat ((bp t).1.length / 256 % 256)::UInt8.ofNat ((bp t).1.length % 256)::(bp t).1++rest,false)=((bp t).1,(rest,false)):=by
  unfold fG;have h2:dL z 2 (UInt8.ofNat ((bp t).1.length / 256 % 256)::UInt8.ofNat ((bp t).1.length % 256)::(bp t).1++rest,false)=([UInt8.ofNat ((bp t).1.length / 256 % 256),UInt8.ofNat ((bp t).1.length % 256)],((bp t).1++rest,false)):=
   B7 z [UInt8.ofNat ((bp t).1.length / 256 % 256),UInt8.ofNat ((bp t).1.length % 256)] ((bp t).1++rest) rfl
  rw[h2];dsimp only;rw[Uo,oK (Nat.mod_lt _ (by decide)),oK (Nat.mod_lt _ (by decide)),show(bp t).1.length / 256 % 256 * 256+(bp t).1.length % 256=(bp t).1.length by omega];exact FU z _ rest
 rw[h1];dsimp only;rw[Ul h];simp
theorem B8 {e:dT}{tr:Int}(h:mm e tr=0):fS e.1≠[63]/\mX e=true/\oN e=true/\0<=e.2.2.2.2.2.1/\e.2.2.2.2.2.1<=10000/\cH e.2.2.2.2.2.2.1=true/\(e.1=2->tr=0):=by
 unfold mm at h
 by_cases c0:fS e.1=[63]
 ·rw[if_pos c0] at h;cases h
 rw[if_neg c0] at h
 by_cases c1:mX e=false
 ·rw[if_pos c1] at h;cases h
 rw[if_neg c1] at h
 by_cases c2:oN e=false
 ·rw[if_pos c2] at h;cases h
 rw[if_neg c2] at h
 by_cases c3:e.2.2.2.2.2.1<0
 ·rw[if_pos c3] at h;cases h
 rw[if_neg c3] at h
 by_cases c4:e.2.2.2.2.2.1 > 10000
 ·rw[if_pos c4] at h;cases h
 rw[if_neg c4] at h
 by_cases c5:cH e.2.2.2.2.2.2.1=false
 ·rw[if_pos c5] at h;cases h
 rw[if_neg c5] at h
 by_cases c6:e.1=4/\e.2.2.2.2.2.2.1≠0/\e.2.2.2.2.2.2.1≠1
 ·rw[if_pos c6] at h;cases h
 rw[if_neg c6] at h;refine⟨c0,by simpa using c1,by simpa using c2,by omega,by omega,by simpa using c5,fun k=>?_⟩;rw[if_pos k] at h;exact h
theorem Uq {k:Int}(h:fS k≠[63]):k=1\/k=2\/k=3\/k=4\/k=5\/k=6:=by
 unfold fS at h
 repeat' split at h
 all_goals first | omega | exact(h rfl).elim
theorem tA (s:List UInt8):iY (str s)=decide (s=[]):=by
 have e0:(⟨#[]⟩:ByteArray)=str []:=rfl;unfold iY;rw[e0,iW]
theorem B9 (s:List UInt8):pJ (str s)=kf 0 (cJ s):=by unfold pJ;rw[ke]
theorem zI {s:List UInt8}(h:kf 0 (cJ s)=true):s.length<=255:=by
 have hb:=Fj s.length s (Nat.le_refl _)
 rcases Fk _ _ h with t | t
 ·rw[t,List.length_nil] at hb;omega
 ·omega
theorem xp {t:Tm}(h:gL t.v=true):t=.none:=by cases t<;>first | rfl | (cases h)
theorem Ur {n:Int}(h:cH n=true):-9223372036854775808<=n/\n<=9223372036854775807:=by
 unfold cH at h;simp only[Bool.and_eq_true,decide_eq_true_eq] at h;omega
theorem xq (z:Bool)(k:Nat)(U:k<256)(rest:List UInt8):lp z (UInt8.ofNat k::rest)=(eM (k:Int)).foldl (gO z) ((rest,false),((k:Int),[],[],[],[],0,0,.none)):=by
 unfold lp;have h1:dL z 1 (UInt8.ofNat k::rest,false)=([UInt8.ofNat k],(rest,false)):=B7 z [UInt8.ofNat k] rest rfl;rw[h1];dsimp only;rw[L6,oK U]
theorem L7:eM 2=[73,84]:=by decide
theorem L8:eM 3=[78,68,86]:=by decide
theorem L9:eM 4=[73,76,86]:=by decide
theorem Ma:eM 5=[68]:=by decide
theorem Mb:eM 6=[67,68,86]:=by decide
theorem Mc {m:aT}{bs:List UInt8}(h:du m=(bs,0)):mm m.e (bp m.t).2=0/\bs=UInt8.ofNat (m.e.1 % 256).toNat::(eM m.e.1).flatMap (eY m.e (bp m.t).1):=by
 unfold du iZ at h;split at h
 ·rename_i c
  injection h with _ h
  exact(c h).elim
 ·rename_i c
  injection h with h _
  exact⟨Classical.not_not.1 c,h.symm⟩
theorem xr (a:UInt8)(l r:List UInt8):(a::l)++r=a::(l++r):=rfl
theorem Us (z:Bool)(m:aT){bs:List UInt8}(h:du m=(bs,0))(rest:List UInt8):lp z (bs++rest)=((rest,false),m):=by
 obtain⟨hc,rfl⟩:=Mc h;obtain⟨U,ho,hn,d0,d1,hv,ht⟩:=B8 hc;obtain⟨v0,v1⟩:=Ur hv;obtain⟨k,i,n,l,c,d,v,t⟩:=m;simp only[aT.e] at U ho hn d0 d1 hv ht v0 v1;simp only[aT.e,aT.t] at ht ⊢
 rcases Uq U with rfl | rfl | rfl | rfl | rfl | rfl
 ·simp[mX,cR,fS,tA] at ho
  obtain⟨⟨⟨⟨rfl,rfl⟩,rfl⟩,rfl⟩,⟨rfl,rfl⟩,hz⟩:=ho;obtain rfl:=xp hz;rw[xr (UInt8.ofNat ((1:Int) % 256).toNat),show((1:Int) % 256).toNat=1 by decide,xq z 1 (by decide)];rfl
 ·simp[mX,cR,fS,tA] at ho
  simp[oN,cR,fS,B9] at hn;obtain⟨⟨⟨rfl,rfl⟩,rfl⟩,rfl,rfl⟩:=ho;rw[xr (UInt8.ofNat ((2:Int) % 256).toNat),show((2:Int) % 256).toNat=2 by decide,xq z 2 (by decide),L7,show((2:Nat):Int)=2 by rfl,L7];have au:eY (2,str i,str [],str [],str [],0,0,t.v,()) (bp t).1 73=kn i:=by
   show kn (str i).data.toList=_;rw[ke]
  have aK:eY (2,str i,str [],str [],str [],0,0,t.v,()) (bp t).1 84=UInt8.ofNat ((bp t).1.length / 256 % 256)::UInt8.ofNat ((bp t).1.length % 256)::(bp t).1:=rfl;rw[List.flatMap_cons,List.flatMap_cons,List.flatMap_nil,au,aK,List.append_nil,List.append_assoc];rw[List.foldl_cons,List.foldl_cons,List.foldl_nil];have s1:∀ x,gO z x 73=((fG z 1 x.1).2,(x.2.1,(fG z 1 x.1).1,x.2.2.2.1,x.2.2.2.2.1,x.2.2.2.2.2.1,x.2.2.2.2.2.2.1,x.2.2.2.2.2.2.2.1,x.2.2.2.2.2.2.2.2)):=fun x=>rfl;have s2:∀ x,gO z x 84=((sh z x.1).2,(x.2.1,x.2.2.1,x.2.2.2.1,x.2.2.2.2.1,x.2.2.2.2.2.1,x.2.2.2.2.2.2.1,x.2.2.2.2.2.2.2.1,(sh z x.1).1)):=fun x=>rfl;rw[s1,s2];dsimp only;rw[zH z i _ (zI hn)];dsimp only;rw[Up z t (ht rfl)]
 ·simp[mX,cR,fS,tA] at ho
  simp[oN,cR,fS,B9] at hn;obtain⟨⟨⟨rfl,rfl⟩,rfl⟩,hz⟩:=ho;obtain rfl:=xp hz;rw[xr (UInt8.ofNat ((3:Int) % 256).toNat),show((3:Int) % 256).toNat=3 by decide,xq z 3 (by decide),L8,show((3:Nat):Int)=3 by rfl,L8];have au:eY (3,str [],str n,str [],str [],d,v,Tm.none.v,()) (bp .none).1 78=kn n:=by
   show kn (str n).data.toList=_;rw[ke]
  have aK:eY (3,str [],str n,str [],str [],d,v,Tm.none.v,()) (bp .none).1 68=cu d:=rfl;have aU:eY (3,str [],str n,str [],str [],d,v,Tm.none.v,()) (bp .none).1 86=cu v:=rfl;rw[List.flatMap_cons,List.flatMap_cons,List.flatMap_cons,List.flatMap_nil,au,aK,aU,List.append_nil,List.append_assoc,List.append_assoc];rw[List.foldl_cons,List.foldl_cons,List.foldl_cons,List.foldl_nil];have s1:∀ x,gO z x 78=((fG z 1 x.1).2,(x.2.1,x.2.2.1,(fG z 1 x.1).1,x.2.2.2.2.1,x.2.2.2.2.2.1,x.2.2.2.2.2.2.1,x.2.2.2.2.2.2.2.1,x.2.2.2.2.2.2.2.2)):=fun x=>rfl;have s2:∀ x,gO z x 68=((je z x.1).2,(x.2.1,x.2.2.1,x.2.2.2.1,x.2.2.2.2.1,x.2.2.2.2.2.1,(je z x.1).1,x.2.2.2.2.2.2.2.1,x.2.2.2.2.2.2.2.2)):=fun x=>rfl;have s3:∀ x,gO z x 86=((je z x.1).2,(x.2.1,x.2.2.1,x.2.2.2.1,x.2.2.2.2.1,x.2.2.2.2.2.1,x.2.2.2.2.2.2.1,(je z x.1).1,x.2.2.2.2.2.2.2.2)):=fun x=>rfl;rw[s1,s2,s3];dsimp only;rw[zH z n _ (zI hn)];dsimp only;rw[xo z d (by omega) (by omega)];dsimp only;rw[xo z v v0 v1]
 ·simp[mX,cR,fS,tA] at ho
  simp[oN,cR,fS,B9] at hn;obtain⟨⟨rfl,rfl⟩,rfl,hz⟩:=ho;obtain rfl:=xp hz;rw[xr (UInt8.ofNat ((4:Int) % 256).toNat),show((4:Int) % 256).toNat=4 by decide,xq z 4 (by decide),L9,show((4:Nat):Int)=4 by rfl,L9];have au:eY (4,str i,str [],str l,str [],0,v,Tm.none.v,()) (bp .none).1 73=kn i:=by
   show kn (str i).data.toList=_;rw[ke]
  have aK:eY (4,str i,str [],str l,str [],0,v,Tm.none.v,()) (bp .none).1 76=kn l:=by
   show kn (str l).data.toList=_;rw[ke]
  have aU:eY (4,str i,str [],str l,str [],0,v,Tm.none.v,()) (bp .none).1 86=cu v:=rfl;rw[List.flatMap_cons,List.flatMap_cons,List.flatMap_cons,List.flatMap_nil,au,aK,aU,List.append_nil,List.append_assoc,List.append_assoc];rw[List.foldl_cons,List.foldl_cons,List.foldl_cons,List.foldl_nil];have s1:∀ x,gO z x 73=((fG z 1 x.1).2,(x.2.1,(fG z 1 x.1).1,x.2.2.2.1,x.2.2.2.2.1,x.2.2.2.2.2.1,x.2.2.2.2.2.2.1,x.2.2.2.2.2.2.2.1,x.2.2.2.2.2.2.2.2)):=fun x=>rfl;have s2:∀ x,gO z x 76=((fG z 1 x.1).2,(x.2.1,x.2.2.1,x.2.2.2.1,(fG z 1 x.1).1,x.2.2.2.2.2.1,x.2.2.2.2.2.2.1,x.2.2.2.2.2.2.2.1,x.2.2.2.2.2.2.2.2)):=fun x=>rfl;have s3:∀ x,gO z x 86=((je z x.1).2,(x.2.1,x.2.2.1,x.2.2.2.1,x.2.2.2.2.1,x.2.2.2.2.2.1,x.2.2.2.2.2.2.1,(je z x.1).1,x.2.2.2.2.2.2.2.2)):=fun x=>rfl;rw[s1,s2,s3];dsimp only;rw[zH z i _ (zI hn.1)];dsimp only;rw[zH z l _ (zI hn.2)];dsimp only;rw[xo z v v0 v1]
 ·simp[mX,cR,fS,tA] at ho
  obtain⟨⟨⟨⟨rfl,rfl⟩,rfl⟩,rfl⟩,rfl,hz⟩:=ho;obtain rfl:=xp hz;rw[xr (UInt8.ofNat ((5:Int) % 256).toNat),show((5:Int) % 256).toNat=5 by decide,xq z 5 (by decide),Ma,show((5:Nat):Int)=5 by rfl,Ma];have aK:eY (5,str [],str [],str [],str [],d,0,Tm.none.v,()) (bp .none).1 68=cu d:=rfl;rw[List.flatMap_cons,List.flatMap_nil,aK,List.append_nil];rw[List.foldl_cons,List.foldl_nil];have s2:∀ x,gO z x 68=((je z x.1).2,(x.2.1,x.2.2.1,x.2.2.2.1,x.2.2.2.2.1,x.2.2.2.2.2.1,(je z x.1).1,x.2.2.2.2.2.2.2.1,x.2.2.2.2.2.2.2.2)):=fun x=>rfl;rw[s2];dsimp only;rw[xo z d (by omega) (by omega)]
 ·simp[mX,cR,fS,tA] at ho
  simp[oN,cR,fS,B9] at hn;obtain⟨⟨⟨rfl,rfl⟩,rfl⟩,hz⟩:=ho;obtain rfl:=xp hz;rw[xr (UInt8.ofNat ((6:Int) % 256).toNat),show((6:Int) % 256).toNat=6 by decide,xq z 6 (by decide),Mb,show((6:Nat):Int)=6 by rfl,Mb];have au:eY (6,str [],str [],str [],str c,d,v,Tm.none.v,()) (bp .none).1 67=kn c:=by
   show kn (str c).data.toList=_;rw[ke]
  have aK:eY (6,str [],str [],str [],str c,d,v,Tm.none.v,()) (bp .none).1 68=cu d:=rfl;have aU:eY (6,str [],str [],str [],str c,d,v,Tm.none.v,()) (bp .none).1 86=cu v:=rfl;rw[List.flatMap_cons,List.flatMap_cons,List.flatMap_cons,List.flatMap_nil,au,aK,aU,List.append_nil,List.append_assoc,List.append_assoc];rw[List.foldl_cons,List.foldl_cons,List.foldl_cons,List.foldl_nil];have s1:∀ x,gO z x 67=((fG z 1 x.1).2,(x.2.1,x.2.2.1,x.2.2.2.1,x.2.2.2.2.1,(fG z 1 x.1).1,x.2.2.2.2.2.2.1,x.2.2.2.2.2.2.2.1,x.2.2.2.2.2.2.2.2)):=fun x=>rfl;have s2:∀ x,gO z x 68=((je z x.1).2,(x.2.1,x.2.2.1,x.2.2.2.1,x.2.2.2.2.1,x.2.2.2.2.2.1,(je z x.1).1,x.2.2.2.2.2.2.2.1,x.2.2.2.2.2.2.2.2)):=fun x=>rfl;have s3:∀ x,gO z x 86=((je z x.1).2,(x.2.1,x.2.2.1,x.2.2.2.1,x.2.2.2.2.1,x.2.2.2.2.2.1,x.2.2.2.2.2.2.1,(je z x.1).1,x.2.2.2.2.2.2.2.2)):=fun x=>rfl;rw[s1,s2,s3];dsimp only;rw[zH z c _ (zI hn)];dsimp only;rw[xo z d (by omega) (by omega)];dsimp only;rw[xo z v v0 v1]
theorem Ut (z:Bool)(m:aT){bs:List UInt8}(h:du m=(bs,0)):lp z bs=(([],false),m):=by
 have:=Us z m h [];rwa[List.append_nil] at this
theorem Md (z:Bool){m:aT}{bs:List UInt8}(h:du m=(bs,0)):fQ z bs=(m,0):=by
 unfold fQ zG;rw[Ut z m h];dsimp only;rw[h];simp
structure da where
 fx:List ((List UInt8×Int)×Int)
 ch:List ((List UInt8×List UInt8)×Int×Int)
def bq {κ ν:Type}[DecidableEq κ](k:κ):List (κ×ν)->Option ν
 | []=>none
 | (a,v)::l=>if a=k then some v else bq k l
def jL {κ ν:Type}[DecidableEq κ](k:κ)(v:ν):List (κ×ν)->List (κ×ν)
 | []=>[(k,v)]
 | (a,u)::l=>if a=k then(a,v)::l else(a,u)::jL k v l
theorem Me {κ ν:Type}[DecidableEq κ](k:κ):∀ (l m:List (κ×ν)),bq k (l++m)=(bq k l).or (bq k m)
 | [],m=>by simp[bq]
 | (a,v)::l,m=>by
  simp only[List.cons_append,bq];split
  ·rfl
  ·exact Me k l m
theorem Ca {κ ν:Type}[DecidableEq κ](k:κ)(v:ν):∀ (l:List (κ×ν)),bq k l=none->jL k v l=l++[(k,v)]
 | [],_=>rfl
 | (a,u)::l,h=>by
  unfold bq at h;split at h
  ·cases h
  ·rename_i ay
   rw[jL,if_neg ay,Ca k v l h];rfl
theorem Mf {κ ν:Type}[DecidableEq κ](k k':κ)(v:ν):∀ (l:List (κ×ν)),bq k' (jL k v l)=if k=k' then some v else bq k' l
 | []=>rfl
 | (a,u)::l=>by
  unfold jL
  by_cases h:a=k
  ·subst h
   rw[if_pos rfl];unfold bq;split
   ·rfl
   ·rfl
  ·rw[if_neg h]
   unfold bq
   by_cases h2:a=k'
   ·subst h2
    rw[if_pos rfl,if_neg (fun t=>h t.symm),if_pos rfl]
   ·rw[if_neg h2,if_neg h2,Mf k k' v l]
def ve (a b:Int):Int×Bool:=if(cH a&&cH b)&&cH (a+b) then(a+b,true) else(0,false)
def kS (a b:Int):Int×Bool:=if(cH a&&cH b)&&cH (a * b) then(a * b,true) else(0,false)
def vg (a b:Int):Int×Bool:=(max a b,true)
def oZ (r:Int×Bool):Int×Bool×Int:=if r.2=true then(r.1,true,0) else(0,false,6)
def zJ (a b:Int×Bool×Int)(f:Int->Int->Int×Bool):Int×Bool×Int:=
 if a.2.2≠0 then(0,false,a.2.2) else if b.2.2≠0\/a.2.1=false\/b.2.1=false then(0,false,b.2.2) else oZ (f a.1 b.1)
def FV (a:Int×Bool×Int):Int×Bool×Int:=
 if a.2.2≠0\/a.2.1=false then(0,false,a.2.2) else oZ (if cH a.1 then(-a.1,true) else(0,false))
def eG (w:da)(d:Int):Ob->Int×Bool×Int
 | .none=>(0,false,0)
 | .const n=>(n,true,0)
 | .fix s=>match bq (s,d) w.fx with | some v=>(v,true,0) | none=>(0,false,0)
 | .add l r=>zJ (eG w d l) (eG w d r) ve
 | .mul l r=>zJ (eG w d l) (eG w d r) kS
 | .max l r=>zJ (eG w d l) (eG w d r) vg
 | .neg o=>FV (eG w d o)
def fj (w:da)(d:Int)(o:Ob):Int×Bool×Int:=if uT o≠0 then(0,false,2) else eG w d o
def gw (out:List (List UInt8))(s:List UInt8):List (List UInt8):=if s∈out then out else out++[s]
def cv:Ob->List (List UInt8)
 | .none=>[]
 | .const _=>[]
 | .fix s=>[s]
 | .add l r=>(cv r).foldl gw ((cv l).foldl gw [])
 | .mul l r=>(cv r).foldl gw ((cv l).foldl gw [])
 | .max l r=>(cv r).foldl gw ((cv l).foldl gw [])
 | .neg o=>(cv o).foldl gw []
def np (w:da)(d:Int)(o:Ob):List (List UInt8):=if uT o≠0 then[] else(cv o).filter fun s=>(bq (s,d) w.fx).isNone
abbrev lq:=Int×List UInt8×Int
abbrev gx:=Bool×List UInt8×List UInt8×Int×Int
abbrev iF:=List lq×List gx
def lr (d:Int)(names:List (List UInt8))(ws:List gx):List gx:=
 names.foldl (fun ws s=>if(false,s,[],d,0)∈ws then ws else ws++[(false,s,[],d,0)]) ws
def cB (id:List UInt8)(w:da):Tm->Int->Int->iF->iF×Int
 | .none,_,_,x=>(x,0)
 | .zero,_,_,x=>(x,0)
 | .one s,d,k,x=>((x.1++[(d,s,k)],x.2),0)
 | .gD t,d,k,x=>cB id w t d (-k) x
 | .and l r,d,k,x=>if(cB id w l d k x).2≠0 then cB id w l d k x else cB id w r d k (cB id w l d k x).1
 | .when n t,d,k,x=>cB id w t (max d n) k x
 | .scale o t,d,k,x=>
  if(fj w d o).2.2≠0 then(x,(fj w d o).2.2) else if(fj w d o).2.1=false then((x.1,lr d (np w d o) x.2),0)
  else if(kS k (fj w d o).1).2=false then(x,6) else if(kS k (fj w d o).1).1=0 then(x,0) else cB id w t d (kS k (fj w d o).1).1 x
 | .cond o l r,d,k,x=>
  if(fj w d o).2.2≠0 then(x,(fj w d o).2.2) else if(fj w d o).2.1=false then((x.1,lr d (np w d o) x.2),0)
  else if 0<(fj w d o).1 then cB id w l d k x else cB id w r d k x
 | .or s l r,d,k,x=>match bq (id,s) w.ch with
  | none=>((x.1,x.2++[(true,[],s,d,if 0<k then 0 else 1)]),0)
  | some (p,since)=>if p=0 then cB id w l (max d since) k x else cB id w r (max d since) k x
def fH (id:List UInt8)(t:Tm)(day:Int)(w:da):iF×Int:=
 if jJ t≠0\/day<0\/10000<day then(([],[]),1) else
 if(cB id w t day 1 ([],[])).2≠0 then(([],[]),(cB id w t day 1 ([],[])).2) else((cB id w t day 1 ([],[])).1,0)
abbrev j0:=List UInt8×Int×Tm
structure cG where
 day:Int
 cN:List j0
 w:da
 fV:List ((Int×List UInt8)×Int)
def aT.kind (m:aT):Int:=m.1
def aT.id (m:aT):List UInt8:=m.2.1
def aT.name (m:aT):List UInt8:=m.2.2.1
def aT.label (m:aT):List UInt8:=m.2.2.2.1
def aT.cur (m:aT):List UInt8:=m.2.2.2.2.1
def aT.day (m:aT):Int:=m.2.2.2.2.2.1
def aT.val (m:aT):Int:=m.2.2.2.2.2.2.1
def iR (m:aT):Int:=mm m.e (bp m.t).2
def oc (w:da):List j0->iF->iF×Int
 | [],x=>(x,0)
 | d::l,x=>if(fH d.1 d.2.2 d.2.1 w).2≠0 then(([],[]),(fH d.1 d.2.2 d.2.1 w).2) else oc w l (x.1++(fH d.1 d.2.2 d.2.1 w).1.1,x.2++(fH d.1 d.2.2 d.2.1 w).1.2)
def cG.all (l:cG):iF×Int:=oc l.w l.cN ([],[])
def cG.j1 (l:cG)(d:Int)(c:List UInt8):Int:=(bq (d,c) l.fV).getD 0
def kz (d:Int)(c:List UInt8)(n:Int)(fs:List lq):Int:=fs.foldl (fun n f=>if f.1=d/\f.2.1=c then n+f.2.2 else n) n
def cG.od (l:cG)(d:Int)(c:List UInt8):Int:=kz d c (-l.j1 d c) l.all.1.1
def tB (d:Int):Bool:=decide (0<=d)&&decide (d<=10000)
def q7 (w:da)(s:List UInt8)(d v:Int):da×Int:=
 if eZ s=false\/tB d=false\/cH v=false then(w,1) else if(bq (s,d) w.fx).isSome then(w,4) else if 32<=w.fx.length then(w,5) else({ w with fx:=jL (s,d) v w.fx },0)
def lu (w:da)(id label:List UInt8)(side day:Int):da×Int:=
 if eZ id=false\/eZ label=false\/(side≠0/\side≠1)\/tB day=false then(w,1) else if(bq (id,label) w.ch).isSome then(w,4) else({ w with ch:=jL (id,label) (side,day) w.ch },0)
def tC (l:cG)(m:aT):cG×Int:=
 if l.cN.any (fun d=>d.1==m.id)=true then(l,4) else if 8<=l.cN.length then(l,5) else
 if(fH m.id m.t l.day l.w).2≠0 then(l,(fH m.id m.t l.day l.w).2) else({ l with cN:=l.cN++[(m.id,l.day,m.t)] },0)
def si (l:cG)(m:aT):cG×Int:=
 if l.day<m.day then(l,7) else if(q7 l.w m.name m.day m.val).2≠0 then(l,(q7 l.w m.name m.day m.val).2) else
 if(({ l with w:=(q7 l.w m.name m.day m.val).1 }:cG).all).2≠0 then(l,(({ l with w:=(q7 l.w m.name m.day m.val).1 }:cG).all).2) else({ l with w:=(q7 l.w m.name m.day m.val).1 },0)
def sj (l:cG)(m:aT)(eK:Int):cG×Int:=
 match l.cN.find? (fun d=>d.1==m.id) with
 | none=>(l,3)
 | some d=>match (fH d.1 d.2.2 d.2.1 l.w).1.2.find? (fun x=>x.1&&x.2.2.1==m.label) with
  | none=>(l,3)
  | some x=>if l.day<x.2.2.2.1 then(l,7) else if x.2.2.2.2≠eK then(l,8) else
   if(lu l.w m.id m.label m.val l.day).2≠0 then(l,(lu l.w m.id m.label m.val l.day).2) else
   if(fH d.1 d.2.2 d.2.1 (lu l.w m.id m.label m.val l.day).1).2≠0 then(l,(fH d.1 d.2.2 d.2.1 (lu l.w m.id m.label m.val l.day).1).2) else
   ({ l with w:=(lu l.w m.id m.label m.val l.day).1 },0)
def tD (l:cG)(m:aT):cG×Int:=
 if l.day<m.day then(l,7) else if l.od m.day m.cur=0 then(l,3) else if l.od m.day m.cur≠m.val then(l,1) else
 ({ l with fV:=jL (m.day,m.cur) (l.j1 m.day m.cur+l.od m.day m.cur) l.fV },0)
def iG (l:cG)(m:aT)(eK:Int):cG×Int:=
 if eK≠0/\eK≠1 then(l,1) else if iR m≠0 then(l,iR m) else
 if m.kind=2 then tC l m else if m.kind=3 then si l m else if m.kind=4 then sj l m eK else if m.kind=6 then tD l m else
 if m.kind=5 then(if m.day<=l.day then(l,7) else({ l with day:=m.day },0)) else(l,0)
def jf (l:cG)(m:aT)(eK:Int):Int:=(iG l m eK).2
def xu:cG:=⟨0,[],⟨[],[]⟩,[]⟩
theorem Uu {l:cG}{m:aT}{b:Int}:(iG l m b).2≠0->(iG l m b).1=l:=by
 have ht:(tC l m).2≠0->(tC l m).1=l:=by
  unfold tC
  repeat' split
  all_goals first | (intro _;rfl) | (intro h;exact absurd rfl h)
 have hf:(si l m).2≠0->(si l m).1=l:=by
  unfold si
  repeat' split
  all_goals first | (intro _;rfl) | (intro h;exact absurd rfl h)
 have hc:(sj l m b).2≠0->(sj l m b).1=l:=by
  unfold sj
  repeat' split
  all_goals first | (intro _;rfl) | (intro h;exact absurd rfl h)
 have hs:(tD l m).2≠0->(tD l m).1=l:=by
  unfold tD
  repeat' split
  all_goals first | (intro _;rfl) | (intro h;exact absurd rfl h)
 unfold iG;split
 ·intro _;rfl
 split
 ·intro _;rfl
 split
 ·exact ht
 split
 ·exact hf
 split
 ·exact hc
 split
 ·exact hs
 split
 ·split
  ·intro _;rfl
  ·intro h;exact absurd rfl h
 ·intro _;rfl
def eH (a b:Int):Int:=IntKind.u64.wrap (a+b)
def dV (a b:Int):Int:=IntKind.u64.wrap ((BitVec.ofInt 64 a ^^^ BitVec.ofInt 64 b).toNat:Int)
def fW (x:Int)(k:Nat):Int:=IntKind.u64.wrap ((BitVec.ofInt 64 (IntKind.u64.wrap (x * 2 ^ (min k 64))) ||| BitVec.ofInt 64 (Int.fdiv x (2 ^ (min (64 - k) 64)))).toNat:Int)
abbrev kT:=Int×Int×Int×Int
def FW (s:kT):kT:=
 let a0:=eH s.1 s.2.1
 let a1:=dV (fW s.2.1 13) a0
 let a0:=fW a0 32
 let a2:=eH s.2.2.1 s.2.2.2
 let a3:=dV (fW s.2.2.2 16) a2
 let a0:=eH a0 a3
 let a3:=dV (fW a3 21) a0
 let a2:=eH a2 a1
 let a1:=dV (fW a1 17) a2
 let a2:=fW a2 32
 (a0,a1,a2,a3)
def p8:Nat->kT->kT
 | 0,s=>s
 | n+1,s=>FW (p8 n s)
def zK (m:Int)(s:kT):kT:=(dV (p8 2 (s.1,s.2.1,s.2.2.1,dV s.2.2.2 m)).1 m,(p8 2 (s.1,s.2.1,s.2.2.1,dV s.2.2.2 m)).2)
def gF (bs:List UInt8):Nat:=bs.foldr (fun b n=>n * 256+b.toNat) 0
def FX (kb:List UInt8):kT:=(dV (gF (kb.take 8):Int) 8317987319222330741,dV (gF (kb.drop 8):Int) 7237128888997146477,dV (gF (kb.take 8):Int) 7816392313619706465,dV (gF (kb.drop 8):Int) 8387220255154660723)
def Uv (bs:List UInt8)(j:Nat):Nat:=gF ((bs.drop (8 * j)).take 8)
def Cb (bs:List UInt8)(s:kT):Nat->kT
 | 0=>s
 | n+1=>zK (Uv bs n:Int) (Cb bs s n)
def Cc (bs:List UInt8):Nat:=gF (bs.drop (8 * (bs.length / 8)))+bs.length % 256 * 72057594037927936
def Mg (s:kT):Int:=dV (dV (dV (p8 4 (s.1,s.2.1,dV s.2.2.1 255,s.2.2.2)).1 (p8 4 (s.1,s.2.1,dV s.2.2.1 255,s.2.2.2)).2.1) (p8 4 (s.1,s.2.1,dV s.2.2.1 255,s.2.2.2)).2.2.1) (p8 4 (s.1,s.2.1,dV s.2.2.1 255,s.2.2.2)).2.2.2
def nq (kb bs:List UInt8):Int:=Mg (zK (Cc bs:Int) (Cb bs (FX kb) (bs.length / 8)))
theorem Uw:gF []=0:=rfl
theorem Cd (b:UInt8)(bs:List UInt8):gF (b::bs)=gF bs * 256+b.toNat:=rfl
theorem Mh:∀ a b:List UInt8,gF (a++b)=gF a+256 ^ a.length * gF b
 | [],b=>by rw[List.nil_append,Uw,List.length_nil,Nat.pow_zero];omega
 | x::a,b=>by
  rw[List.cons_append,Cd,Cd,Mh a b,List.length_cons,Nat.pow_succ,Nat.add_mul,Nat.mul_assoc,Nat.mul_comm (gF b) 256,<- Nat.mul_assoc];omega
theorem Ce:∀ bs:List UInt8,gF bs<256 ^ bs.length
 | []=>by decide
 | b::bs=>by
  have h:=Ce bs;have hb:=b.toNat_lt;rw[Cd,List.length_cons,Nat.pow_succ];omega
theorem Ux (bs:List UInt8)(i:Nat)(h:i<bs.length):gF (bs.take (i+1))=gF (bs.take i)+256 ^ i * (bs.getD i 0).toNat:=by
 rw[List.take_add_one,List.getElem?_eq_getElem h,List.getD_eq_getElem?_getD,List.getElem?_eq_getElem h,Mh,List.length_take,Nat.min_eq_left (by omega)];simp[gF]
def o0:Nat->Nat->List UInt8
 | 0,_=>[]
 | k+1,m=>UInt8.ofNat (m % 256)::o0 k (m / 256)
theorem FY:∀ k m,(o0 k m).length=k
 | 0,_=>rfl
 | k+1,m=>by unfold o0;rw[List.length_cons,FY k]
theorem Mi:∀ k m,gF (o0 k m)=m % 256 ^ k
 | 0,m=>by rw[Nat.pow_zero,Nat.mod_one];rfl
 | k+1,m=>by
  unfold o0;rw[Cd,Mi k,oK (Nat.mod_lt _ (by decide)),Nat.pow_succ,Nat.mul_comm (256 ^ k) 256,Nat.mod_mul,Nat.mul_comm];omega
theorem Mj:∀ (k m i:Nat),i<k->(o0 k m)[i]? = some (UInt8.ofNat (m / 256 ^ i % 256))
 | 0,_,_,h=>by omega
 | k+1,m,0,_=>by unfold o0;simp
 | k+1,m,i+1,h=>by
  unfold o0;rw[List.getElem?_cons_succ,Mj k (m / 256) i (by omega),Nat.div_div_eq_div_mul,Nat.pow_succ,Nat.mul_comm 256]
def gG (n:Int):List UInt8:=o0 8 (n % 18446744073709551616).toNat
theorem qa (n:Int):(gG n).length=8:=FY _ _
theorem Uy (n:Int)(h0:0<=n)(h1:n<18446744073709551616):(gF (gG n):Int)=n:=by
 unfold gG;rw[Mi,show 256 ^ 8=18446744073709551616 by decide];omega
theorem Uz (a b:Int):0<=dV a b/\dV a b<18446744073709551616:=by
 unfold dV;rw[Er];exact⟨Int.emod_nonneg _ (by decide),Int.emod_lt_of_pos _ (by decide)⟩
theorem FZ (kb bs:List UInt8):0<=nq kb bs/\nq kb bs<18446744073709551616:=Uz _ _
namespace Vc
theorem aq.pre {cks:List Ck}{b:Nat}{w:World}{K:Cs cks->Prop}{cs:Array Value}{T:TypeId}{fr:Nat×Nat}{x:Cs cks}(hb:w.heap[b]? = some (.cells cs T fr))(hx:∀ j,j<(Cs.vals cks x).length->cs[j]? = (Cs.vals cks x)[j]?)(h:K x):aq cks ((⟨b,0,none⟩:Addr).add 0) w K:=
 ⟨x,by rw[dP];exact nP hb _ 0 fun j hj=>by rw[Nat.zero_add];exact hx j hj,h⟩
end Vc
theorem Ga {w:World}{v:Sl}{bs:List UInt8}(h:aZ w v bs):(convert 22 9 (.slice v.1 v.2.1 v.2.2)).run Tryz.prog w=.ok (.string (str bs)) w:=by
 show _=Result.ok (Value.string ⟨bs.toArray⟩) w;rw[run_convert_bytes_string w _ _ 5 v.1 v.2.1 v.2.2 Tryz.underlying22 Tryz.underlying5 Tryz.underlying9];have hl:=h.len;obtain⟨h1,h2,h3⟩:=h;cases hv:v.1 with
 | none=>
  have:bs=[]:=by have:=(h2 hv).2.2;simpa using this
  subst this;rfl
 | some a=>
  have hc:=h3 a hv;have UA:(loadCells a v.2.1).run Tryz.prog w=.ok ((bs.map fun b=>(b.toNat:Int)).map (Value.int .u8)).toArray w:=by
   have:=ur (P:=Tryz.prog) (bs.map bc) hc;rw[List.length_map,<- hl] at this;rw[this]
   congr 1
   rw[List.map_map];rfl
  rw[run_bytesToString w a v.2.1 v.2.2 _ UA,foldl_push_bytes];have e:((bs.map fun b=>(b.toNat:Int)).map fun n=>UInt8.ofNat n.toNat)=bs:=by
   rw[List.map_map]
   conv=>rhs;rw[<- List.map_id bs]
   refine List.map_congr_left fun b _=>?_;simp
  rw[e]
  congr 2
  simp
abbrev Mk:=Int×ByteArray×ByteArray×ByteArray×ByteArray×Int×Int×Value×Bool×Unit
def kU (e:dT)(r:Bool):Mk:=(e.1,e.2.1,e.2.2.1,e.2.2.2.1,e.2.2.2.2.1,e.2.2.2.2.2.1,e.2.2.2.2.2.2.1,e.2.2.2.2.2.2.2.1,r,())
def Gb (e:dT)(r:Bool):Value:=.agg #[.int .i64 e.1,.string e.2.1,.string e.2.2.1,.string e.2.2.2.1,.string e.2.2.2.2.1,.int .i64 e.2.2.2.2.2.1,.int .i64 e.2.2.2.2.2.2.1,e.2.2.2.2.2.2.2.1,.bool r]
def tE (e:dT)(ts:List UInt8)(tr:Int)(r:Bool):List UInt8×Int:=if(iZ e ts tr).2≠0 then([],(iZ e ts tr).2) else((if r=true then 1 else 0)::(iZ e ts tr).1,0)
theorem zL (e:dT)(hz:pM e)(ts:List UInt8)(jY:ts.length<=1000000)(tr:Int):(iZ e ts tr).1.length<=10000000:=by
 unfold iZ;split
 ·simp
 have BE:(eM e.1).length<=7:=by unfold eM;exact Nat.le_trans (List.length_filter_le _ _) (by decide)
 have hbound:∀ l:List UInt8,(l.flatMap (eY e ts)).length<=l.length * 1000010:=by
  intro l
  induction l with
  | nil=>simp
  | cons a l ih=>rw[List.flatMap_cons,List.length_append,List.length_cons];have:=ES e hz ts jY a;omega
 have:=hbound (eM e.1);simp only[List.length_cons];omega
theorem Ml (e:dT)(r:Bool)(hT:pK e.2.2.2.2.2.2.2.1)(hz:pM e)(ts:List UInt8)(jY:ts.length<=1000000)(tr:Int)(w:World)
  (ht:e.1=2->∀ w1,Fr none1 w w1->Ret Tryz.prog 132 #[e.2.2.2.2.2.2.2.1] w1 fun r w'=>r=.tuple #[.string (str ts),.int .i64 tr]/\Fr none1 w1 w') :
  Ret Tryz.prog 153 #[Gb e r] w fun q w'=>∃ v:Sl,q=.tuple #[.slice v.1 v.2.1 v.2.2,.int .i64 (tE e ts tr r).2]/\cg w' v (tE e ts tr r).1/\Fr none1 w w'/\∀ k,aw v k->w.heap.size<=k:=by
 refine c153 (kU e r) w _ ?_;unfold C153;refine ak.of fun g w1 hg hb f1 _=>?_;refine aq.pre (x:=e) hb (fun j hj=>?_) ?_
 ·match j,hj with
  | 0,_=>rfl
  | 1,_=>rfl
  | 2,_=>rfl
  | 3,_=>rfl
  | 4,_=>rfl
  | 5,_=>rfl
  | 6,_=>rfl
  | 7,_=>rfl
  | j+8,h=>exact absurd h (by show ¬ j+8<8;omega)
 refine ab.of (ET e hT hz ts jY tr w1 (fun h w' f=>ht h w' (f1.trans f))) ?_;rintro _ w2 ⟨v,rfl,hv,f2,vf⟩;refine⟨(v,(iZ e ts tr).2,()),rfl,?_⟩;have f12:=f1.trans f2;have hlen:=zL e hz ts jY tr;have hsz:=f1.size;unfold tE;dsimp only;refine aa.ne (fun ay=>?_) (fun he=>?_)
 ·simp only[if_pos ay]
  exact⟨(none,0,0),rfl,.inl ⟨rfl,rfl⟩,f12,fun k ⟨a,ha,_⟩=>by cases ha⟩
 simp only[if_neg (show ¬ (iZ e ts tr).2≠0 from fun t=>t he)];refine ae.ah (f2.af hb) (x:=r) rfl ?_;have fin:∀ (c:UInt8),az Tryz.prog (Instr.buildSlice 22 1 #[(0,bc c)]) w2 (.v (.one .aj)) (fun(x7:Option Addr×Nat×Nat) w8=>az Tryz.prog (Builtin.append_ #[22,22] 22 #[.slice x7.1 x7.2.1 x7.2.2,.slice v.1 v.2.1 v.2.2]) w8 (.v (.one .aj)) (fun(x9:Option Addr×Nat×Nat) aG=>
   ∃ u:Sl,(Value.tuple #[.slice x9.1 x9.2.1 x9.2.2,.int .i64 0])=.tuple #[.slice u.1 u.2.1 u.2.2,.int .i64 0]/\cg aG u (c::(iZ e ts tr).1)/\Fr none1 w aG/\∀ k,aw u k->w.heap.size<=k)):=by
  intro c;obtain⟨x,w3,EU,hx,kN,f3,xf⟩:=rJ (P:=Tryz.prog) (w:=w2) mR [bc c] (by simp[bc,Value.cells]) (by simp);refine⟨x,w3,EU,?_⟩;have yL:cg w3 x [c]:=hx;obtain⟨y,w4,zh,hy,f4,yf⟩:=rK yL (cg.af hv f3).rd (by simp only[List.length_singleton];omega);have s2:=f12.size;have s3:=f3.size;refine⟨y,w4,zh,y,rfl,hy,(f12.trans f3).comp f4 (fun k U t=>by have:=xf k t;omega),fun k U=>?_⟩
  rcases yf k U with t | t
  ·have:=xf k t;omega
  ·omega
 refine aa.by (fun h=>?_) (fun h=>?_)
 ·rw[if_pos h];exact fin 1
 ·rw[if_neg (by rw[h];decide)];exact fin 0
namespace Vc
open Go.ChangeShapes Go.WideShapes
variable {P:Program}
def IsNest (k:IntKind)(w:World)(a:Option Addr)(len cap:Nat)(us:List (Sl×List Int)):Prop:=
 (a=none/\len=0/\cap=0/\us=[]) \/
 ∃ x,a=some x/\len<=cap/\cap<=maxLen/\us.length=len/\∀ i u,us[i]? = some u->w.cell? (x.add i)=some (.slice u.1.1 u.1.2.1 u.1.2.2)/\IsInts k w u.1.1 u.1.2.1 u.1.2.2 u.2
theorem Mm {α:Type}{Q:Nat->α->Prop}:∀ (n:Nat),(∀ i,i<n->∃ u,Q i u)->∃ us:List α,us.length=n/\∀ i u,us[i]? = some u->Q i u
 | 0,_=>⟨[],rfl,fun i u h=>by simp at h⟩
 | n+1,h=>by
  obtain⟨us,hl,hu⟩:=Mm n (fun i hi=>h i (by omega));obtain⟨u,hq⟩:=h n (by omega);refine⟨us++[u],by simp[hl],fun i x hx=>?_⟩
  by_cases hi:i<us.length
  ·rw[List.getElem?_append_left hi] at hx;exact hu i x hx
  ·rw[List.getElem?_append_right (by omega)] at hx
   have:i=n:=by
    have:=(List.getElem?_eq_some_iff.1 hx).1;simp at this;omega
   subst this;rw[<- hl,Nat.sub_self] at hx;simp at hx;subst hx;exact hq
theorem open_nest {H:Type}{enc:TypeId×Value->H}{w:World}{base:Nat}{held:Bool}{t e ee:TypeId}{k:IntKind}{fuel:Nat}{cs:List Value}{x:DataW H×List MemPlace}
  (ht:P.underlying t=some (.slice e)) (he:P.underlying e=some (.slice ee)) (Gc:P.underlying ee=some (.int k)) (hc:P.cellsOf e=1) (r6:P.cellsOf ee=1)
  (h:DataW.trod enc P w base (fun _=>true) held fuel t cs=some x):∃ a len cap us,cs=[.slice a len cap]/\IsNest k w a len cap us:=by
 rcases DataW.trod_slice ht h with⟨h0,_⟩ | ⟨a,len,cap,elems,rest,n,_,hcs,_,hb,hl,hm,hlen,Bo,_,_⟩
 ·exact⟨none,0,0,[],h0,.inl ⟨rfl,rfl,rfl,rfl⟩⟩
 obtain⟨us,ul,hu⟩:=Mm (α:=Sl×List Int) (Q:=fun i u=>w.cell? (a.add i)=some (.slice u.1.1 u.1.2.1 u.1.2.2)/\IsInts k w u.1.1 u.1.2.1 u.1.2.2 u.2) len fun i hi=>by
  have gJ:=Bo i hi;rw[List.getElem?_eq_getElem (by omega),hc,Nat.mul_one,Option.bind_eq_some_iff] at gJ;obtain⟨jS,Mn,UB⟩:=gJ
  rcases open_ints he Gc r6 UB with⟨rfl,_⟩ | ⟨y,l,c,zs,rfl,_,vh,UC,Gd,_,hcell,hwz⟩
  ·exact⟨((none,0,0),[]),cell_of_cells?_one Mn,.inl ⟨rfl,rfl,rfl,rfl⟩⟩
  ·exact⟨((some y,l,c),zs),cell_of_cells?_one Mn,.inr ⟨y,rfl,vh,UC,by simpa using Gd,hcell,hwz⟩⟩
 exact⟨some a,len,cap,us,hcs,.inr ⟨a,rfl,hl,hm,ul,hu⟩⟩
theorem add_add (a:Addr)(m n:Nat):(a.add m).add n=a.add (m+n):=by
 unfold Addr.add
 by_cases hm:m=0
 ·subst hm;simp
 ·by_cases hn:n=0
  ·subst hn;simp[hm]
  ·simp[hm,hn,Nat.add_assoc]
theorem xv {w:World}{a:Addr}{m:Nat}:∀ (vs:List Value) (i:Nat),jA w a (m+i) vs->jA w (a.add m) i vs
 | [],_,_=>trivial
 | v::vs,i,⟨h1,h2⟩=>⟨by rw[add_add];exact h1,xv vs (i+1) h2⟩
theorem zM {w:World}{a:Addr}:∀ (m:Nat) (vs:List Value) (i:Nat),jA w a i vs->jA w a (i+m) (vs.drop m)
 | 0,vs,i,h=>h
 | m+1,[],i,_=>trivial
 | m+1,v::vs,i,⟨_,h2⟩=>by
  have:=zM m vs (i+1) h2;rw[show i+1+m=i+(m+1) by omega] at this;exact this
theorem dr.jM {w:World}{v:Sl}{xs:List Value}(h:dr w 1 v xs){lo hi:Int}(h0:0<=lo)(h1:lo<=hi)(h2:hi<=v.2.1)(hc:v.2.1<=v.2.2){K:Option Addr->Nat->Nat->Prop}
  (k:∀ u:Sl,dr w 1 u ((xs.drop lo.toNat).take (hi - lo).toNat)->u.2.1<=u.2.2->u.2.1=(hi - lo).toNat->(∀ k,aw u k->aw v k)->K u.1 u.2.1 u.2.2):eX v.1 v.2.2 lo hi v.2.2 1 K:=by
 refine⟨h0,h1,by omega,by omega,?_⟩;obtain⟨a,b,c⟩:=h;obtain⟨B,hB⟩:∃ B:Option Addr,(if(v.2.2:Int)=lo then v.1 else v.1.map (·.add (lo.toNat * 1)))=B:=⟨_,rfl⟩;obtain⟨n,hn⟩:∃ n:Nat,(hi - lo).toNat=n:=⟨_,rfl⟩;obtain⟨m,hm⟩:∃ m:Nat,((v.2.2:Int) - lo).toNat=m:=⟨_,rfl⟩;rw[hn] at k;rw[hB,hn,hm];refine k (B,n,m) ⟨?_,fun hN=>?_,fun y hy=>?_⟩ (by dsimp only;omega) rfl ?_
 ·dsimp only
  simp only[List.length_take,List.length_drop];omega
 ·dsimp only at hN ⊢
  have hv:v.1=none:=by
   rw[hN] at hB;split at hB
   ·exact hB
   ·cases hv:v.1 with
    | none=>rfl
    | some x=>rw[hv] at hB;cases hB
  obtain⟨e1,e2,e3⟩:=b hv;subst e3;exact⟨by omega,by omega,by simp⟩
 ·dsimp only at hy
  rw[hy] at hB;split at hB
  ·rename_i he
   have:n=0:=by omega
   rw[this,List.take_zero];exact trivial
  ·cases hv:v.1 with
   | none=>rw[hv] at hB;cases hB
   | some x=>
    rw[hv] at hB;injection hB with hB
    subst hB;rw[Nat.mul_one];refine wD _ _ _ (xv _ 0 ?_);have:=zM lo.toNat xs 0 (c x hv);rw[Nat.zero_add] at this;exact this
 ·rintro j ⟨y,hy,hj⟩
  dsimp only at hy;rw[hy] at hB;split at hB
  ·exact⟨y,hB,hj⟩
  ·cases hv:v.1 with
   | none=>rw[hv] at hB;cases hB
   | some x=>
    rw[hv] at hB;injection hB with hB
    refine⟨x,hv,?_⟩;rw[hj,<- hB];unfold Addr.add;split<;>rfl
def nr (w:World):(Nat->Bool)->World->Prop:=fun _ w'=>Fr none1 w w'
theorem oE.nr {w:World}{body:((Nat->Bool)->World->Prop)->Prop}(h:body (Vc.nr w)):oE w body:=⟨Vc.nr w,⟨rfl,rfl,rfl,Nat.le_refl _,fun _ _ _=>rfl⟩,h⟩
theorem fZ.nr {w:World}{i:Nat}{pr:List Nat}{k:Rk}{op:World->(Value->World->Prop)->Prop}{next:k.C->Prop}(x:k.C)
  (h:∀ w1,Fr none1 w w1->op w1 fun v w'=>v=k.val x/\Vc.nr w (fun _=>true) w') (hn:next x):fZ (Vc.nr w) i pr k op next:=
 ⟨x,fun _ w1 _ _ hC=>h w1 hC,hn⟩
end Vc
namespace Vc
variable {P:Program}
theorem Mo (off:Nat):∀ (l:List Value) (j:Nat) (cur:Array Value),off+j+l.length<=cur.size ->
  ((l.zipIdx j).foldl (fun(cs:Array Value) (x:Value×Nat)=>cs.setIfInBounds (off+x.2) x.1) cur).toList=cur.toList.take (off+j)++l++cur.toList.drop (off+j+l.length)
 | [],j,cur,_=>by simp
 | c::l,j,cur,h=>by
  simp only[List.length_cons] at h;rw[List.zipIdx_cons,List.foldl_cons,Mo off l (j+1) _ (by simp;omega)];rw[Array.toList_setIfInBounds];have aS:off+j<cur.toList.length:=by simp;omega
  rw[show off+(j+1)=off+j+1 by omega,List.take_succ_eq_append_getElem (by rw[List.length_set];exact aS),List.take_set_of_le (Nat.le_refl _),List.getElem_set_self,List.drop_set_of_lt (by omega)];simp only[List.append_assoc,List.cons_append,List.nil_append,List.length_cons]
  congr 4
  omega
theorem Mp (s n:Nat):∀ (vs:List (List Value)) (k:Nat) (cur:Array Value),(∀ l∈vs,l.length=s)->k+vs.length=n->cur.size=n * s ->
  ∃ out,Instr.fill (fun i=>some (i * s,s)) cur ((vs.zipIdx k).map fun(l,i)=>(i,.agg l.toArray))=some out/\out.toList=cur.toList.take (k * s)++vs.flatten
 | [],k,cur,_,U,hc=>by
  simp only[List.length_nil,Nat.add_zero] at U;subst U;exact⟨cur,rfl,by rw[List.take_of_length_le (by simp[hc])];simp⟩
 | l::vs,k,cur,hl,U,hc=>by
  simp only[List.length_cons] at U;have UD:=hl l (by simp);have hb:k * s+s<=n * s:=by rw[<- Nat.succ_mul];exact Nat.mul_le_mul_right _ (by omega)
  have Mq:(l.toArray.zipIdx.foldl (fun cs (x:Value×Nat)=>cs.setIfInBounds (k * s+x.2) x.1) cur).toList=cur.toList.take (k * s)++l++cur.toList.drop (k * s+l.length):=by
   rw[<- Array.foldl_toList,Array.toList_zipIdx];have:=Mo (k * s) l 0 cur (by omega);simpa using this
  have hsz:(l.toArray.zipIdx.foldl (fun cs (x:Value×Nat)=>cs.setIfInBounds (k * s+x.2) x.1) cur).size=n * s:=by
   rw[<- Array.length_toList,Mq];simp only[List.length_append,List.length_take,List.length_drop,Array.length_toList];omega
  obtain⟨out,ho,zN⟩:=Mp s n vs (k+1) _ (fun x hx=>hl x (by simp[hx])) (by omega) hsz;refine⟨out,?_,?_⟩
  ·have oa:(Value.agg l.toArray).cells.size=s:=by show l.toArray.size=s;simp[UD]
   simp only[List.zipIdx_cons,List.map_cons,Instr.fill];rw[if_neg (by simp[oa];omega)];exact ho
  ·have hlen:(cur.toList.take (k * s)++l).length=(k+1) * s:=by
    rw[List.length_append,List.length_take,Array.length_toList,Nat.succ_mul];omega
   rw[zN,Mq,List.take_left' hlen,List.flatten_cons,List.append_assoc]
theorem Mr {w:World}{t E s bytes:Nat}{z:Value}(he:il P t E s z bytes)(vs:List (List Value))(hl:∀ l∈vs,l.length=s)(hn:vs.length * s<=2 ^ 24):
  ∃ (v:Sl) (w':World),(Instr.buildSlice t vs.length ((vs.zipIdx.map fun(l,i)=>(i,Value.agg l.toArray)).toArray)).run P w=.ok (.slice v.1 v.2.1 v.2.2) w'/\aF w' E s v vs.flatten/\v.2.1=vs.length/\Fr none1 w w'/\(∀ k,aw v k->w.heap.size<=k):=by
 obtain⟨out,ho,zN⟩:=Mp s vs.length vs 0 ((Array.range (vs.length * s)).map (z.cells[· % z.cells.size]!)) hl (by simp) (by simp);rw[Nat.zero_mul,List.take_zero,List.nil_append] at zN;have jI:∀ vs:List (List Value),(∀ l∈vs,l.length=s)->vs.flatten.length=vs.length * s:=by
  intro vs
  induction vs with
  | nil=>intro _;simp
  | cons l vs ih=>
   intro h;rw[List.flatten_cons,List.length_append,h l (by simp),ih (fun x hx=>h x (by simp[hx])),List.length_cons,Nat.succ_mul];omega
 obtain⟨v,w',a,b,c⟩:=En (w:=w) he vs.length ((vs.zipIdx.map fun(l,i)=>(i,Value.agg l.toArray)).toArray) out hn (by simpa using ho) (by rw[<- Array.length_toList,zN,jI vs hl]);rw[zN] at b;exact⟨v,w',a,b,c⟩
theorem Ge {α:Type}{s:Nat}:∀ (vs:List (List α)) (i:Nat),(∀ l∈vs,l.length=s)->vs.flatten.drop (i * s)=(vs.drop i).flatten
 | vs,0,_=>by simp
 | [],i+1,_=>by simp
 | l::vs,i+1,h=>by
  rw[List.flatten_cons,List.drop_succ_cons,Nat.succ_mul,Nat.add_comm,<- h l (by simp),<- List.drop_drop,List.drop_left,h l (by simp),Ge vs i fun x hx=>h x (by simp[hx])]
theorem dr.q8 {w:World}{v:Sl}{vs:List (List Value)}{s:Nat}(h:dr w s v vs.flatten)(hs:∀ l∈vs,l.length=s){cks:List Ck}{x:Cs cks}{i:Nat}(hx:vs[i]? = some (Cs.vals cks x))(hi:i<v.2.1){K:Cs cks->Prop}(k:K x){p:Addr}(hp:v.1=some p):
  aq cks (p.add (i * s)) w K:=by
 obtain⟨h1,h2,h3⟩:=h;have hc:=zM (i * s) _ 0 (h3 p hp);rw[Nat.zero_add,Ge vs i hs] at hc;refine⟨x,?_,k⟩;have hlen:=hs _ (List.mem_of_getElem? hx);have hd:vs.drop i=Cs.vals cks x::vs.drop (i+1):=by
  obtain⟨aS,he⟩:=List.getElem?_eq_some_iff.1 hx;rw[List.drop_eq_getElem_cons aS,he]
 rw[hd,List.flatten_cons] at hc;have ht:=wD _ _ s (xv (m:=i * s) _ 0 hc);rw[<- hlen,List.take_left] at ht;rw[hlen] at ht;exact ht
end Vc
inductive Tr where
 | mk (kind:Int) (s:List UInt8) (n:Int) (ks:List Tr)
abbrev TV:=Int×ByteArray×Int×(Option Addr×Nat×Nat)×Unit
def Ms (v:TV):List Value:=[.int .i64 v.1,.string v.2.1,.int .i64 v.2.2.1,.slice v.2.2.2.1.1 v.2.2.2.1.2.1 v.2.2.2.1.2.2]
mutual
def lv (w:World)(S:Nat->Prop):Tr->TV->Prop
 | .mk k s n ks,v=>v.1=k/\v.2.1=str s/\v.2.2.1=n/\∃ vs:List TV,dr w 4 v.2.2.2.1 (vs.map Ms).flatten/\vs.length=v.2.2.2.1.2.1/\(∀ b,aw v.2.2.2.1 b->S b)/\kA w S ks vs
def kA (w:World)(S:Nat->Prop):List Tr->List TV->Prop
 | [],vs=>vs=[]
 | t::ts,vs=>∃ v tF,vs=v::tF/\lv w S t v/\kA w S ts tF
end
mutual
theorem lv.ag {w w':World}{S T:Nat->Prop}(f:Fr T w w')(hn:∀ k,S k->¬ T k):∀ (t:Tr) (v:TV),lv w S t v->lv w' S t v
 | .mk k s n ks,v,h=>by
  unfold lv at h ⊢;obtain⟨a,b,c,vs,d,e,g,h⟩:=h;exact⟨a,b,c,vs,d.ag f (fun k U=>hn k (g k U)),e,g,kA.ag f hn ks vs h⟩
theorem kA.ag {w w':World}{S T:Nat->Prop}(f:Fr T w w')(hn:∀ k,S k->¬ T k):∀ (ts:List Tr) (vs:List TV),kA w S ts vs->kA w' S ts vs
 | [],vs,h=>by unfold kA at h ⊢;exact h
 | t::ts,vs,h=>by
  unfold kA at h ⊢;obtain⟨v,tF,rfl,h1,h2⟩:=h;exact⟨v,tF,rfl,lv.ag f hn t v h1,kA.ag f hn ts tF h2⟩
end
mutual
theorem lv.mono {w:World}{S T:Nat->Prop}(zO:∀ k,S k->T k):∀ (t:Tr) (v:TV),lv w S t v->lv w T t v
 | .mk k s n ks,v,h=>by
  unfold lv at h ⊢;obtain⟨a,b,c,vs,d,e,g,h⟩:=h;exact⟨a,b,c,vs,d,e,fun k U=>zO k (g k U),kA.mono zO ks vs h⟩
theorem kA.mono {w:World}{S T:Nat->Prop}(zO:∀ k,S k->T k):∀ (ts:List Tr) (vs:List TV),kA w S ts vs->kA w T ts vs
 | [],vs,h=>by unfold kA at h ⊢;exact h
 | t::ts,vs,h=>by
  unfold kA at h ⊢;obtain⟨v,tF,rfl,h1,h2⟩:=h;exact⟨v,tF,rfl,lv.mono zO t v h1,kA.mono zO ts tF h2⟩
end
theorem lv.kind {w:World}{S:Nat->Prop}{k:Int}{s:List UInt8}{n:Int}{ks:List Tr}{v:TV}(h:lv w S (.mk k s n ks) v):v.1=k:=by unfold lv at h;exact h.1
def sk:Ob->Tr
 | .none=>.mk 0 [] 0 []
 | .const n=>.mk 11 [] n []
 | .fix s=>.mk 12 s 0 []
 | .add l r=>.mk 13 [] 0 [sk l,sk r]
 | .neg o=>.mk 14 [] 0 [sk o]
 | .mul l r=>.mk 15 [] 0 [sk l,sk r]
 | .max l r=>.mk 16 [] 0 [sk l,sk r]
def q9:Tm->Tr
 | .none=>.mk 0 [] 0 []
 | .zero=>.mk 1 [] 0 []
 | .one s=>.mk 2 s 0 []
 | .gD t=>.mk 3 [] 0 [q9 t]
 | .and l r=>.mk 4 [] 0 [q9 l,q9 r]
 | .or s l r=>.mk 5 s 0 [q9 l,q9 r]
 | .scale o t=>.mk 6 [] 0 [sk o,q9 t]
 | .when d t=>.mk 7 [] d [q9 t]
 | .cond o l r=>.mk 8 [] 0 [sk o,q9 l,q9 r]
def zP:Ob->Prop
 | .none=>True
 | .const _=>True
 | .fix s=>s.length<=1000
 | .add l r | .mul l r | .max l r=>zP l/\zP r
 | .neg o=>zP o
def ra:Tm->Prop
 | .none=>True
 | .zero=>True
 | .one s=>s.length<=1000
 | .gD t=>ra t
 | .and l r=>ra l/\ra r
 | .or s l r=>s.length<=1000/\ra l/\ra r
 | .scale o t=>zP o/\ra t
 | .when _ t=>ra t
 | .cond o l r=>zP o/\ra l/\ra r
def C9 (p0:Int)(p1:Int)(w:World)(K:Value->World->Prop):Prop:=
 aa (decide (p1<1))
 (K (.int .i64 0) w)
 (uh p1 (aa (decide ((Int.tmod p0 p1)<0))
 (K (.int .i64 (IntKind.i64.wrap ((Int.tmod p0 p1)+p1))) w)
 (K (.int .i64 (Int.tmod p0 p1)) w)))
def pl9:aB:=.auto
theorem c9 (p0:Int)(p1:Int)(w:World)(K:Value->World->Prop)(h:C9 p0 p1 w K):Ret Tryz.prog 9 #[.int .i64 p0,.int .i64 p1] w K:=aC (by kernel_rfl) Tryz.func9 (p:=pl9) (Eq.mpr (by kernel_rfl) h)
def within (v n:Int):Int:=if n<1 then 0 else v % n
theorem UE (v n:Int):0<=within v n:=by unfold within;split;omega;exact Int.emod_nonneg _ (by omega)
theorem UF (v:Int){n:Int}(h:1<=n):within v n<n:=by unfold within;rw[if_neg (by omega)];exact Int.emod_lt_of_pos _ (by omega)
theorem UG (v n:Int)(w:World)(hn:n<=9223372036854775807):
  Ret Tryz.prog 9 #[.int .i64 v,.int .i64 n] w fun r w'=>r=.int .i64 (within v n)/\w=w':=by
 refine c9 v n w _ ?_;unfold C9 within;refine aa.dec (fun h=>?_) (fun h=>⟨by omega,?_⟩)
 ·rw[if_pos h];exact⟨rfl,rfl⟩
 ·rw[if_neg h]
  have e:v.tmod n=if 0<=v\/n ∣ v then v % n else v % n - n:=by
   rw[Int.tmod_eq_emod];split<;>omega
  have b0:=Int.emod_nonneg v (show n≠0 by omega);have b1:=Int.emod_lt_of_pos v (show 0<n by omega);refine aa.dec (fun h2=>⟨?_,rfl⟩) (fun h2=>⟨?_,rfl⟩)
  ·split at e
   ·omega
   ·rw[wI (by omega) (by omega)];congr 1;omega
  ·split at e
   ·rw[e]
   ·omega
theorem IsInts.ag {k:IntKind}{w w':World}{v:Sl}{zs:List Int}(h:IsInts k w v.1 v.2.1 v.2.2 zs){S:Nat->Prop}(f:Fr S w w')(hn:∀ b,0<v.2.2->aw v b->¬ S b):IsInts k w' v.1 v.2.1 v.2.2 zs:=by
 rcases h with h | ⟨x,hx,hl,hc,hz,hcell,hw⟩
 ·exact .inl h
 ·exact .inr ⟨x,hx,hl,hc,hz,fun i hi=>f.cell (hcell i hi) (by rw[show(x.add i).block=x.block by unfold Addr.add;split<;>rfl];exact hn _ (by omega) ⟨x,hx,rfl⟩),hw⟩
theorem IsStrs.ag {w w':World}{v:Sl}{zs:List ByteArray}(h:IsStrs w v.1 v.2.1 v.2.2 zs){S:Nat->Prop}(f:Fr S w w')(hn:∀ b,0<v.2.2->aw v b->¬ S b):IsStrs w' v.1 v.2.1 v.2.2 zs:=by
 rcases h with h | ⟨x,hx,hl,hc,hz,hcell,hw⟩
 ·exact .inl h
 ·exact .inr ⟨x,hx,hl,hc,hz,fun i hi=>f.cell (hcell i hi) (by rw[show(x.add i).block=x.block by unfold Addr.add;split<;>rfl];exact hn _ (by omega) ⟨x,hx,rfl⟩),hw⟩
structure Cf (w:World)(m b:Nat)(i:Int):Prop where
 out:∃ (sn sw:Sl) (l lb:Int) (ns:List Int) (ws:List ByteArray),w.heap[b]? = some (.cells #[.slice sn.1 sn.2.1 sn.2.2,.slice sw.1 sw.2.1 sw.2.2,.int .i64 i,.int .i64 l,.int .i64 lb] 253 (0,0)) /\
  IsInts .i64 w sn.1 sn.2.1 sn.2.2 ns/\IsStrs w sw.1 sw.2.1 sw.2.2 ws/\(∀ k,0<sn.2.2->aw sn k->k<m/\k≠b)/\(∀ k,0<sw.2.2->aw sw k->k<m/\k≠b)
 lt:b<m
 le:m<=w.heap.size
structure At (w0:World)(m b:Nat)(i0:Int)(n:Nat)(w:World)(i:Int):Prop where
 UH:Cf w m b i
 lo:i0<=i
 hi:i<=i0+n
 fr:Fr (only b) w0 w
 le:m<=w0.heap.size
theorem Cf.ag {w w':World}{m b:Nat}{i:Int}(h:Cf w m b i){S:Nat->Prop}(f:Fr S w w')(hn:∀ k,k<m->¬ S k):Cf w' m b i:=by
 obtain⟨⟨sn,sw,l,lb,ns,ws,hb,h1,h2,h3,h4⟩,aS,hle⟩:=h;exact⟨⟨sn,sw,l,lb,ns,ws,f.ag hb (hn _ aS),IsInts.ag h1 f fun k hc U=>hn k (h3 k hc U).1,IsStrs.ag h2 f fun k hc U=>hn k (h4 k hc U).1,h3,h4⟩,aS,by have:=f.size;omega⟩
theorem At.ag {w0 w w':World}{m b n:Nat}{i0 i:Int}(h:At w0 m b i0 n w i){S:Nat->Prop}(f:Fr S w w')(hn:∀ k,k<w0.heap.size->¬ S k):At w0 m b i0 n w' i:=
 ⟨h.UH.ag f (fun k U=>hn k (by have:=h.le;omega)),h.lo,h.hi,h.fr.comp f (fun x hx t=>(hn x hx t).elim),h.le⟩
def since (w w':World):Nat->Prop:=fun k=>w.heap.size<=k/\k<w'.heap.size
def TB (w:World)(g:Nat)(v:TV):Prop:=w.heap[g]? = some (.cells (Ms v).toArray 60 (0,0))
theorem TB.ag {w w':World}{g:Nat}{v:TV}(h:TB w g v){S:Nat->Prop}(f:Fr S w w')(hn:¬ S g):TB w' g v:=f.ag h hn
theorem TB.k {w:World}{g:Nat}{v:TV}(h:TB w g v)(x:Int){K:World->Prop}(k:∀ w',TB w' g (x,v.2)->Fr (only g) w w'->K w'):aA ((⟨g,0,none⟩:Addr).add 0) (.int .i64 x) w K:=
 aA.ah h (by show 0+0<4;omega) rfl fun w' hb f _=>k w' hb f
theorem TB.s {w:World}{g:Nat}{v:TV}(h:TB w g v)(x:ByteArray){K:World->Prop}(k:∀ w',TB w' g (v.1,x,v.2.2)->Fr (only g) w w'->K w'):aA ((⟨g,0,none⟩:Addr).add 1) (.string x) w K:=
 aA.ah h (by show 0+1<4;omega) rfl fun w' hb f _=>k w' hb f
theorem TB.n {w:World}{g:Nat}{v:TV}(h:TB w g v)(x:Int){K:World->Prop}(k:∀ w',TB w' g (v.1,v.2.1,x,v.2.2.2)->Fr (only g) w w'->K w'):aA ((⟨g,0,none⟩:Addr).add 2) (.int .i64 x) w K:=
 aA.ah h (by show 0+2<4;omega) rfl fun w' hb f _=>k w' hb f
theorem TB.u {w:World}{g:Nat}{v:TV}(h:TB w g v)(x:Sl){K:World->Prop}(k:∀ w',TB w' g (v.1,v.2.1,v.2.2.1,x,())->Fr (only g) w w'->K w'):aA ((⟨g,0,none⟩:Addr).add 3) (.slice x.1 x.2.1 x.2.2) w K:=
 aA.ah h (by show 0+3<4;omega) rfl fun w' hb f _=>k w' hb f
def xw (w w':World)(ts:List Tr)(vs:List TV):Prop:=kA w' (since w w') ts vs
theorem xw.ag {w w1 w2:World}{t:List Tr}{v:List TV}(h:xw w w1 t v){S:Nat->Prop}(f:Fr S w1 w2)(hn:∀ k,w.heap.size<=k->k<w1.heap.size->¬ S k):xw w w2 t v:=
 kA.mono (fun k U=>⟨U.1,by have:=f.size;have:=U.2;omega⟩) t v (kA.ag f (fun k U=>hn k U.1 U.2) t v h)
structure Cg (w wB wc:World)(m b g1 g2:Nat)(i:Int)(n:Nat)(i':Int)(v:TV):Prop where
 at_:At w m b i n wc i'
 t1:TB wc g1 (0,str [],0,(none,0,0),())
 t2:TB wc g2 v
 UI:w.heap.size<=g1
 Mt:w.heap.size<=g2
 ne:g1≠g2
 UJ:g1<wB.heap.size
 Mu:g2<wB.heap.size
 B:wB.heap.size<=wc.heap.size
theorem Cg.set {w wB wc wd:World}{m b g1 g2 n:Nat}{i i':Int}{v u:TV}(s:Cg w wB wc m b g1 g2 i n i' v)(f:Fr (only g2) wc wd)(t:TB wd g2 u):Cg w wB wd m b g1 g2 i n i' u:=
 ⟨s.at_.ag f (fun k U t=>by have:k=g2:=t;have:=s.Mt;omega),s.t1.ag f (fun t=>s.ne t),t,s.UI,s.Mt,s.ne,s.UJ,s.Mu,Nat.le_trans s.B f.size⟩
theorem xw.set {w wB wc wd:World}{m b g1 g2 n:Nat}{i i':Int}{v:TV}(s:Cg w wB wc m b g1 g2 i n i' v){ts:List Tr}{vs:List TV}(h:xw wB wc ts vs)(f:Fr (only g2) wc wd):xw wB wd ts vs:=
 h.ag f fun k U _ t=>by have:k=g2:=t;have:=s.Mu;omega
namespace Vc
variable {P:Program}
abbrev PlV:=(Option Addr×Nat×Nat)×(Option Addr×Nat×Nat)×Unit
def IsPl (w:World)(p:PlV):Prop:=(∃ ns,IsInts .i64 w p.1.1 p.1.2.1 p.1.2.2 ns)/\∃ ws,IsStrs w p.2.1.1 p.2.1.2.1 p.2.1.2.2 ws
theorem UK {H:Type}{enc:TypeId×Value->H}{w:World}{base:Nat}{held:Bool}{t e:TypeId}{fuel:Nat}{cs:List Value}{x:DataW H×List MemPlace}(ht:P.underlying t=some (.slice e))(he:P.underlying e=some (.int .i64))(hc:P.cellsOf e=1)
  (h:DataW.trod enc P w base (fun _=>true) held fuel t cs=some x):∃ (u:Option Addr×Nat×Nat),cs=[.slice u.1 u.2.1 u.2.2]/\∃ ns,IsInts .i64 w u.1 u.2.1 u.2.2 ns:=by
 rcases Go.ChangeShapes.open_ints ht he hc h with⟨hcs,_⟩ | ⟨a,l,c,zs,hcs,_,hl,hm,hz,_,hcell,hwz⟩
 ·exact⟨(none,0,0),hcs,[],.inl ⟨rfl,rfl,rfl,rfl⟩⟩
 ·exact⟨(some a,l,c),hcs,zs,.inr ⟨a,rfl,hl,hm,by simpa using hz,hcell,hwz⟩⟩
theorem UL {H:Type}{enc:TypeId×Value->H}{w:World}{base:Nat}{held:Bool}{t e:TypeId}{fuel:Nat}{cs:List Value}{x:DataW H×List MemPlace}(ht:P.underlying t=some (.slice e))(he:P.underlying e=some .string)(hc:P.cellsOf e=1)
  (h:DataW.trod enc P w base (fun _=>true) held fuel t cs=some x):∃ (u:Option Addr×Nat×Nat),cs=[.slice u.1 u.2.1 u.2.2]/\∃ ws,IsStrs w u.1 u.2.1 u.2.2 ws:=by
 rcases Go.ChangeShapes.open_strings ht he hc h with⟨hcs,_⟩ | ⟨a,l,c,zs,hcs,_,hl,hm,hz,_,hcell,hwz⟩
 ·exact⟨(none,0,0),hcs,[],.inl ⟨rfl,rfl,rfl,rfl⟩⟩
 ·exact⟨(some a,l,c),hcs,zs,.inr ⟨a,rfl,hl,hm,by simpa using hz,hcell,hwz⟩⟩
theorem open_plan {H:Type}{enc:TypeId×Value->H}{w:World}{base:Nat}{held:Bool}{t t0 t1 e0 e1:TypeId}{f0 f1:Field}{fuel:Nat}{cs:List Value}{x:DataW H×List MemPlace}
  (ht:P.underlying t=some (.struct #[f0,f1])) (UM:f0.type=t0) (wX:f1.type=t1) (Gf:f0.offset=0) (Gg:f1.offset=1) (hc:P.cellsOf t=2) (Gh:P.cellsOf t0=1) (oa:P.cellsOf t1=1)
  (h0:P.underlying t0=some (.slice e0)) (h1:P.underlying t1=some (.slice e1)) (k0:P.underlying e0=some (.int .i64)) (k1:P.underlying e1=some .string) (d0:P.cellsOf e0=1) (d1:P.cellsOf e1=1)
  (h:DataW.trod enc P w base (fun _=>true) held fuel t cs=some x):∃ p:PlV,cs=[.slice p.1.1 p.1.2.1 p.1.2.2,.slice p.2.1.1 p.2.1.2.1 p.2.1.2.2]/\IsPl w p:=by
 obtain⟨y0,y1,n,_,hlen,g0,g1⟩:=Go.ChangeShapes.trod_struct2 ht h;rw[UM,Gf,Gh] at g0;rw[wX,Gg,oa] at g1;obtain⟨u,hu,hi⟩:=UK h0 k0 d0 g0;obtain⟨v,hv,hs⟩:=UL h1 k1 d1 g1;rw[hc] at hlen
 match cs,hlen with
 | [a,b],_=>
  simp only[List.drop_zero,List.drop_succ_cons,List.take_succ_cons,List.take_zero,List.cons.injEq,and_true] at hu hv;exact⟨(u,v,()),by rw[hu,hv],hi,hs⟩
end Vc
abbrev qc:=Int×ByteArray×ByteArray×ByteArray×ByteArray×Int×Int×Int×ByteArray×Int×(Option Addr×Nat×Nat)×Unit
def Ch (e:dT)(v:TV):qc:=(e.1,e.2.1,e.2.2.1,e.2.2.2.1,e.2.2.2.2.1,e.2.2.2.2.2.1,e.2.2.2.2.2.2.1,v.1,v.2.1,v.2.2.1,v.2.2.2.1,())
def vi (x:qc):List Value:=[.int .i64 x.1,.string x.2.1,.string x.2.2.1,.string x.2.2.2.1,.string x.2.2.2.2.1,.int .i64 x.2.2.2.2.2.1,.int .i64 x.2.2.2.2.2.2.1,.int .i64 x.2.2.2.2.2.2.2.1,.string x.2.2.2.2.2.2.2.2.1,.int .i64 x.2.2.2.2.2.2.2.2.2.1,.slice x.2.2.2.2.2.2.2.2.2.2.1.1 x.2.2.2.2.2.2.2.2.2.2.1.2.1 x.2.2.2.2.2.2.2.2.2.2.1.2.2]
def Mv (x:qc):Value:=.agg #[.int .i64 x.1,.string x.2.1,.string x.2.2.1,.string x.2.2.2.1,.string x.2.2.2.2.1,.int .i64 x.2.2.2.2.2.1,.int .i64 x.2.2.2.2.2.2.1,.int .i64 x.2.2.2.2.2.2.2.1,.string x.2.2.2.2.2.2.2.2.1,.int .i64 x.2.2.2.2.2.2.2.2.2.1,.slice x.2.2.2.2.2.2.2.2.2.2.1.1 x.2.2.2.2.2.2.2.2.2.2.1.2.1 x.2.2.2.2.2.2.2.2.2.2.1.2.2]
abbrev EK:List Ck:=[.int .i64,.str,.str,.str,.str,.int .i64,.int .i64,.raw]
abbrev Ci:List Ck:=[.int .i64,.str,.str,.str,.str,.int .i64,.int .i64,.int .i64,.str,.int .i64,.aj]
def gz (e:dT):List Value:=[.int .i64 e.1,.string e.2.1,.string e.2.2.1,.string e.2.2.2.1,.string e.2.2.2.2.1,.int .i64 e.2.2.2.2.2.1,.int .i64 e.2.2.2.2.2.2.1,e.2.2.2.2.2.2.2.1]
theorem Gi {e:dT}(h:bI e.2.2.2.2.2.2.2.1=true):(gz e).all bI=true:=by
 show(bI (.int .i64 _)&&(bI (.string _)&&(bI (.string _)&&(bI (.string _)&&(bI (.string _)&&(bI (.int .i64 _)&&(bI (.int .i64 _)&&(bI e.2.2.2.2.2.2.2.1&&true))))))))=true;rw[h];rfl
def C305 (p0:Addr)(w:World)(K:Value->World->Prop):Prop:=
 ae .aj (p0.add 0) w (fun(x1:an)=>aa (decide ((x1.2.1:Int) > 0))
 (ae .aj (p0.add 0) w (fun(x2:an)=>bK x2.1 x2.2.1 0 2 (fun a3=>ae (.int .i64) (a3.add 1) w (fun(x4:Int)=>K (.int .i64 x4) w))))
 (ae (.int .i64) (p0.add 1) w (fun(x5:Int)=>K (.int .i64 x5) w)))
def pl305:aB:=.auto
theorem c305 (p0:Addr)(w:World)(K:Value->World->Prop)(h:C305 p0 w K):Ret Tryz.prog 305 #[.pointer (some p0)] w K:=aC (by kernel_rfl) Tryz.func305 (p:=pl305) (Eq.mpr (by kernel_rfl) h)
def C281 (p0:Addr)(p1:Int)(w:World)(K:Value->World->Prop):Prop:=
 ae (.int .i64) (p0.add 3) w (fun(x1:Int)=>aa (x1==0)
 (ab Tryz.prog 305 #[.pointer (some p0)] w (.v (.one (.int .i64))) (fun(x2:Int) w3=>aA (p0.add 3) (.int .i64 p1) w3 (fun w4=>aA (p0.add 2) (.int .i64 x2) w4 (fun w5=>K (.tuple #[]) w5))))
 (K (.tuple #[]) w))
def pl281:aB:=.auto
theorem c281 (p0:Addr)(p1:Int)(w:World)(K:Value->World->Prop)(h:C281 p0 p1 w K):Ret Tryz.prog 281 #[.pointer (some p0),.int .i64 p1] w K:=aC (by kernel_rfl) Tryz.func281 (p:=pl281) (Eq.mpr (by kernel_rfl) h)
def C273 (p0:Addr)(p1:Value)(w:World)(K:Value->World->Prop):Prop:=
 cq (Bool×Unit) (fun J1=>ae (.int .i64) (p0.add 3) w (fun(x4:Int)=>aa (x4==0)
 (ae .aj (p0.add 0) w (fun(x5:an)=>aa ((x5.2.1:Int)==0)
 (J1 (true,()) w)
 (ae .aj (p0.add 0) w (fun(x6:an)=>bK x6.1 x6.2.1 0 2 (fun a7=>ae .str (a7.add 0) w (fun(x8:ByteArray)=>kI Tryz.prog p1 [.string x8] (.v (.one .bool)) w (fun(x9:Bool) aG=>J1 ((!x9),()) aG)))))))
 (J1 (false,()) w)))
 (fun _ s2 w3=>aa s2.1
 (ab Tryz.prog 281 #[.pointer (some p0),.int .i64 2] w3 (.aN []) (fun(ba:Unit) aM=>ae (.int .i64) (p0.add 3) aM (fun(bD:Int)=>aa (bD != 0)
 (K (.string (⟨#[]⟩:ByteArray)) aM)
 (ae .aj (p0.add 0) aM (fun(bd:an)=>bK bd.1 bd.2.1 0 2 (fun uO=>ae .str (uO.add 0) aM (fun(aQ:ByteArray)=>ae .aj (p0.add 0) aM (fun(aX:an)=>eX aX.1 aX.2.2 1 aX.2.1 aX.2.2 2 (fun va Gj c20=>aA (p0.add 0) (.slice va Gj c20) aM (fun bB=>K (.string aQ) bB))))))))))
 (ae (.int .i64) (p0.add 3) w3 (fun(bR:Int)=>aa (bR != 0)
 (K (.string (⟨#[]⟩:ByteArray)) w3)
 (ae .aj (p0.add 0) w3 (fun(cr:an)=>bK cr.1 cr.2.1 0 2 (fun a24=>ae .str (a24.add 0) w3 (fun(bC:ByteArray)=>ae .aj (p0.add 0) w3 (fun(cZ:an)=>eX cZ.1 cZ.2.2 1 cZ.2.1 cZ.2.2 2 (fun zQ zR c29=>aA (p0.add 0) (.slice zQ zR c29) w3 (fun bO=>K (.string bC) bO))))))))))
def pl273:aB:=(.seq .auto (.seq (.join [(30,.one .bool)] .auto .auto) .auto))
theorem c273 (p0:Addr)(p1:Value)(w:World)(K:Value->World->Prop)(h:C273 p0 p1 w K):Ret Tryz.prog 273 #[.pointer (some p0),p1] w K:=aC (by kernel_rfl) Tryz.func273 (p:=pl273) (Eq.mpr (by kernel_rfl) h)
def C275 (p0:Addr)(p1:ByteArray)(w:World)(K:Value->World->Prop):Prop:=
 ak (.cells #[.string p1] 9) w (fun g1 w2=>ab Tryz.prog 273 #[.pointer (some p0),.func (.func 300) #[] #[.pointer (some (ad g1))]] w2 (.v (.one .str)) (fun(x3:ByteArray) w4=>K (.tuple #[]) w4))
def pl275:aB:=.auto
theorem c275 (p0:Addr)(p1:ByteArray)(w:World)(K:Value->World->Prop)(h:C275 p0 p1 w K):Ret Tryz.prog 275 #[.pointer (some p0),.string p1] w K:=aC (by kernel_rfl) Tryz.func275 (p:=pl275) (Eq.mpr (by kernel_rfl) h)
def C300 (p0:ByteArray)(c0:Addr)(w:World)(K:Value->World->Prop):Prop:=
 ae .str c0 w (fun(x1:ByteArray)=>K (.bool (p0.toList==x1.toList)) w)
def pl300:aB:=.auto
theorem c300 (p0:ByteArray)(c0:Addr)(w:World)(K:Value->World->Prop)(h:C300 p0 c0 w K):Ret Tryz.prog 300 #[.string p0,.pointer (some c0)] w K:=aC (by kernel_rfl) Tryz.func300 (p:=pl300) (Eq.mpr (by kernel_rfl) h)
def C276 (p0:Addr)(w:World)(K:Value->World->Prop):Prop:=
 ab Tryz.prog 273 #[.pointer (some p0),.func (.func 169) #[] #[]] w (.v (.one .str)) (fun(x1:ByteArray) w2=>K (.string x1) w2)
def pl276:aB:=.auto
theorem c276 (p0:Addr)(w:World)(K:Value->World->Prop)(h:C276 p0 w K):Ret Tryz.prog 276 #[.pointer (some p0)] w K:=aC (by kernel_rfl) Tryz.func276 (p:=pl276) (Eq.mpr (by kernel_rfl) h)
def C272 (p0:Addr)(p1:Int)(w:World)(K:Value->World->Prop):Prop:=
 aa (decide (p1 >= 12))
 (ab Tryz.prog 281 #[.pointer (some p0),.int .i64 5] w (.aN []) (fun(x1:Unit) w2=>ae (.int .i64) (p0.add 3) w2 (fun(x3:Int)=>K (.bool (x3 != 0)) w2)))
 (ae (.int .i64) (p0.add 3) w (fun(x4:Int)=>K (.bool (x4 != 0)) w))
def pl272:aB:=.auto
theorem c272 (p0:Addr)(p1:Int)(w:World)(K:Value->World->Prop)(h:C272 p0 p1 w K):Ret Tryz.prog 272 #[.pointer (some p0),.int .i64 p1] w K:=aC (by kernel_rfl) Tryz.func272 (p:=pl272) (Eq.mpr (by kernel_rfl) h)
def C302 (p0:Addr)(p1:Int)(w:World)(K:Value->World->Prop):Prop:=
 ab Tryz.prog 275 #[.pointer (some p0),.string (⟨#[40]⟩:ByteArray)] w (.aN []) (fun(x1:Unit) w2=>ab Tryz.prog 279 #[.pointer (some p0),.int .i64 p1] w2 (.v (.one .raw)) (fun(x3:Value) w4=>ab Tryz.prog 275 #[.pointer (some p0),.string (⟨#[44]⟩:ByteArray)] w4 (.aN []) (fun(x5:Unit) w6=>ab Tryz.prog 279 #[.pointer (some p0),.int .i64 p1] w6 (.v (.one .raw)) (fun(x7:Value) w8=>ab Tryz.prog 275 #[.pointer (some p0),.string (⟨#[41]⟩:ByteArray)] w8 (.aN []) (fun(x9:Unit) aG=>K (.tuple #[x3,x7]) aG)))))
def pl302:aB:=.auto
theorem c302 (p0:Addr)(p1:Int)(w:World)(K:Value->World->Prop)(h:C302 p0 p1 w K):Ret Tryz.prog 302 #[.pointer (some p0),.int .i64 p1] w K:=aC (by kernel_rfl) Tryz.func302 (p:=pl302) (Eq.mpr (by kernel_rfl) h)
def C279 (p0:Addr)(p1:Int)(w:World)(K:Value->World->Prop):Prop:=
 ab Tryz.prog 272 #[.pointer (some p0),.int .i64 p1] w (.v (.one .bool)) (fun(x1:Bool) w2=>aa x1
 (K .nilIface w2)
 (ab Tryz.prog 273 #[.pointer (some p0),.func (.func 301) #[] #[]] w2 (.v (.one .str)) (fun(x3:ByteArray) w4=>aa (x3.toList==(⟨#[]⟩:ByteArray).toList)
 (K .nilIface w4)
 (aa (x3.toList==(⟨#[102,105,120]⟩:ByteArray).toList)
 (ab Tryz.prog 275 #[.pointer (some p0),.string (⟨#[40]⟩:ByteArray)] w4 (.aN []) (fun(x5:Unit) w6=>ab Tryz.prog 276 #[.pointer (some p0)] w6 (.v (.one .str)) (fun(x7:ByteArray) w8=>ak (.cells #[.string (⟨#[]⟩:ByteArray)] 300) w8 (fun g9 aG=>ar (ad g9) [.string x7] aG (fun aO=>ab Tryz.prog 275 #[.pointer (some p0),.string (⟨#[41]⟩:ByteArray)] aO (.aN []) (fun(bt:Unit) aW=>aq [.str] (ad g9) aW (fun(bd:ByteArray×Unit)=>K (.iface 300 (.agg #[.string bd.1])) aW)))))))
 (aa (x3.toList==(⟨#[110,101,103]⟩:ByteArray).toList)
 (ab Tryz.prog 275 #[.pointer (some p0),.string (⟨#[40]⟩:ByteArray)] w4 (.aN []) (fun(bj:Unit) bn=>ab Tryz.prog 279 #[.pointer (some p0),.int .i64 (IntKind.i64.wrap (p1+1))] bn (.v (.one .raw)) (fun(aX:Value) bz=>iV aX (ak (.cells #[.nilIface] 304) bz (fun g19 bo=>ar (ad g19) [aX] bo (fun bB=>ab Tryz.prog 275 #[.pointer (some p0),.string (⟨#[41]⟩:ByteArray)] bB (.aN []) (fun(bR:Unit) cV=>aq [.raw] (ad g19) cV (fun(cj:Value×Unit)=>K (.iface 304 (.agg #[cj.1])) cV))))))))
 (aa (x3.toList==(⟨#[97,100,100]⟩:ByteArray).toList)
 (ab Tryz.prog 302 #[.pointer (some p0),.int .i64 (IntKind.i64.wrap (p1+1))] w4 (.aN [.one .raw,.one .raw]) (fun(bC:Value×Value×Unit) ct=>iV bC.1 (iV bC.2.1 (K (.iface 302 (.agg #[bC.1,bC.2.1])) ct))))
 (aa (x3.toList==(⟨#[109,117,108]⟩:ByteArray).toList)
 (ab Tryz.prog 302 #[.pointer (some p0),.int .i64 (IntKind.i64.wrap (p1+1))] w4 (.aN [.one .raw,.one .raw]) (fun(cz:Value×Value×Unit) bS=>iV cz.1 (iV cz.2.1 (K (.iface 305 (.agg #[cz.1,cz.2.1])) bS))))
 (aa (x3.toList==(⟨#[109,97,120]⟩:ByteArray).toList)
 (ab Tryz.prog 302 #[.pointer (some p0),.int .i64 (IntKind.i64.wrap (p1+1))] w4 (.aN [.one .raw,.one .raw]) (fun(cx:Value×Value×Unit) bO=>iV cx.1 (iV cx.2.1 (K (.iface 306 (.agg #[cx.1,cx.2.1])) bO))))
 (ab Tryz.prog 303 #[.string x3] w4 (.aN [.one (.int .i64),.one .bool]) (fun(bZ:Int×Bool×Unit) cL=>K (.iface 222 (.agg #[.int .i64 bZ.1])) cL))))))))))
def pl279:aB:=.auto
theorem c279 (p0:Addr)(p1:Int)(w:World)(K:Value->World->Prop)(h:C279 p0 p1 w K):Ret Tryz.prog 279 #[.pointer (some p0),.int .i64 p1] w K:=aC (by kernel_rfl) Tryz.func279 (p:=pl279) (Eq.mpr (by kernel_rfl) h)
def C280 (p0:Addr)(w:World)(K:Value->World->Prop):Prop:=
 ab Tryz.prog 273 #[.pointer (some p0),.func (.func 304) #[] #[]] w (.v (.one .str)) (fun(x1:ByteArray) w2=>ab Tryz.prog 303 #[.string x1] w2 (.aN [.one (.int .i64),.one .bool]) (fun(x3:Int×Bool×Unit) w4=>K (.int .i64 x3.1) w4))
def pl280:aB:=.auto
theorem c280 (p0:Addr)(w:World)(K:Value->World->Prop)(h:C280 p0 w K):Ret Tryz.prog 280 #[.pointer (some p0)] w K:=aC (by kernel_rfl) Tryz.func280 (p:=pl280) (Eq.mpr (by kernel_rfl) h)
def C304 (p0:ByteArray)(w:World)(K:Value->World->Prop):Prop:=
 ab Tryz.prog 303 #[.string p0] w (.aN [.one (.int .i64),.one .bool]) (fun(x1:Int×Bool×Unit) w2=>aa x1.2.1
 (aa (decide (x1.1 >= 0))
 (K (.bool (decide (x1.1<=10000))) w2)
 (K (.bool false) w2))
 (K (.bool false) w2))
def pl304:aB:=.auto
theorem c304 (p0:ByteArray)(w:World)(K:Value->World->Prop)(h:C304 p0 w K):Ret Tryz.prog 304 #[.string p0] w K:=aC (by kernel_rfl) Tryz.func304 (p:=pl304) (Eq.mpr (by kernel_rfl) h)
def C278 (p0:Addr)(p1:Int)(w:World)(K:Value->World->Prop):Prop:=
 ab Tryz.prog 256 #[.pointer (some p0),.int .i64 p1] w (.v (.one .raw)) (fun(x1:Value) w2=>ab Tryz.prog 275 #[.pointer (some p0),.string (⟨#[44]⟩:ByteArray)] w2 (.aN []) (fun(x3:Unit) w4=>ab Tryz.prog 256 #[.pointer (some p0),.int .i64 p1] w4 (.v (.one .raw)) (fun(x5:Value) w6=>ab Tryz.prog 275 #[.pointer (some p0),.string (⟨#[41]⟩:ByteArray)] w6 (.aN []) (fun(x7:Unit) w8=>K (.tuple #[x1,x5]) w8))))
def pl278:aB:=.auto
theorem c278 (p0:Addr)(p1:Int)(w:World)(K:Value->World->Prop)(h:C278 p0 p1 w K):Ret Tryz.prog 278 #[.pointer (some p0),.int .i64 p1] w K:=aC (by kernel_rfl) Tryz.func278 (p:=pl278) (Eq.mpr (by kernel_rfl) h)
def C277 (p0:Addr)(p1:Int)(w:World)(K:Value->World->Prop):Prop:=
 ab Tryz.prog 256 #[.pointer (some p0),.int .i64 p1] w (.v (.one .raw)) (fun(x1:Value) w2=>ab Tryz.prog 275 #[.pointer (some p0),.string (⟨#[41]⟩:ByteArray)] w2 (.aN []) (fun(x3:Unit) w4=>K x1 w4))
def pl277:aB:=.auto
theorem c277 (p0:Addr)(p1:Int)(w:World)(K:Value->World->Prop)(h:C277 p0 p1 w K):Ret Tryz.prog 277 #[.pointer (some p0),.int .i64 p1] w K:=aC (by kernel_rfl) Tryz.func277 (p:=pl277) (Eq.mpr (by kernel_rfl) h)
def C256 (p0:Addr)(p1:Int)(w:World)(K:Value->World->Prop):Prop:=
 ab Tryz.prog 272 #[.pointer (some p0),.int .i64 p1] w (.v (.one .bool)) (fun(x1:Bool) w2=>aa x1
 (K .nilIface w2)
 (ab Tryz.prog 273 #[.pointer (some p0),.func (.func 274) #[] #[]] w2 (.v (.one .str)) (fun(x3:ByteArray) w4=>aa (x3.toList==(⟨#[]⟩:ByteArray).toList)
 (K (.iface 235 (.agg #[])) w4)
 (aa (x3.toList==(⟨#[122,101,114,111]⟩:ByteArray).toList)
 (K (.iface 235 (.agg #[])) w4)
 (ab Tryz.prog 275 #[.pointer (some p0),.string (⟨#[40]⟩:ByteArray)] w4 (.aN []) (fun(x5:Unit) w6=>aa (x3.toList==(⟨#[111,110,101]⟩:ByteArray).toList)
 (ab Tryz.prog 276 #[.pointer (some p0)] w6 (.v (.one .str)) (fun(x7:ByteArray) w8=>ak (.cells #[.string (⟨#[]⟩:ByteArray)] 216) w8 (fun g9 aG=>ar (ad g9) [.string x7] aG (fun aO=>ab Tryz.prog 275 #[.pointer (some p0),.string (⟨#[41]⟩:ByteArray)] aO (.aN []) (fun(bt:Unit) aW=>aq [.str] (ad g9) aW (fun(bd:ByteArray×Unit)=>K (.iface 216 (.agg #[.string bd.1])) aW))))))
 (aa (x3.toList==(⟨#[103,105,118,101]⟩:ByteArray).toList)
 (ab Tryz.prog 277 #[.pointer (some p0),.int .i64 (IntKind.i64.wrap (p1+1))] w6 (.v (.one .raw)) (fun(bj:Value) bn=>iV bj (K (.iface 237 (.agg #[bj])) bn)))
 (aa (x3.toList==(⟨#[97,110,100]⟩:ByteArray).toList)
 (ab Tryz.prog 278 #[.pointer (some p0),.int .i64 (IntKind.i64.wrap (p1+1))] w6 (.aN [.one .raw,.one .raw]) (fun(aX:Value×Value×Unit) bz=>iV aX.1 (iV aX.2.1 (K (.iface 239 (.agg #[aX.1,aX.2.1])) bz))))
 (aa (x3.toList==(⟨#[111,114]⟩:ByteArray).toList)
 (ab Tryz.prog 276 #[.pointer (some p0)] w6 (.v (.one .str)) (fun(bu:ByteArray) bo=>ak (.cells #[.string (⟨#[]⟩:ByteArray),.nilIface,.nilIface] 241) bo (fun g21 bN=>ar (ad g21) [.string bu,.nilIface,.nilIface] bN (fun cV=>ab Tryz.prog 275 #[.pointer (some p0),.string (⟨#[44]⟩:ByteArray)] cV (.aN []) (fun(cj:Unit) dk=>ab Tryz.prog 278 #[.pointer (some p0),.int .i64 (IntKind.i64.wrap (p1+1))] dk (.aN [.one .raw,.one .raw]) (fun(cZ:Value×Value×Unit) eJ=>iV cZ.1 (ar ((ad g21).add 1) [cZ.1] eJ (fun bS=>iV cZ.2.1 (ar ((ad g21).add 2) [cZ.2.1] bS (fun et=>aq [.str,.raw,.raw] (ad g21) et (fun(eg:ByteArray×Value×Value×Unit)=>K (.iface 241 (.agg #[.string eg.1,eg.2.1,eg.2.2.1])) et)))))))))))
 (aa (x3.toList==(⟨#[115,99,97,108,101]⟩:ByteArray).toList)
 (ab Tryz.prog 279 #[.pointer (some p0),.int .i64 (IntKind.i64.wrap (p1+1))] w6 (.v (.one .raw)) (fun(bZ:Value) cL=>iV bZ (ak (.cells #[.nilIface,.nilIface] 245) cL (fun Gk gh=>ar (ad Gk) [bZ,.nilIface] gh (fun dX=>ab Tryz.prog 275 #[.pointer (some p0),.string (⟨#[44]⟩:ByteArray)] dX (.aN []) (fun(eF:Unit) dG=>ab Tryz.prog 277 #[.pointer (some p0),.int .i64 (IntKind.i64.wrap (p1+1))] dG (.v (.one .raw)) (fun(dF:Value) eh=>iV dF (ar ((ad Gk).add 1) [dF] eh (fun dD=>aq [.raw,.raw] (ad Gk) dD (fun(ek:Value×Value×Unit)=>K (.iface 245 (.agg #[ek.1,ek.2.1])) dD))))))))))
 (aa (x3.toList==(⟨#[119,104,101,110]⟩:ByteArray).toList)
 (ab Tryz.prog 280 #[.pointer (some p0)] w6 (.v (.one (.int .i64))) (fun(iQ:Int) kq=>ak (.cells #[.int .i64 0,.nilIface] 247) kq (fun wY gK=>ar (ad wY) [.int .i64 iQ,.nilIface] gK (fun iq=>ab Tryz.prog 275 #[.pointer (some p0),.string (⟨#[44]⟩:ByteArray)] iq (.aN []) (fun(dA:Unit) gB=>ab Tryz.prog 277 #[.pointer (some p0),.int .i64 (IntKind.i64.wrap (p1+1))] gB (.v (.one .raw)) (fun(fu:Value) mA=>iV fu (ar ((ad wY).add 1) [fu] mA (fun jZ=>aq [.int .i64,.raw] (ad wY) jZ (fun(mu:Int×Value×Unit)=>K (.iface 247 (.agg #[.int .i64 mu.1,mu.2.1])) jZ)))))))))
 (ab Tryz.prog 279 #[.pointer (some p0),.int .i64 (IntKind.i64.wrap (p1+1))] w6 (.v (.one .raw)) (fun(gq:Value) iu=>iV gq (ak (.cells #[.nilIface,.nilIface,.nilIface] 249) iu (fun Cj rP=>ar (ad Cj) [gq,.nilIface,.nilIface] rP (fun mv=>ab Tryz.prog 275 #[.pointer (some p0),.string (⟨#[44]⟩:ByteArray)] mv (.aN []) (fun(nX:Unit) lL=>ab Tryz.prog 278 #[.pointer (some p0),.int .i64 (IntKind.i64.wrap (p1+1))] lL (.aN [.one .raw,.one .raw]) (fun(nT:Value×Value×Unit) uM=>iV nT.1 (ar ((ad Cj).add 1) [nT.1] uM (fun iP=>iV nT.2.1 (ar ((ad Cj).add 2) [nT.2.1] iP (fun oR=>aq [.raw,.raw,.raw] (ad Cj) oR (fun(u0:Value×Value×Value×Unit)=>K (.iface 249 (.agg #[u0.1,u0.2.1,u0.2.2.1])) oR)))))))))))))))))))))))
def pl256:aB:=.auto
theorem c256 (p0:Addr)(p1:Int)(w:World)(K:Value->World->Prop)(h:C256 p0 p1 w K):Ret Tryz.prog 256 #[.pointer (some p0),.int .i64 p1] w K:=aC (by kernel_rfl) Tryz.func256 (p:=pl256) (Eq.mpr (by kernel_rfl) h)
def C257 (p0:Addr)(w:World)(K:Value->World->Prop):Prop:=
 ae .aj (p0.add 0) w (fun(x1:an)=>aa (decide ((x1.2.1:Int) > 0))
 (ab Tryz.prog 281 #[.pointer (some p0),.int .i64 2] w (.aN []) (fun(x2:Unit) w3=>K (.tuple #[]) w3))
 (K (.tuple #[]) w))
def pl257:aB:=.auto
theorem c257 (p0:Addr)(w:World)(K:Value->World->Prop)(h:C257 p0 w K):Ret Tryz.prog 257 #[.pointer (some p0)] w K:=aC (by kernel_rfl) Tryz.func257 (p:=pl257) (Eq.mpr (by kernel_rfl) h)
def C301 (p0:ByteArray)(w:World)(K:Value->World->Prop):Prop:=
 ab Tryz.prog 303 #[.string p0] w (.aN [.one (.int .i64),.one .bool]) (fun(x1:Int×Bool×Unit) w2=>aa x1.2.1
 (K (.bool true) w2)
 (aa (p0.toList==(⟨#[102,105,120]⟩:ByteArray).toList)
 (K (.bool true) w2)
 (aa (p0.toList==(⟨#[97,100,100]⟩:ByteArray).toList)
 (K (.bool true) w2)
 (aa (p0.toList==(⟨#[110,101,103]⟩:ByteArray).toList)
 (K (.bool true) w2)
 (aa (p0.toList==(⟨#[109,117,108]⟩:ByteArray).toList)
 (K (.bool true) w2)
 (K (.bool (p0.toList==(⟨#[109,97,120]⟩:ByteArray).toList)) w2))))))
def pl301:aB:=.auto
theorem c301 (p0:ByteArray)(w:World)(K:Value->World->Prop)(h:C301 p0 w K):Ret Tryz.prog 301 #[.string p0] w K:=aC (by kernel_rfl) Tryz.func301 (p:=pl301) (Eq.mpr (by kernel_rfl) h)
def C274 (p0:ByteArray)(w:World)(K:Value->World->Prop):Prop:=
 aa (p0.toList==(⟨#[122,101,114,111]⟩:ByteArray).toList)
 (aa (p0.toList==(⟨#[122,101,114,111]⟩:ByteArray).toList)
 (K (.bool true) w)
 (K (.bool false) w))
 (aa (p0.toList==(⟨#[111,110,101]⟩:ByteArray).toList)
 (aa (p0.toList==(⟨#[111,110,101]⟩:ByteArray).toList)
 (K (.bool true) w)
 (K (.bool false) w))
 (aa (p0.toList==(⟨#[103,105,118,101]⟩:ByteArray).toList)
 (aa (p0.toList==(⟨#[103,105,118,101]⟩:ByteArray).toList)
 (K (.bool true) w)
 (K (.bool false) w))
 (aa (p0.toList==(⟨#[97,110,100]⟩:ByteArray).toList)
 (aa (p0.toList==(⟨#[97,110,100]⟩:ByteArray).toList)
 (K (.bool true) w)
 (K (.bool false) w))
 (aa (p0.toList==(⟨#[111,114]⟩:ByteArray).toList)
 (aa (p0.toList==(⟨#[111,114]⟩:ByteArray).toList)
 (K (.bool true) w)
 (K (.bool false) w))
 (aa (p0.toList==(⟨#[115,99,97,108,101]⟩:ByteArray).toList)
 (aa (p0.toList==(⟨#[115,99,97,108,101]⟩:ByteArray).toList)
 (K (.bool true) w)
 (K (.bool false) w))
 (aa (p0.toList==(⟨#[119,104,101,110]⟩:ByteArray).toList)
 (aa (p0.toList==(⟨#[119,104,101,110]⟩:ByteArray).toList)
 (K (.bool true) w)
 (K (.bool false) w))
 (aa (p0.toList==(⟨#[105,102]⟩:ByteArray).toList)
 (K (.bool true) w)
 (K (.bool false) w))))))))
def pl274:aB:=.auto
theorem c274 (p0:ByteArray)(w:World)(K:Value->World->Prop)(h:C274 p0 w K):Ret Tryz.prog 274 #[.string p0] w K:=aC (by kernel_rfl) Tryz.func274 (p:=pl274) (Eq.mpr (by kernel_rfl) h)
def C255 (p0:ByteArray)(w:World)(K:Value->World->Prop):Prop:=
 ab Tryz.prog 270 #[.string p0] w (.v (.one (.int .i64))) (fun(x1:Int) w2=>ak (.cells #[.slice none 0 0,.int .i64 (IntKind.i64.wrap (x1+1)),.int .i64 0,.int .i64 0] 410) w2 (fun g3 w4=>aa (decide ((p0.size:Int) > 1000))
 (aA ((ad g3).add 3) (.int .i64 5) w4 (fun w5=>K (.pointer (some (ad g3))) w5))
 (ab Tryz.prog 271 #[.string p0] w4 (.aN [.one .aj,.one (.int .i64)]) (fun(x6:an×Int×Unit) w7=>aa (decide (x6.2.1 > 0))
 (aA ((ad g3).add 3) (.int .i64 2) w7 (fun w8=>aA ((ad g3).add 2) (.int .i64 x6.2.1) w8 (fun w9=>aA ((ad g3).add 0) (.slice x6.1.1 x6.1.2.1 x6.1.2.2) w9 (fun aG=>K (.pointer (some (ad g3))) aG))))
 (aA ((ad g3).add 0) (.slice x6.1.1 x6.1.2.1 x6.1.2.2) w7 (fun aO=>K (.pointer (some (ad g3))) aO))))))
def pl255:aB:=.auto
theorem c255 (p0:ByteArray)(w:World)(K:Value->World->Prop)(h:C255 p0 w K):Ret Tryz.prog 255 #[.string p0] w K:=aC (by kernel_rfl) Tryz.func255 (p:=pl255) (Eq.mpr (by kernel_rfl) h)
def C230 (p0:ByteArray)(w:World)(K:Value->World->Prop):Prop:=
 ab Tryz.prog 255 #[.string p0] w (.v (.one .ptr)) (fun(x1:Option Addr) w2=>ab Tryz.prog 256 #[.pointer x1,.int .i64 0] w2 (.v (.one .raw)) (fun(x3:Value) w4=>ab Tryz.prog 257 #[.pointer x1] w4 (.aN []) (fun(x5:Unit) w6=>jB x1 (fun a7=>ae (.int .i64) (a7.add 3) w6 (fun(x8:Int)=>aa (x8==0)
 (ab Tryz.prog 170 #[x3] w6 (.v (.one (.int .i64))) (fun(x9:Int) aG=>jB x1 (fun Gl=>aA (Gl.add 3) (.int .i64 x9) aG (fun aM=>jB x1 (fun Gm=>ae (.int .i64) (Gm.add 3) aM (fun(bd:Int)=>aa (bd != 0)
 (aD aM (fun bL=>jB x1 (fun yR=>ae (.int .i64) (yR.add 2) bL (fun(aX:Int)=>jB x1 (fun va=>ae (.int .i64) (va.add 3) bL (fun(bu:Int)=>K (.tuple #[.nilIface,.int .i64 aX,.int .i64 bu]) bL))))))
 (K (.tuple #[x3,.int .i64 0,.int .i64 0]) aM)))))))
 (jB x1 (fun a20=>ae (.int .i64) (a20.add 3) w6 (fun(bT:Int)=>aa (bT != 0)
 (aD w6 (fun bN=>jB x1 (fun a23=>ae (.int .i64) (a23.add 2) bN (fun(cj:Int)=>jB x1 (fun UN=>ae (.int .i64) (UN.add 3) bN (fun(cZ:Int)=>K (.tuple #[.nilIface,.int .i64 cj,.int .i64 cZ]) bN))))))
 (K (.tuple #[x3,.int .i64 0,.int .i64 0]) w6)))))))))
def pl230:aB:=(.seq .auto (.seq .auto (.seq .auto (.seq .auto (.seq .auto (.seq (.seq .auto (.cond (.seq .still .auto) .auto)) .auto))))))
theorem c230 (p0:ByteArray)(w:World)(K:Value->World->Prop)(h:C230 p0 w K):Ret Tryz.prog 230 #[.string p0] w K:=aC (by kernel_rfl) Tryz.func230 (p:=pl230) (Eq.mpr (by kernel_rfl) h)
theorem Cl:∀ (R:List Int) (acc:List dH) (at_:Int) (run:Bool),(eQ acc at_ run R).1.length<=acc.length+1+R.length
 | [],acc,at_,run=>by show acc.length<=_;simp only[List.length_nil];omega
 | r::R,acc,at_,run=>by
  have h1:=Cl R (qX acc (enc r)) (at_+1) true;have h2:=Cl R (acc++[(enc r,at_+1)]) (at_+1) (kd r==97);have h3:=Cl R acc (at_+1) false;have e1:(qX acc (enc r)).length<=acc.length+1:=by unfold qX;simp
  simp only[List.length_append,List.length_cons,List.length_nil] at h2 ⊢;unfold eQ;split
  ·simp
  split
  ·omega
  split
  ·omega
  ·omega
theorem Gn (o:Ob):bA o<=(kx o).length:=by
 induction o<;>simp_all [bA,kx]<;>omega
theorem UO (t:Tm):aJ t<=(jd t).length:=by
 induction t<;>simp_all [aJ,jd]<;>(try have:=Gn)<;>first | omega | (rename_i o _ _;have:=Gn o;omega) | (rename_i o _ _ _ _;have:=Gn o;omega)
theorem UP {x:dH}{l:List dH}(h:x∈l):x.1.length<=ky (l.map Prod.fst):=by
 induction l with
 | nil=>cases h
 | cons y l ih=>
  have e:ky ((y::l).map Prod.fst)=y.1.length+ky (l.map Prod.fst):=by simp[ky]
  rw[e]
  rcases List.mem_cons.1 h with rfl | h
  ·omega
  ·have:=ih h;omega
theorem UQ {bs:List UInt8}(h:bs.length<=1000):∀ x∈(eQ [] 0 false (cJ bs)).1,x.1.length<=10000:=fun x hx=>by
 have h1:=UP hx;have h2:=B6 (cJ bs) [] 0 false;have h3:=R1 (cJ bs);have h4:=EA bs;have h5:ky ((([]:List dH)).map Prod.fst)=0:=rfl;omega
theorem UR (R:List Int):reads R<=R.length:=by unfold reads;exact(List.takeWhile_sublist _).length_le
theorem Mw (s:ByteArray):∀ (fuel pos:Nat),s.size - pos<=fuel->Lib.runeCountFrom s fuel pos=(cJ (s.data.toList.drop pos)).length
 | 0,pos,h=>by
  have:s.data.toList.drop pos=[]:=List.drop_eq_nil_of_le (by rw[yP];omega);rw[this];rfl
 | f+1,pos,h=>by
  unfold Lib.runeCountFrom
  by_cases hp:pos<s.size
  ·rw[if_pos hp]
   have ay:s.data.toList.drop pos≠[]:=fun t=>by
    have:=congrArg List.length t;rw[List.length_drop,yP,List.length_nil] at this;omega
   have hw:=wL (s.data.toList.drop pos);rw[yQ _ ay,Ey,Mw s f _ (by omega),List.length_cons,List.drop_drop];omega
  ·rw[if_neg hp]
   have:s.data.toList.drop pos=[]:=List.drop_eq_nil_of_le (by rw[yP];omega);rw[this];rfl
namespace Vc
theorem ar.one {b i:Nat}{v:Value}{w:World}{K:World->Prop}{cs:Array Value}{T:TypeId}(hb:w.heap[b]? = some (.cells cs T (0,0)))(hi:i<cs.size)(h1:bI v=true)
  (h:∀ w1,w1.heap[b]? = some (.cells (cs.setIfInBounds i v) T (0,0))->Fr (only b) w w1->w1.heap.size=w.heap.size->K w1):ar ((⟨b,0,none⟩:Addr).add i) [v] w K:=by
 have e:((⟨b,0,none⟩:Addr).add i).add 0=⟨b,i,none⟩:=by rw[dP,dP,Nat.zero_add,Nat.add_zero]
 refine⟨⟨h1,by rw[e,pF hb];simp[hi],by rw[e];exact yH hb,trivial⟩,?_⟩;show K (w.setCell (((⟨b,0,none⟩:Addr).add i).add 0) v);rw[e];exact h _ (heap_setCell_same hb) (yG _ _ _ _) (by simp[World.setCell])
end Vc
theorem US (x y:List UInt8):((str x).toList==(str y).toList)=(x==y):=by
 rw[iW]
 by_cases h:x=y<;>simp[h]
theorem aa.str {y z:List UInt8}{A B:Prop}(h:y=z->A)(k:y≠z->B):aa ((str y).toList==(str z).toList) A B:=by
 rw[iW];exact aa.dec h k
def UT (sl:Sl)(fin a e:Int):Obj:=.cells #[.slice sl.1 sl.2.1 sl.2.2,.int .i64 fin,.int .i64 a,.int .i64 e] 410 (0,0)
def dM (w:World)(m b:Nat)(fin:Int)(s:RS):Prop:=∃ sl:Sl,w.heap[b]? = some (UT sl fin s.at_ s.e)/\ni w sl s.l/\(¬ aw sl b/\b<m/\m<=w.heap.size/\∀ k,aw sl k->k<m)/\∀ x∈s.l,x.1.length<=10000
theorem dM.lt {w:World}{m b:Nat}{fin:Int}{s:RS}(h:dM w m b fin s):b<m/\m<=w.heap.size:=by
 obtain⟨sl,hb,_,⟨_,h1,h2,_⟩,_⟩:=h;exact⟨h1,h2⟩
theorem dM.ag {w w':World}{m b:Nat}{fin:Int}{s:RS}(h:dM w m b fin s){S:Nat->Prop}(f:Fr S w w')(hn:∀ k,k<m->¬ S k):dM w' m b fin s:=by
 obtain⟨sl,hb,hs,⟨h1,h2,h3,h4⟩,h5⟩:=h;exact⟨sl,f.ag hb (hn b h2),hs.ag f (fun k U=>hn k (h4 k U)),⟨h1,h2,Nat.le_trans h3 f.size,h4⟩,h5⟩
theorem dM.af {w w':World}{m b:Nat}{fin:Int}{s:RS}(h:dM w m b fin s)(f:Fr none1 w w'):dM w' m b fin s:=h.ag f (fun _ _ t=>t)
theorem UU {w:World}{v:Sl}{x:dH}{l:List dH}(h:ni w v (x::l)){K:Option Addr->Nat->Nat->Prop}(k:∀ u:Sl,ni w u l->(∀ j,aw u j->aw v j)->K u.1 u.2.1 u.2.2):eX v.1 v.2.2 1 (v.2.1:Int) (v.2.2:Int) 2 K:=by
 obtain⟨hs,hl⟩:=h;simp only[List.length_cons] at hl;have e:nh (x::l)=[.string (str x.1),.int .i64 x.2]++nh l:=rfl
 rcases hs with⟨rfl,jF⟩ | ⟨g,off,cs,hv,hb,hle,hc,hn,he⟩
 ·dsimp only at hl;omega
 ·refine⟨by omega,by omega,by omega,by omega,?_⟩
  rw[hv];have hlen:=u9 l;have EP:=u9 (x::l);simp only[List.length_cons] at EP
  by_cases h1:(v.2.2:Int)=1
  ·rw[if_pos h1]
   have:l=[]:=List.eq_nil_of_length_eq_zero (by omega);subst this;refine k (some ⟨g,off,none⟩,((v.2.1:Int) - 1).toNat,((v.2.2:Int) - 1).toNat) ⟨.inr ⟨g,off,cs,rfl,hb,by dsimp only;omega,by dsimp only;omega,?_,fun i hi=>?_⟩,?_⟩ (fun j hj=>?_)
   ·dsimp only;rw[hlen,List.length_nil];omega
   ·rw[hlen,List.length_nil] at hi;omega
   ·dsimp only;rw[List.length_nil];omega
   ·obtain⟨a,ha,rfl⟩:=hj;injection ha with ha;subst ha;exact⟨_,hv,rfl⟩
  ·rw[if_neg h1]
   have ea:(some (⟨g,off,none⟩:Addr)).map (·.add (Int.toNat 1 * 2))=some ⟨g,off+2,none⟩:=by
    show some ((⟨g,off,none⟩:Addr).add (1 * 2))=_;rw[dP]
   rw[ea];refine k (some ⟨g,off+2,none⟩,((v.2.1:Int) - 1).toNat,((v.2.2:Int) - 1).toNat) ⟨.inr ⟨g,off+2,cs,rfl,hb,by dsimp only;omega,by dsimp only;omega,?_,fun i hi=>?_⟩,?_⟩ (fun j hj=>?_)
   ·dsimp only;rw[hlen];omega
   ·rw[hlen] at hi
    have:=he (i+2) (by omega);rw[show off+2+i=off+(i+2) by omega,this,e];rfl
   ·dsimp only;omega
   ·obtain⟨a,ha,rfl⟩:=hj;injection ha with ha;subst ha;exact⟨_,hv,rfl⟩
theorem UW {w:World}{m b:Nat}{fin:Int}{s:RS}(h:dM w m b fin s):Ret Tryz.prog 305 #[.pointer (some ⟨b,0,none⟩)] w fun r w'=>r=.int .i64 (FF fin s)/\w=w':=by
 refine c305 _ w _ ?_;obtain⟨sl,hb,hs,_⟩:=h;have hl:=hs.len;refine ae.ah hb (x:=sl) rfl ?_;unfold FF;cases jK:s.l with
 | nil=>
  rw[jK] at hl;refine aa.no (by rw[hl];decide) (ae.ah hb (x:=fin) rfl ⟨rfl,rfl⟩)
 | cons x l=>
  rw[jK] at hl hs;simp only[List.length_cons] at hl;refine aa.yes (by omega) (ae.ah hb (x:=sl) rfl ?_);exact BV hs (i:=0) (by omega) (by omega) (x:=x) rfl fun a _ k2 _=>k2 _ ⟨rfl,rfl⟩
theorem Gp {w:World}{m b:Nat}{fin:Int}{s:RS}(h:dM w m b fin s)(c:Int):Ret Tryz.prog 281 #[.pointer (some ⟨b,0,none⟩),.int .i64 c] w fun r w'=>r=.tuple #[]/\dM w' m b fin (kQ fin c s)/\Fr (only b) w w':=by
 refine c281 _ c w _ ?_;obtain⟨sl,hb,hs,lj,hsz⟩:=id h;refine ae.ah hb (x:=s.e) rfl ?_;unfold kQ;refine aa.eq (fun he=>?_) (fun he=>?_)
 ·rw[if_pos he]
  refine ab.of (UW h) ?_;rintro _ _ ⟨rfl,rfl⟩;refine⟨_,rfl,?_⟩;refine aA.ah hb (by show 0+3<4;omega) rfl fun w1 au f1 _=>?_;refine aA.ah au (by show 0+2<4;omega) rfl fun w2 aK f2 _=>?_;have f:=f1.trans f2;exact⟨rfl,⟨sl,aK,hs.ag f (fun k U t=>lj.1 (by have:k=b:=t;rw[<- this];exact U)),⟨lj.1,lj.2.1,Nat.le_trans lj.2.2.1 f.size,lj.2.2.2⟩,hsz⟩,f⟩
 ·rw[if_neg he]
  exact⟨rfl,h,Fr.refl _ _⟩
theorem zS {w:World}{m b:Nat}{fin:Int}{s:RS}(h:dM w m b fin s)(v:Value)(right:List UInt8->Bool)
  (hr:∀ x:List UInt8,x.length<=10000->∀ K:Bool->World->Prop,(∀ w1,Fr none1 w w1->K (right x) w1)->kI Tryz.prog v [.string (str x)] (.v (.one .bool)) w K) :
  Ret Tryz.prog 273 #[.pointer (some ⟨b,0,none⟩),v] w fun r w'=>r=.string (str (cn fin right s).1)/\dM w' m b fin (cn fin right s).2/\Fr (only b) w w':=by
 refine c273 _ v w _ ?_;obtain⟨sl,hb,hs,lj,hsz⟩:=id h;have hl:=hs.len
 rcases s with⟨l,a,e⟩
 dsimp only at hb hs hsz hl;refine cq.of (fun c w'=>c.1=(decide (e=0)&&match l with | []=>true | x::_=>!right x.1)/\Fr none1 w w') ?_ ?_
 ·refine ae.ah hb (x:=e) rfl ?_
  refine aa.eq (fun he=>ae.ah hb (x:=sl) rfl ?_) (fun he=>⟨by simp[he],Fr.refl _ _⟩);cases l with
  | nil=>exact aa.t (by rw[hl];rfl) ⟨by simp[he],Fr.refl _ _⟩
  | cons x l=>
   simp only[List.length_cons] at hl;refine aa.f (by rw[hl];exact beq_eq_false_iff_ne.2 (by omega)) (ae.ah hb (x:=sl) rfl ?_);refine BV hs (i:=0) (by omega) (by omega) (x:=x) rfl fun q k1 _ _=>k1 _ ?_;exact hr x.1 (hsz x (by simp)) _ fun w1 f1=>⟨by simp[he],f1⟩
 rintro _ ⟨c,_⟩ w3 ⟨hc,f3⟩;dsimp only at hc ⊢;have h3:=h.af f3;refine aa.by (fun e1=>?_) (fun e1=>?_)
 ·rw[e1] at hc
  have r6:=Bool.and_eq_true_iff.1 hc.symm;have he:e=0:=of_decide_eq_true r6.1;subst he;refine ab.of (Gp h3 2) ?_;rintro _ w4 ⟨rfl,h4,f4⟩;refine⟨(),rfl,?_⟩;have ht:cn fin right ⟨l,a,0⟩=([],kQ fin 2 ⟨l,a,0⟩):=by
   cases l with
   | nil=>exact LM
   | cons x l=>exact LL (by simpa using r6.2)
  rw[ht];obtain⟨sl4,dw,Mx⟩:=id h4;refine ae.ah dw (x:=2) rfl (aa.t rfl ?_);exact⟨rfl,h4,Fr.eL f3 f4⟩
 ·obtain⟨My,aU,o6,Cm,_⟩:=id h3
  refine ae.ah aU (x:=e) rfl ?_;refine aa.ne (fun he=>?_) (fun he=>?_)
  ·rw[LN (s:=⟨l,a,e⟩) he]
   exact⟨rfl,h3,Fr.eL f3 (Fr.refl _ _)⟩
  ·subst he
   rw[e1] at hc;cases l with
   | nil=>simp at hc
   | cons x l=>
    have hx:right x.1=true:=by simpa using hc
    rw[FG hx];have UX:=o6.len;simp only[List.length_cons] at UX;refine ae.ah aU (x:=My) rfl ?_;refine BV o6 (i:=0) (by omega) (by omega) (x:=x) rfl fun q k1 _ _=>k1 _ ?_;refine ae.ah aU (x:=My) rfl ?_;refine UU o6 fun u hu qd=>?_;refine aA.ah aU (by show 0+0<4;omega) rfl fun w4 dw f4 _=>?_;have Mz:¬ aw u b:=fun t=>Cm.1 (qd b t);exact⟨rfl,⟨u,dw,hu.ag f4 (fun k U t=>Mz (by have:k=b:=t;rw[<- this];exact U)),⟨Mz,Cm.2.1,Nat.le_trans Cm.2.2.1 f4.size,fun k U=>Cm.2.2.2 k (qd k U)⟩,fun y hy=>hsz y (by simp[hy])⟩,Fr.eL f3 f4⟩
theorem nt {w:World}{m b:Nat}{fin:Int}{s:RS}(h:dM w m b fin s)(x:List UInt8):Ret Tryz.prog 275 #[.pointer (some ⟨b,0,none⟩),.string (str x)] w fun r w'=>r=.tuple #[]/\dM w' m b fin (dy fin x s)/\Fr (only b) w w':=by
 refine c275 _ (str x) w _ ?_;refine ak.of fun g w1 hg au f1 _=>?_;refine ab.of (zS (h.af f1) _ (fun y=>decide (y=x)) fun y _ K hK=>?_) ?_
 ·have hf:Ret Tryz.prog 300 #[.string (str y),.pointer (some ⟨g,0,none⟩)] w1 fun r w'=>r=.bool (decide (y=x))/\w1=w':=by
   refine c300 (str y) _ w1 _ ?_;refine ae.of au (x:=str x) rfl ?_;rw[iW];exact⟨rfl,rfl⟩
  refine l0 (by kernel_rfl) Tryz.func300 (by kernel_rfl) (hf.mono ?_);rintro _ _ ⟨rfl,rfl⟩;exact⟨_,rfl,hK _ (Fr.refl _ _)⟩
 ·rintro _ w2 ⟨rfl,h2,f2⟩
  exact⟨_,rfl,rfl,h2,Fr.eL f1 f2⟩
theorem Gq {w:World}{m b:Nat}{fin:Int}{s:RS}(h:dM w m b fin s):Ret Tryz.prog 276 #[.pointer (some ⟨b,0,none⟩)] w fun r w'=>r=.string (str (cn fin eZ s).1)/\dM w' m b fin (cn fin eZ s).2/\Fr (only b) w w':=by
 refine c276 _ w _ ?_;refine ab.of (zS h _ eZ fun y _ K hK=>?_) ?_
 ·refine l0 (by kernel_rfl) Tryz.func169 (by kernel_rfl) ((uK y w).mono ?_)
  rintro _ w1 ⟨rfl,f1⟩;exact⟨_,rfl,hK w1 f1⟩
 ·rintro _ w2 ⟨rfl,h2,f2⟩
  exact⟨_,rfl,rfl,h2,f2⟩
theorem UY (y:List UInt8)(hl:y.length<=10000)(w:World):Ret Tryz.prog 301 #[.string (str y)] w fun r w'=>r=.bool (gZ y)/\Fr none1 w w':=by
 refine c301 (str y) w _ ?_;refine ab.of (B3 y (by omega) w) ?_;rintro _ w1 ⟨rfl,f1⟩;refine⟨(_,_,()),rfl,?_⟩;unfold gZ;refine aa.by (fun e=>?_) (fun e=>?_)
 ·have e:(fU y).2=true:=e
  rw[e];exact⟨rfl,f1⟩
 have e:(fU y).2=false:=e;rw[e,Bool.false_or];refine aa.str (z:=[102,105,120]) (fun e=>⟨by rw[e];rfl,f1⟩) (fun e=>?_);rw[beq_eq_false_iff_ne.2 e,Bool.false_or];refine aa.str (z:=[97,100,100]) (fun e=>⟨by rw[e];rfl,f1⟩) (fun e=>?_);rw[beq_eq_false_iff_ne.2 e,Bool.false_or];refine aa.str (z:=[110,101,103]) (fun e=>⟨by rw[e];rfl,f1⟩) (fun e=>?_);rw[beq_eq_false_iff_ne.2 e,Bool.false_or];refine aa.str (z:=[109,117,108]) (fun e=>⟨by rw[e];rfl,f1⟩) (fun e=>?_);rw[beq_eq_false_iff_ne.2 e,Bool.false_or,<- US y [109,97,120]];exact⟨rfl,f1⟩
theorem UZ (y:List UInt8)(w:World):Ret Tryz.prog 274 #[.string (str y)] w fun r w'=>r=.bool (gv y)/\w=w':=by
 refine c274 (str y) w _ ?_;unfold gv;refine aa.str (z:=[122,101,114,111]) (fun e=>aa.str (z:=[122,101,114,111]) (fun _=>⟨by rw[e];rfl,rfl⟩) (fun k=>absurd e k)) (fun e=>?_);rw[beq_eq_false_iff_ne.2 e,Bool.false_or];refine aa.str (z:=[111,110,101]) (fun e=>aa.str (z:=[111,110,101]) (fun _=>⟨by rw[e];rfl,rfl⟩) (fun k=>absurd e k)) (fun e=>?_);rw[beq_eq_false_iff_ne.2 e,Bool.false_or];refine aa.str (z:=[103,105,118,101]) (fun e=>aa.str (z:=[103,105,118,101]) (fun _=>⟨by rw[e];rfl,rfl⟩) (fun k=>absurd e k)) (fun e=>?_);rw[beq_eq_false_iff_ne.2 e,Bool.false_or];refine aa.str (z:=[97,110,100]) (fun e=>aa.str (z:=[97,110,100]) (fun _=>⟨by rw[e];rfl,rfl⟩) (fun k=>absurd e k)) (fun e=>?_);rw[beq_eq_false_iff_ne.2 e,Bool.false_or];refine aa.str (z:=[111,114]) (fun e=>aa.str (z:=[111,114]) (fun _=>⟨by rw[e];rfl,rfl⟩) (fun k=>absurd e k)) (fun e=>?_);rw[beq_eq_false_iff_ne.2 e,Bool.false_or];refine aa.str (z:=[115,99,97,108,101]) (fun e=>aa.str (z:=[115,99,97,108,101]) (fun _=>⟨by rw[e];rfl,rfl⟩) (fun k=>absurd e k)) (fun e=>?_);rw[beq_eq_false_iff_ne.2 e,Bool.false_or];refine aa.str (z:=[119,104,101,110]) (fun e=>aa.str (z:=[119,104,101,110]) (fun _=>⟨by rw[e];rfl,rfl⟩) (fun k=>absurd e k)) (fun e=>?_);rw[beq_eq_false_iff_ne.2 e,Bool.false_or];refine aa.str (z:=[105,102]) (fun e=>⟨by rw[e];rfl,rfl⟩) (fun e=>?_);rw[beq_eq_false_iff_ne.2 e];exact⟨rfl,rfl⟩
theorem U0 (y:List UInt8)(hl:y.length<=10000)(w:World):Ret Tryz.prog 304 #[.string (str y)] w fun r w'=>r=.bool (lN y)/\Fr none1 w w':=by
 refine c304 (str y) w _ ?_;refine ab.of (B3 y (by omega) w) ?_;rintro _ w1 ⟨rfl,f1⟩;refine⟨(_,_,()),rfl,?_⟩;unfold lN;refine aa.by (fun e=>?_) (fun e=>?_)
 ·have e:(fU y).2=true:=e
  rw[e,Bool.true_and];refine aa.dec (fun h=>?_) (fun h=>?_)
  ·have h:0<=(fU y).1:=h
   rw[decide_eq_true h,Bool.true_and];exact⟨rfl,f1⟩
  ·have h:¬ 0<=(fU y).1:=h
   rw[decide_eq_false h];exact⟨rfl,f1⟩
 ·have e:(fU y).2=false:=e
  rw[e];exact⟨rfl,f1⟩
theorem U1 {w:World}{m b:Nat}{fin:Int}{s:RS}(h:dM w m b fin s):Ret Tryz.prog 280 #[.pointer (some ⟨b,0,none⟩)] w fun r w'=>r=.int .i64 (fU (cn fin lN s).1).1/\dM w' m b fin (cn fin lN s).2/\Fr (only b) w w':=by
 refine c280 _ w _ ?_;refine ab.of (zS h _ lN fun y hy K hK=>?_) ?_
 ·refine l0 (by kernel_rfl) Tryz.func304 (by kernel_rfl) ((U0 y hy w).mono ?_)
  rintro _ w1 ⟨rfl,f1⟩;exact⟨_,rfl,hK w1 f1⟩
 ·rintro _ w2 ⟨rfl,h2,f2⟩
  refine⟨_,rfl,?_⟩;have hsz:(cn fin lN s).1.length<=100000:=by
   obtain⟨_,_,_,_,hz⟩:=h;unfold cn;split
   ·split
    ·simp
    ·rename_i x l hl
     split
     ·have:=hz x (by rw[hl];simp);dsimp only;omega
     ·simp
   ·simp
  refine ab.of (B3 _ hsz w2) ?_;rintro _ w3 ⟨rfl,f3⟩;exact⟨(_,_,()),rfl,rfl,h2.af f3,f2.dh f3⟩
theorem U2 {w:World}{m b:Nat}{fin:Int}{s:RS}(h:dM w m b fin s)(right:List UInt8->Bool):(cn fin right s).1.length<=10000:=by
 obtain⟨_,_,_,_,hz⟩:=h;unfold cn;split
 ·split
  ·simp
  ·rename_i x l hl
   split
   ·have:=hz x (by rw[hl];simp);dsimp only;omega
   ·simp
 ·simp
theorem Cn {w:World}{m b:Nat}{fin:Int}{s:RS}(h:dM w m b fin s)(n:Nat)(hn:n<=12):Ret Tryz.prog 272 #[.pointer (some ⟨b,0,none⟩),.int .i64 (12 - (n:Int))] w fun r w'=>
  r=.bool (decide (n=0)||decide (s.e≠0))/\dM w' m b fin (if n=0 then kQ fin 5 s else s)/\Fr (only b) w w':=by
 refine c272 _ _ w _ ?_;refine aa.dec (fun h0=>?_) (fun h0=>?_)
 ·have:n=0:=by omega
  subst this;refine ab.of (Gp h 5) ?_;rintro _ w1 ⟨rfl,h1,f1⟩;refine⟨(),rfl,?_⟩;obtain⟨sl,hb,_⟩:=id h1;refine ae.ah hb (x:=(kQ fin 5 s).e) rfl ?_;refine⟨?_,h1,f1⟩;have:(kQ fin 5 s).e≠0:=by
   unfold kQ;split
   ·show(5:Int)≠0;decide
   ·assumption
  rw[show((kQ fin 5 s).e != 0)=true from by simp[this]];rfl
 ·have MA:n≠0:=by omega
  obtain⟨sl,hb,_⟩:=id h;refine ae.ah hb (x:=s.e) rfl ?_;refine⟨?_,by rw[if_neg MA];exact h,Fr.refl _ _⟩;rw[decide_eq_false MA,Bool.false_or]
  congr 1
  by_cases he:s.e=0<;>simp[he]
theorem Gr {w:World}{m b:Nat}{fin:Int}{s:RS}(h:dM w m b fin s)(x:List UInt8){T:TypeId}{zs:List Value}{cks:List Ck}(c:Cs cks)(hl:zs.length=(Cs.vals cks c).length)(h1:(Cs.vals cks c).all bI=true){K:Cs cks->World->Prop}
  (k:∀ w',dM w' m b fin (dy fin x s)->Fr (only b) w w'->K c w') :
  ak (.cells zs.toArray T) w fun g w1=>ar ⟨g,0,none⟩ (Cs.vals cks c) w1 fun w2=>ab Tryz.prog 275 #[.pointer (some ⟨b,0,none⟩),.string (str x)] w2 (.aN []) fun(_:Unit) w3=>aq cks ⟨g,0,none⟩ w3 fun y=>K y w3:=by
 refine cK hl h1 fun g w4 hg hb f=>?_;have aS:=h.lt;refine ab.of (nt (h.af f) x) ?_;rintro _ w5 ⟨rfl,h5,f5⟩;refine⟨(),rfl,?_⟩;refine aq.aE (f5.ag hb (fun t=>by have:g=b:=t;omega)) ?_;exact k w5 h5 (Fr.eL f f5)
theorem MB (n:Nat)(hn:n+1<=12):IntKind.i64.wrap (12 - ((n+1:Nat):Int)+1)=12 - (n:Int):=by
 rw[wI (by omega) (by omega)];omega
theorem Gs:∀ (n:Nat) (hn:n<=12) {w:World} {m b:Nat} {fin:Int} {s:RS} (h:dM w m b fin s),Ret Tryz.prog 279 #[.pointer (some ⟨b,0,none⟩),.int .i64 (12 - (n:Int))] w fun r w'=>r=(jc fin n s).1.v/\dM w' m b fin (jc fin n s).2/\Fr (only b) w w'
 | 0,hn,w,m,b,fin,s,h=>by
  refine c279 _ _ w _ ?_;refine ab.of (Cn h 0 hn) ?_;rintro _ w1 ⟨rfl,h1,f1⟩;exact⟨_,rfl,aa.t rfl ⟨rfl,h1,f1⟩⟩
 | n+1,hn,w,m,b,fin,s,h=>by
  have ih:=fun{w:World} {s:RS} (h:dM w m b fin s)=>Gs n (by omega) h;refine c279 _ _ w _ ?_;refine ab.of (Cn h (n+1) hn) ?_;rintro _ w1 ⟨rfl,h1,f1⟩;rw[if_neg (by omega)] at h1;refine⟨_,rfl,?_⟩;dsimp only;rw[MB n hn];unfold jc
  by_cases he:s.e=0
  case neg=>
   rw[if_pos he];exact aa.t (by simp[he]) ⟨rfl,h1,f1⟩
  rw[if_neg (by simpa using he)];refine aa.f (by simp[he]) ?_;refine ab.of (zS h1 _ gZ fun y hy K hK=>?_) ?_
  ·refine l0 (by kernel_rfl) Tryz.func301 (by kernel_rfl) ((UY y hy w1).mono ?_)
   rintro _ w2 ⟨rfl,f2⟩;exact⟨_,rfl,hK w2 f2⟩
  rintro _ w2 ⟨rfl,h2,f2⟩;have vj:=U2 h1 gZ;refine⟨_,rfl,?_⟩;generalize(cn fin gZ s).1=x at vj ⊢;generalize(cn fin gZ s).2=s2 at h2 ⊢;have f12:=f1.trans f2;have pair:∀ {K:Value×Value×Unit->World->Prop},(∀ w',dM w' m b fin (hU fin (jc fin n) s2).2.2->Fr (only b) w w'->K ((hU fin (jc fin n) s2).1.v,(hU fin (jc fin n) s2).2.1.v,()) w') ->
    ab Tryz.prog 302 #[.pointer (some ⟨b,0,none⟩),.int .i64 (12 - (n:Int))] w2 (.aN [.one .raw,.one .raw]) K:=fun{K} hK=>by
   have hp:Ret Tryz.prog 302 #[.pointer (some ⟨b,0,none⟩),.int .i64 (12 - (n:Int))] w2 fun r w'=>r=.tuple #[(hU fin (jc fin n) s2).1.v,(hU fin (jc fin n) s2).2.1.v]/\dM w' m b fin (hU fin (jc fin n) s2).2.2/\Fr (only b) w2 w':=by
    refine c302 _ _ w2 _ ?_;refine ab.of (nt h2 [40]) ?_;rintro _ w3 ⟨rfl,h3,f3⟩;refine⟨(),rfl,?_⟩;refine ab.of (ih h3) ?_;rintro _ w4 ⟨rfl,h4,f4⟩;refine⟨_,rfl,?_⟩;refine ab.of (nt h4 [44]) ?_;rintro _ w5 ⟨rfl,h5,f5⟩;refine⟨(),rfl,?_⟩;refine ab.of (ih h5) ?_;rintro _ w6 ⟨rfl,h6,f6⟩;refine⟨_,rfl,?_⟩;refine ab.of (nt h6 [41]) ?_;rintro _ w7 ⟨rfl,h7,f7⟩;exact⟨(),rfl,rfl,h7,(((f3.trans f4).trans f5).trans f6).trans f7⟩
   refine ab.of hp ?_;rintro _ w3 ⟨rfl,h3,f3⟩;exact⟨(_,_,()),rfl,hK w3 h3 (f12.trans f3)⟩
  refine aa.str (z:=[]) (fun e=>?_) (fun e=>?_)
  ·rw[if_pos e];exact⟨rfl,h2,f12⟩
  rw[if_neg e];unfold rY;refine aa.str (z:=[102,105,120]) (fun e=>?_) (fun e=>?_)
  ·rw[if_pos e]
   refine ab.of (nt h2 [40]) ?_;rintro _ w3 ⟨rfl,h3,f3⟩;refine⟨(),rfl,?_⟩;refine ab.of (Gq h3) ?_;rintro _ w4 ⟨rfl,h4,f4⟩;refine⟨_,rfl,?_⟩;exact Gr h4 [41] (zs:=[.string (⟨#[]⟩:ByteArray)]) (cks:=[.str]) (str (cn fin eZ (dy fin [40] s2)).1,()) rfl rfl fun w5 h5 f5=>⟨rfl,h5,((f12.trans f3).trans f4).trans f5⟩
  rw[if_neg e];refine aa.str (z:=[110,101,103]) (fun e=>?_) (fun e=>?_)
  ·rw[if_pos e]
   refine ab.of (nt h2 [40]) ?_;rintro _ w3 ⟨rfl,h3,f3⟩;refine⟨(),rfl,?_⟩;refine ab.of (ih h3) ?_;rintro _ w4 ⟨rfl,h4,f4⟩;refine⟨_,rfl,⟨Ob.fN _,?_⟩⟩;exact Gr h4 [41] (zs:=[.nilIface]) (cks:=[.raw]) ((jc fin n (dy fin [40] s2)).1.v,()) rfl (by simp[Cs.vals,Ck.val,Ob.bU]) fun w5 h5 f5=>⟨rfl,h5,((f12.trans f3).trans f4).trans f5⟩
  rw[if_neg e];refine aa.str (z:=[97,100,100]) (fun e=>?_) (fun e=>?_)
  ·rw[if_pos e]
   exact pair fun w3 h3 f3=>⟨Ob.fN _,⟨Ob.fN _,rfl,h3,f3⟩⟩
  rw[if_neg e];refine aa.str (z:=[109,117,108]) (fun e=>?_) (fun e=>?_)
  ·rw[if_pos e]
   exact pair fun w3 h3 f3=>⟨Ob.fN _,⟨Ob.fN _,rfl,h3,f3⟩⟩
  rw[if_neg e];refine aa.str (z:=[109,97,120]) (fun e=>?_) (fun e=>?_)
  ·rw[if_pos e]
   exact pair fun w3 h3 f3=>⟨Ob.fN _,⟨Ob.fN _,rfl,h3,f3⟩⟩
  rw[if_neg e];refine ab.of (B3 x (by omega) w2) ?_;rintro _ w3 ⟨rfl,f3⟩;exact⟨(_,_,()),rfl,rfl,h2.af f3,f12.dh f3⟩
theorem MC:bI .nilIface=true:=rfl
theorem Gt {n:Nat}(ih:∀ {w:World} {m b:Nat} {fin:Int} {s:RS},dM w m b fin s->Ret Tryz.prog 256 #[.pointer (some ⟨b,0,none⟩),.int .i64 (12 - (n:Int))] w fun r w'=>r=(fD fin n s).1.v/\dM w' m b fin (fD fin n s).2/\Fr (only b) w w')
  {w:World} {m b:Nat} {fin:Int} {s:RS} (h:dM w m b fin s):Ret Tryz.prog 277 #[.pointer (some ⟨b,0,none⟩),.int .i64 (12 - (n:Int))] w fun r w'=>r=(kR fin (fD fin n) s).1.v/\dM w' m b fin (kR fin (fD fin n) s).2/\Fr (only b) w w':=by
 refine c277 _ _ w _ ?_;refine ab.of (ih h) ?_;rintro _ w1 ⟨rfl,h1,f1⟩;refine⟨_,rfl,?_⟩;refine ab.of (nt h1 [41]) ?_;rintro _ w2 ⟨rfl,h2,f2⟩;exact⟨(),rfl,rfl,h2,f1.trans f2⟩
theorem Gu {n:Nat}(ih:∀ {w:World} {m b:Nat} {fin:Int} {s:RS},dM w m b fin s->Ret Tryz.prog 256 #[.pointer (some ⟨b,0,none⟩),.int .i64 (12 - (n:Int))] w fun r w'=>r=(fD fin n s).1.v/\dM w' m b fin (fD fin n s).2/\Fr (only b) w w')
  {w:World} {m b:Nat} {fin:Int} {s:RS} (h:dM w m b fin s):Ret Tryz.prog 278 #[.pointer (some ⟨b,0,none⟩),.int .i64 (12 - (n:Int))] w fun r w'=>
   r=.tuple #[(hZ fin (fD fin n) s).1.v,(hZ fin (fD fin n) s).2.1.v]/\dM w' m b fin (hZ fin (fD fin n) s).2.2/\Fr (only b) w w':=by
 refine c278 _ _ w _ ?_;refine ab.of (ih h) ?_;rintro _ w1 ⟨rfl,h1,f1⟩;refine⟨_,rfl,?_⟩;refine ab.of (nt h1 [44]) ?_;rintro _ w2 ⟨rfl,h2,f2⟩;refine⟨(),rfl,?_⟩;refine ab.of (ih h2) ?_;rintro _ w3 ⟨rfl,h3,f3⟩;refine⟨_,rfl,?_⟩;refine ab.of (nt h3 [41]) ?_;rintro _ w4 ⟨rfl,h4,f4⟩;exact⟨(),rfl,rfl,h4,((f1.trans f2).trans f3).trans f4⟩
theorem MD:∀ (n:Nat) (hn:n<=12) {w:World} {m b:Nat} {fin:Int} {s:RS} (h:dM w m b fin s),Ret Tryz.prog 256 #[.pointer (some ⟨b,0,none⟩),.int .i64 (12 - (n:Int))] w fun r w'=>r=(fD fin n s).1.v/\dM w' m b fin (fD fin n s).2/\Fr (only b) w w'
 | 0,hn,w,m,b,fin,s,h=>by
  refine c256 _ _ w _ ?_;refine ab.of (Cn h 0 hn) ?_;rintro _ w1 ⟨rfl,h1,f1⟩;exact⟨_,rfl,aa.t rfl ⟨rfl,h1,f1⟩⟩
 | n+1,hn,w,m,b,fin,s,h=>by
  have ih:=fun{w:World} {m b:Nat} {fin:Int} {s:RS} (h:dM w m b fin s)=>MD n (by omega) h;refine c256 _ _ w _ ?_;refine ab.of (Cn h (n+1) hn) ?_;rintro _ w1 ⟨rfl,h1,f1⟩;rw[if_neg (by omega)] at h1;refine⟨_,rfl,?_⟩;dsimp only;rw[MB n hn];unfold fD
  by_cases he:s.e=0
  case neg=>
   rw[if_pos he];exact aa.t (by simp[he]) ⟨rfl,h1,f1⟩
  rw[if_neg (by simpa using he)];refine aa.f (by simp[he]) ?_;refine ab.of (zS h1 _ gv fun y hy K hK=>?_) ?_
  ·refine l0 (by kernel_rfl) Tryz.func274 (by kernel_rfl) ((UZ y w1).mono ?_)
   rintro _ _ ⟨rfl,rfl⟩;exact⟨_,rfl,hK w1 (Fr.refl _ _)⟩
  rintro _ w2 ⟨rfl,h2,f2⟩;refine⟨_,rfl,?_⟩;generalize(cn fin gv s).1=x;generalize(cn fin gv s).2=s1 at h2 ⊢;have f12:=f1.trans f2;refine aa.str (z:=[]) (fun e=>?_) (fun e=>?_)
  ·rw[if_pos e];exact⟨rfl,h2,f12⟩
  rw[if_neg e];refine aa.str (z:=[122,101,114,111]) (fun e=>?_) (fun e=>?_)
  ·rw[if_pos e];exact⟨rfl,h2,f12⟩
  rw[if_neg e];refine ab.of (nt h2 [40]) ?_;rintro _ w3 ⟨rfl,h3,f3⟩;refine⟨(),rfl,?_⟩;have f13:=f12.trans f3;generalize dy fin [40] s1=s2 at h3 ⊢;have aS:=h.lt;unfold qY;refine aa.str (z:=[111,110,101]) (fun e=>?_) (fun e=>?_)
  ·rw[if_pos e]
   refine ab.of (Gq h3) ?_;rintro _ w4 ⟨rfl,h4,f4⟩;refine⟨_,rfl,?_⟩;exact Gr h4 [41] (zs:=[.string (⟨#[]⟩:ByteArray)]) (cks:=[.str]) (str (cn fin eZ s2).1,()) rfl rfl fun w5 h5 f5=>⟨rfl,h5,(f13.trans f4).trans f5⟩
  rw[if_neg e];refine aa.str (z:=[103,105,118,101]) (fun e=>?_) (fun e=>?_)
  ·rw[if_pos e]
   refine ab.of (Gt ih h3) ?_;rintro _ w4 ⟨rfl,h4,f4⟩;exact⟨_,rfl,⟨Tm.fN _,rfl,h4,f13.trans f4⟩⟩
  rw[if_neg e];refine aa.str (z:=[97,110,100]) (fun e=>?_) (fun e=>?_)
  ·rw[if_pos e]
   refine ab.of (Gu ih h3) ?_;rintro _ w4 ⟨rfl,h4,f4⟩;exact⟨(_,_,()),rfl,⟨Tm.fN _,⟨Tm.fN _,rfl,h4,f13.trans f4⟩⟩⟩
  rw[if_neg e];refine aa.str (z:=[111,114]) (fun e=>?_) (fun e=>?_)
  ·rw[if_pos e]
   refine ab.of (Gq h3) ?_;rintro _ w4 ⟨rfl,h4,f4⟩;refine⟨_,rfl,?_⟩;generalize(cn fin eZ s2).1=y;generalize(cn fin eZ s2).2=s3 at h4 ⊢;refine cK (zs:=[.string (⟨#[]⟩:ByteArray),.nilIface,.nilIface]) (vs:=[.string (str y),.nilIface,.nilIface]) rfl rfl fun g w5 hg hb f5=>?_;have Gv:m<=g:=by have:=h4.lt;omega
   have jX:g≠b:=by have:=h4.lt;omega
   refine ab.of (nt (h4.af f5) [44]) ?_;rintro _ w6 ⟨rfl,h6,f6⟩;refine⟨(),rfl,?_⟩;refine ab.of (Gu ih h6) ?_;rintro _ w7 ⟨rfl,h7,f7⟩;refine⟨(_,_,()),rfl,⟨Tm.fN _,?_⟩⟩;have gP:=f7.jD (f6.jD hb jX) jX;refine ar.one gP (by show 1<3;omega) (Tm.bU _) fun w8 j2 f8 _=>⟨Tm.fN _,?_⟩;refine ar.one j2 (by show 2<3;omega) (Tm.bU _) fun w9 mB f9 _=>?_;refine aq.aE (x:=(str y,(hZ fin (fD fin n) (dy fin [44] s3)).1.v,(hZ fin (fD fin n) (dy fin [44] s3)).2.1.v,())) mB ?_;have f89:=f8.trans f9;exact⟨rfl,h7.ag f89 (fun k U t=>by have:k=g:=t;omega),(f13.trans f4).trans ((Fr.eL f5 (f6.trans f7)).comp f89 fun x hx t=>by have:x=g:=t;omega)⟩
  rw[if_neg e];refine aa.str (z:=[115,99,97,108,101]) (fun e=>?_) (fun e=>?_)
  ·rw[if_pos e]
   refine ab.of (Gs n (by omega) h3) ?_;rintro _ w4 ⟨rfl,h4,f4⟩;refine⟨_,rfl,⟨Ob.fN _,?_⟩⟩;generalize(jc fin n s2).1=y;generalize(jc fin n s2).2=s3 at h4 ⊢;refine cK (zs:=[.nilIface,.nilIface]) (vs:=[y.v,.nilIface]) rfl (by simp[Ob.bU,MC]) fun g w5 hg hb f5=>?_;have Gv:m<=g:=by have:=h4.lt;omega
   have jX:g≠b:=by have:=h4.lt;omega
   refine ab.of (nt (h4.af f5) [44]) ?_;rintro _ w6 ⟨rfl,h6,f6⟩;refine⟨(),rfl,?_⟩;refine ab.of (Gt ih h6) ?_;rintro _ w7 ⟨rfl,h7,f7⟩;refine⟨_,rfl,⟨Tm.fN _,?_⟩⟩;have gP:=f7.jD (f6.jD hb jX) jX;refine ar.one gP (by show 1<2;omega) (Tm.bU _) fun w8 j2 f8 _=>?_;refine aq.aE (x:=(y.v,(kR fin (fD fin n) (dy fin [44] s3)).1.v,())) j2 ?_;exact⟨rfl,h7.ag f8 (fun k U t=>by have:k=g:=t;omega),(f13.trans f4).trans ((Fr.eL f5 (f6.trans f7)).comp f8 fun x hx t=>by have:x=g:=t;omega)⟩
  rw[if_neg e];refine aa.str (z:=[119,104,101,110]) (fun e=>?_) (fun e=>?_)
  ·rw[if_pos e]
   refine ab.of (U1 h3) ?_;rintro _ w4 ⟨rfl,h4,f4⟩;refine⟨_,rfl,?_⟩;generalize(fU (cn fin lN s2).1).1=y;generalize(cn fin lN s2).2=s3 at h4 ⊢;refine cK (zs:=[.int .i64 0,.nilIface]) (vs:=[.int .i64 y,.nilIface]) rfl rfl fun g w5 hg hb f5=>?_;have Gv:m<=g:=by have:=h4.lt;omega
   have jX:g≠b:=by have:=h4.lt;omega
   refine ab.of (nt (h4.af f5) [44]) ?_;rintro _ w6 ⟨rfl,h6,f6⟩;refine⟨(),rfl,?_⟩;refine ab.of (Gt ih h6) ?_;rintro _ w7 ⟨rfl,h7,f7⟩;refine⟨_,rfl,⟨Tm.fN _,?_⟩⟩;have gP:=f7.jD (f6.jD hb jX) jX;refine ar.one gP (by show 1<2;omega) (Tm.bU _) fun w8 j2 f8 _=>?_;refine aq.aE (x:=(y,(kR fin (fD fin n) (dy fin [44] s3)).1.v,())) j2 ?_;exact⟨rfl,h7.ag f8 (fun k U t=>by have:k=g:=t;omega),(f13.trans f4).trans ((Fr.eL f5 (f6.trans f7)).comp f8 fun x hx t=>by have:x=g:=t;omega)⟩
  rw[if_neg e];refine ab.of (Gs n (by omega) h3) ?_;rintro _ w4 ⟨rfl,h4,f4⟩;refine⟨_,rfl,⟨Ob.fN _,?_⟩⟩;generalize(jc fin n s2).1=y;generalize(jc fin n s2).2=s3 at h4 ⊢;refine cK (zs:=[.nilIface,.nilIface,.nilIface]) (vs:=[y.v,.nilIface,.nilIface]) rfl (by simp[Ob.bU,MC]) fun g w5 hg hb f5=>?_;have Gv:m<=g:=by have:=h4.lt;omega
  have jX:g≠b:=by have:=h4.lt;omega
  refine ab.of (nt (h4.af f5) [44]) ?_;rintro _ w6 ⟨rfl,h6,f6⟩;refine⟨(),rfl,?_⟩;refine ab.of (Gu ih h6) ?_;rintro _ w7 ⟨rfl,h7,f7⟩;refine⟨(_,_,()),rfl,⟨Tm.fN _,?_⟩⟩;have gP:=f7.jD (f6.jD hb jX) jX;refine ar.one gP (by show 1<3;omega) (Tm.bU _) fun w8 j2 f8 _=>⟨Tm.fN _,?_⟩;refine ar.one j2 (by show 2<3;omega) (Tm.bU _) fun w9 mB f9 _=>?_;refine aq.aE (x:=(y.v,(hZ fin (fD fin n) (dy fin [44] s3)).1.v,(hZ fin (fD fin n) (dy fin [44] s3)).2.1.v,())) mB ?_;have f89:=f8.trans f9;exact⟨rfl,h7.ag f89 (fun k U t=>by have:k=g:=t;omega),(f13.trans f4).trans ((Fr.eL f5 (f6.trans f7)).comp f89 fun x hx t=>by have:x=g:=t;omega)⟩
theorem U3 (bs:List UInt8)(hl:bs.length<9223372036854775807)(w:World):Ret Tryz.prog 270 #[.string (str bs)] w fun r w'=>r=.int .i64 ((cJ bs).length:Int)/\Fr none1 w w':=by
 refine(Tryz.utf8_RuneCountInString (str bs) w (by rw[dR];exact hl)).mono ?_;rintro e w' ⟨rfl,pos,rfl⟩;refine⟨_,rfl,?_,mf _ _⟩;unfold Lib.runeCount;rw[Mw _ _ _ (by omega),ke,List.drop_zero]
theorem U4 (bs:List UInt8)(hl:bs.length<=1000000000000)(w:World):Ret Tryz.prog 255 #[.string (str bs)] w fun r w'=>∃ m g:Nat,r=.pointer (some ⟨g,0,none⟩)/\dM w' m g (nj bs) (lO bs)/\Fr none1 w w'/\w.heap.size<=g:=by
 refine c255 (str bs) w _ ?_;refine ab.of (U3 bs (by omega) w) ?_;rintro _ w1 ⟨rfl,f1⟩;refine⟨_,rfl,?_⟩;have zT:=EA bs;have U5:IntKind.i64.wrap (((cJ bs).length:Int)+1)=nj bs:=wI (by omega) (by omega);refine ak.of fun g w2 hg hb f2 gk=>?_;rw[U5] at hb;have vk:w.heap.size<=g:=by have:=f1.size;omega
 unfold lO;rw[dR];refine aa.dec (fun h=>?_) (fun h=>?_)
 ·rw[if_pos (by omega)]
  refine aA.ah hb (by show 0+3<4;omega) rfl fun w3 aU f3 o6=>?_;exact⟨g+1,g,rfl,⟨(none,0,0),aU,Fu _,⟨ko _,by omega,by omega,fun k t=>(ko k t).elim⟩,fun x hx=>by cases hx⟩,f1.trans (f2.fresh f3 (by omega)),vk⟩
 ·rw[if_neg (by omega)]
  refine ab.of (TI bs w2 (by have:=UR (cJ bs);omega)) ?_;rintro _ w3 ⟨sl,rfl,jK,f3,hf⟩;refine⟨((sl.1,sl.2.1,sl.2.2),_,()),rfl,?_⟩;have aU:=f3.af hb;have hz:=UQ (bs:=bs) (by omega);have vl:¬ aw sl g:=fun t=>by have:=hf g t;omega
  have ME:∀ k,aw sl k->k<w3.heap.size:=fun k U=>jK.sl.lt U;refine aa.dec (fun hp=>?_) (fun hp=>?_)
  ·rw[if_pos (show 0<(eQ [] 0 false (cJ bs)).2 from hp)]
   refine aA.ah aU (by show 0+3<4;omega) rfl fun w4 dw f4 sq=>?_;refine aA.ah dw (by show 0+2<4;omega) rfl fun w5 cW f5 zU=>?_;refine aA.ah cW (by show 0+0<4;omega) rfl fun w6 fI f6 MF=>?_;have f46:=(f4.trans f5).trans f6;exact⟨w3.heap.size,g,rfl,⟨sl,fI,jK.ag f46 (fun k U t=>vl (by have:k=g:=t;rw[<- this];exact U)),⟨vl,bQ aU,by omega,ME⟩,hz⟩,f1.trans ((f2.trans f3).fresh f46 (by omega)),vk⟩
  ·rw[if_neg (show ¬ 0<(eQ [] 0 false (cJ bs)).2 from hp)]
   refine aA.ah aU (by show 0+0<4;omega) rfl fun w4 dw f4 sq=>?_;exact⟨w3.heap.size,g,rfl,⟨sl,dw,jK.ag f4 (fun k U t=>vl (by have:k=g:=t;rw[<- this];exact U)),⟨vl,bQ aU,by omega,ME⟩,hz⟩,f1.trans ((f2.trans f3).fresh f4 (by omega)),vk⟩
theorem U6 {w:World}{m b:Nat}{fin:Int}{s:RS}(h:dM w m b fin s):Ret Tryz.prog 257 #[.pointer (some ⟨b,0,none⟩)] w fun r w'=>r=.tuple #[]/\dM w' m b fin (tw fin s)/\Fr (only b) w w':=by
 refine c257 _ w _ ?_;obtain⟨sl,hb,hs,_⟩:=id h;have hl:=hs.len;refine ae.ah hb (x:=sl) rfl ?_;unfold tw;cases jK:s.l with
 | nil=>
  rw[jK] at hl;exact aa.no (by rw[hl];decide) ⟨rfl,h,Fr.refl _ _⟩
 | cons x l=>
  rw[jK] at hl;simp only[List.length_cons] at hl;refine aa.yes (by omega) ?_;refine ab.of (Gp h 2) ?_;rintro _ w1 ⟨rfl,h1,f1⟩;exact⟨(),rfl,rfl,h1,f1⟩
theorem MG {bs:List UInt8}(h:(oX bs).e=0):aJ (fD (nj bs) 12 (lO bs)).1<=1000000:=by
 obtain⟨h1,h2,_⟩:=Ui h;obtain⟨i1,_,_⟩:=LU (nj bs) 12 (lO bs) h1;obtain⟨b1,_,b3⟩:=Un i1.e;obtain⟨xs,hx,oY⟩:=i1.xm;have h3:=UO (fD (nj bs) 12 (lO bs)).1;rw[<- oY,List.length_map] at h3;rw[h2,List.append_nil,b3] at hx;have h4:=Cl (cJ bs) [] 0 false;have h5:=EA bs;have hx:(eQ [] 0 false (cJ bs)).1=xs:=hx;rw[hx,List.length_nil] at h4;omega
theorem U7 (bs:List UInt8)(hl:bs.length<=1000000000000)(w:World):Ret Tryz.prog 230 #[.string (str bs)] w fun r w'=>r=.tuple #[(nk bs).1.v,.int .i64 (nk bs).2.1,.int .i64 (nk bs).2.2]/\Fr none1 w w':=by
 refine c230 (str bs) w _ ?_;refine ab.of (U4 bs hl w) ?_;rintro _ w1 ⟨m,g,rfl,h1,f1,hg⟩;refine⟨_,rfl,?_⟩;refine ab.of (MD 12 (Nat.le_refl _) h1) ?_;rintro _ w2 ⟨rfl,h2,f2⟩;refine⟨_,rfl,?_⟩;refine ab.of (U6 h2) ?_;rintro _ w3 ⟨rfl,h3,f3⟩;refine⟨(),rfl,?_⟩;have f13:Fr none1 w w3:=f1.fresh (f2.trans f3) hg;have h3:dM w3 m g (nj bs) (oX bs):=h3;obtain⟨sl,hb,_⟩:=id h3;unfold nk;refine ae.ah hb (x:=(oX bs).e) rfl ?_;refine aa.eq (fun he=>?_) (fun he=>?_)
 ·rw[if_neg (fun t=>t he)]
  refine ab.of (Fa _ (MG he) w3) ?_;rintro _ w4 ⟨rfl,f4⟩;refine⟨_,rfl,?_⟩;refine aA.ah (f4.af hb) (by show 0+3<4;omega) rfl fun w5 cW f5 _=>?_;refine ae.ah cW (x:=jJ (fD (nj bs) 12 (lO bs)).1) rfl ?_;have f15:Fr none1 w w5:=(f13.trans f4).fresh f5 (by omega);refine aa.ne (fun hc=>?_) (fun hc=>?_)
  ·rw[if_pos hc]
   refine aD.of fun w6 _ f6=>?_;refine ae.ah (f6.af cW) (x:=(oX bs).at_) rfl (ae.ah (f6.af cW) (x:=jJ (fD (nj bs) 12 (lO bs)).1) rfl ?_);exact⟨rfl,f15.trans f6⟩
  ·rw[if_neg (fun t=>t hc)]
   exact⟨rfl,f15⟩
 ·rw[if_pos he]
  refine ae.ah hb (x:=(oX bs).e) rfl ?_;refine aa.ne (fun _=>?_) (fun hc=>absurd hc he);refine aD.of fun w6 _ f6=>?_;refine ae.ah (f6.af hb) (x:=(oX bs).at_) rfl (ae.ah (f6.af hb) (x:=(oX bs).e) rfl ?_);exact⟨rfl,f13.trans f6⟩
theorem MH {α:Type}(a b:List α)(d:α){i:Nat}(h:i<a.length):(a++b).getD i d=a.getD i d:=by
 rw[List.getD_eq_getElem?_getD,List.getD_eq_getElem?_getD,List.getElem?_append_left h]
theorem MI {α:Type}(a:List α)(x d:α):(a++[x]).getD a.length d=x:=by
 rw[List.getD_eq_getElem?_getD];simp
theorem aZ.jM {w:World}{v:Sl}{bs:List UInt8}(h:aZ w v bs){lo hi:Int}(h0:0<=lo)(h1:lo<=hi)(h2:hi<=v.2.1)(hc:v.2.1<=v.2.2){K:Option Addr->Nat->Nat->Prop}
  (k:∀ u:Sl,aZ w u ((bs.drop lo.toNat).take (hi - lo).toNat)->u.2.1<=u.2.2->u.2.1=(hi - lo).toNat->(∀ k,aw u k->aw v k)->K u.1 u.2.1 u.2.2):eX v.1 v.2.2 lo hi v.2.2 1 K:=by
 refine dr.jM h h0 h1 h2 hc fun u hu=>k u ?_;unfold aZ;rw[List.map_take,List.map_drop];exact hu
theorem aZ.tG {w w':World}{v:Sl}{bs:List UInt8}(h:aZ w v bs){S:Nat->Prop}(f:Fr S w w')(hn:bs≠[]->∀ k,aw v k->¬ S k):aZ w' v bs:=by
 by_cases e:bs=[]
 ·subst e
  obtain⟨h1,h2,h3⟩:=h;exact⟨h1,h2,fun a ha=>trivial⟩
 ·exact h.ag f (hn e)
theorem aZ.Gw {w:World}{v:Sl}{bs:List UInt8}(h:aZ w v bs)(hn:bs≠[]){k:Nat}(U:aw v k):k<w.heap.size:=by
 obtain⟨a,ha,rfl⟩:=U;obtain⟨_,_,h3⟩:=h;have:=h3 a ha;cases bs with
 | nil=>exact(hn rfl).elim
 | cons b bs=>exact Ka this.1
theorem U8 {w:World}{n m:Int}(h0:0<=n)(h1:n<=m)(hb:m<=281474976710656):
  ∃ w',(Instr.makeSlice 22 (.int .i64 n) (.int .i64 m)).run Tryz.prog w=.ok (.slice (some ⟨w.heap.size,0,none⟩) n.toNat m.toNat) w'/\cg w' (some ⟨w.heap.size,0,none⟩,m.toNat,m.toNat) (List.replicate m.toNat 0)/\Fr none1 w w':=by
 obtain⟨hu,⟨i,hi,hs,hz,qJ⟩,hc,oJ⟩:=mR;have nQ:∀ w,(typeInfo 5).run Tryz.prog w=.ok i w:=fun w=>by simp[typeInfo,hi]
 have mg:∀ w,(sizeOf 5).run Tryz.prog w=.ok 1 w:=fun w=>by rw[j8 hi,hs]
 have ha:∀ (k:IntKind) (n:Int) w,(asInt (.int k n)).run Tryz.prog w=.ok n w:=fun _ _ _=>rfl;unfold Instr.makeSlice;simp only[Sem.run_bind,under hu,Result.andThen_ok,ha,nQ,wI (x:=n) (by omega) (by omega),wI (x:=m) (by omega) (by omega)];have Rz:¬ ((i.bytes:Int) * m > 2 ^ 48):=by rw[qJ];omega
 rw[if_neg (by simp;omega)];have uG:∀ zc:Array Value,(m.toNat * 1≠0->zc=#[.int .u8 0])->(Array.range (m.toNat * 1)).map (zc[· % zc.size]!)=Array.replicate m.toNat (.int .u8 0):=fun zc uF=>by
  by_cases h:m.toNat * 1=0
  ·have:m.toNat=0:=by omega
   rw[this];simp
  ·rw[uF h]
   apply Array.ext
   ·simp
   ·intro j h1 h2
    have:j % 1=0:=Nat.mod_one _;simp[this]
 have fin:∀ cs:Array Value,cs=Array.replicate m.toNat (.int .u8 0) ->
   ∃ w',(do pure (Value.slice (some (<- newRow 5 cs)) n.toNat m.toNat):Sem Value).run Tryz.prog w=.ok (.slice (some ⟨w.heap.size,0,none⟩) n.toNat m.toNat) w'/\cg w' (some ⟨w.heap.size,0,none⟩,m.toNat,m.toNat) (List.replicate m.toNat 0)/\Fr none1 w w':=fun cs hcs=>by
  subst hcs;simp only[newRow,Sem.run_bind,run_newObj,Result.andThen_ok,Sem.run_pure];refine⟨_,rfl,.inr ⟨w.heap.size,0,_,rfl,Array.getElem?_push_size ..,Nat.le_refl _,by simp,by simp,fun j hj=>?_⟩,mf _ _⟩;simp at hj;rw[List.map_replicate,Array.getElem?_replicate,List.getElem?_replicate,if_pos (show 0+j<m.toNat by omega),if_pos (show j<m.toNat by omega)];rfl
 by_cases h:m.toNat * 1=0
 ·simp only[Sem.run_bind,run_askRoom,Result.andThen_ok,mg,if_pos h,Sem.run_pure]
  exact fin _ (uG #[] (fun hh=>absurd h hh))
 ·simp only[Sem.run_bind,run_askRoom,Result.andThen_ok,mg,if_neg h,qC hi hz,Sem.run_pure]
  exact fin _ (uG _ (fun _=>rfl))
theorem MJ {g:Nat}{T:TypeId}:∀ (vs:List Value) (w:World) (cs jS:Array Value) (off i:Nat),w.heap[g]? = some (.cells cs T (0,0))->(setCells w ⟨g,off,none⟩ i vs).heap[g]? = some (.cells jS T (0,0))->∀ j,off+i+vs.length<=j->jS[j]? = cs[j]?
 | [],w,cs,jS,off,i,hb,gJ,j,_=>by
  have:some (Obj.cells cs T (0,0))=some (.cells jS T (0,0)):=by rw[<- hb,<- gJ];rfl
  injection this with this
  injection this with this
  rw[this]
 | v::vs,w,cs,jS,off,i,hb,gJ,j,hj=>by
  simp only[List.length_cons] at hj;unfold setCells at gJ;rw[dP] at gJ;have hs:=Vc.heap_setCell_same (i:=off+i) (v:=v) hb;have:=MJ vs _ _ jS off (i+1) hs gJ j (by omega);rw[this,Array.getElem?_setIfInBounds_ne (by omega)]
def C150 (p0:Addr)(p1:Int)(w:World)(K:Value->World->Prop):Prop:=
 ae .bool (p0.add 1) w (fun(x1:Bool)=>aa x1
 (aA (p0.add 1) (.bool true) w (fun w2=>K (.slice none 0 0) w2))
 (ae .aj (p0.add 0) w (fun(x3:an)=>aa (decide (p1 > (x3.2.1:Int)))
 (aA (p0.add 1) (.bool true) w (fun w4=>K (.slice none 0 0) w4))
 (ae .aj (p0.add 0) w (fun(x5:an)=>eX x5.1 x5.2.2 0 p1 x5.2.2 1 (fun a6 l7 c8=>ae .aj (p0.add 0) w (fun(x9:an)=>eX x9.1 x9.2.2 p1 x9.2.1 x9.2.2 1 (fun pQ U9 c12=>aA (p0.add 0) (.slice pQ U9 c12) w (fun aW=>K (.slice a6 l7 c8) aW)))))))))
def pl150:aB:=.auto
theorem c150 (p0:Addr)(p1:Int)(w:World)(K:Value->World->Prop)(h:C150 p0 p1 w K):Ret Tryz.prog 150 #[.pointer (some p0),.int .i64 p1] w K:=aC (by kernel_rfl) Tryz.func150 (p:=pl150) (Eq.mpr (by kernel_rfl) h)
def C194 (p0:Addr)(p1:Int)(w:World)(K:Value->World->Prop):Prop:=
 ab Tryz.prog 150 #[.pointer (some p0),.int .i64 p1] w (.v (.one .aj)) (fun(x1:an) w2=>bw (Int×Int×Unit) (fun _ s3 w4 kM=>aa (decide (s3.2.1<(x1.2.1:Int)))
 (bK x1.1 x1.2.1 s3.2.1 1 (fun a6=>ae (.int .u8) a6 w4 (fun(x7:Int)=>jC 8 (kM (IntKind.i64.wrap ((BitVec.ofInt 64 (IntKind.i64.wrap (s3.1 * 2 ^ (min (Int.toNat 8) 64))) ||| BitVec.ofInt 64 (IntKind.i64.wrap x7)).toNat:Int),IntKind.i64.wrap (s3.2.1+1),()) w4))))
 (ab Tryz.prog 150 #[.pointer (some p0),.int .i64 s3.1] w4 (.v (.one .aj)) (fun(x8:an) w9=>az Tryz.prog (convert 22 9 (.slice x8.1 x8.2.1 x8.2.2)) w9 (.v (.one .str)) (fun(aR:ByteArray) aO=>K (.string aR) aO))))
 (0,0,()) w2)
def pl194:aB:=(.seq .auto (.seq .auto (.seq (.seq .auto (.block (.loop [(5,.one (.int .i64)),(12,.one (.int .i64))] .auto))) .auto)))
theorem c194 (p0:Addr)(p1:Int)(w:World)(K:Value->World->Prop)(h:C194 p0 p1 w K):Ret Tryz.prog 194 #[.pointer (some p0),.int .i64 p1] w K:=aC (by kernel_rfl) Tryz.func194 (p:=pl194) (Eq.mpr (by kernel_rfl) h)
def C192 (p0:Addr)(w:World)(K:Value->World->Prop):Prop:=
 ab Tryz.prog 150 #[.pointer (some p0),.int .i64 8] w (.v (.one .aj)) (fun(x1:an) w2=>ab Tryz.prog 107 #[.slice x1.1 x1.2.1 x1.2.2] w2 (.aN [.one (.int .i64),.one .bool]) (fun(x3:Int×Bool×Unit) w4=>ae .bool (p0.add 1) w4 (fun(x5:Bool)=>aa x5
 (aA (p0.add 1) (.bool true) w4 (fun w6=>K (.int .i64 x3.1) w6))
 (aA (p0.add 1) (.bool (!x3.2.1)) w4 (fun w7=>K (.int .i64 x3.1) w7)))))
def pl192:aB:=.auto
theorem c192 (p0:Addr)(w:World)(K:Value->World->Prop)(h:C192 p0 w K):Ret Tryz.prog 192 #[.pointer (some p0)] w K:=aC (by kernel_rfl) Tryz.func192 (p:=pl192) (Eq.mpr (by kernel_rfl) h)
def C193 (p0:Addr)(w:World)(K:Value->World->Prop):Prop:=
 ab Tryz.prog 194 #[.pointer (some p0),.int .i64 2] w (.v (.one .str)) (fun(x1:ByteArray) w2=>ab Tryz.prog 230 #[.string x1] w2 (.aN [.one .raw,.one (.int .i64),.one (.int .i64)]) (fun(x3:Value×Int×Int×Unit) w4=>ae .bool (p0.add 1) w4 (fun(x5:Bool)=>aa x5
 (aA (p0.add 1) (.bool true) w4 (fun w6=>K x3.1 w6))
 (aA (p0.add 1) (.bool (x3.2.2.1 != 0)) w4 (fun w7=>K x3.1 w7)))))
def pl193:aB:=.auto
theorem c193 (p0:Addr)(w:World)(K:Value->World->Prop)(h:C193 p0 w K):Ret Tryz.prog 193 #[.pointer (some p0)] w K:=aC (by kernel_rfl) Tryz.func193 (p:=pl193) (Eq.mpr (by kernel_rfl) h)
def C151 (p0:Addr)(p1:Addr)(p2:Int)(w:World)(K:Value->World->Prop):Prop:=
 aa (p2==68)
 (ab Tryz.prog 192 #[.pointer (some p0)] w (.v (.one (.int .i64))) (fun(x1:Int) w2=>aA (p1.add 5) (.int .i64 x1) w2 (fun w3=>K (.tuple #[]) w3)))
 (aa (p2==86)
 (ab Tryz.prog 192 #[.pointer (some p0)] w (.v (.one (.int .i64))) (fun(x4:Int) w5=>aA (p1.add 6) (.int .i64 x4) w5 (fun w6=>K (.tuple #[]) w6)))
 (aa (p2==84)
 (ab Tryz.prog 193 #[.pointer (some p0)] w (.v (.one .raw)) (fun(x7:Value) w8=>iV x7 (ar (p1.add 7) [x7] w8 (fun w9=>K (.tuple #[]) w9))))
 (aa (p2==73)
 (ab Tryz.prog 194 #[.pointer (some p0),.int .i64 1] w (.v (.one .str)) (fun(aR:ByteArray) aO=>aA (p1.add 1) (.string aR) aO (fun aM=>K (.tuple #[]) aM)))
 (aa (p2==78)
 (ab Tryz.prog 194 #[.pointer (some p0),.int .i64 1] w (.v (.one .str)) (fun(bD:ByteArray) bm=>aA (p1.add 2) (.string bD) bm (fun bL=>K (.tuple #[]) bL)))
 (aa (p2==76)
 (ab Tryz.prog 194 #[.pointer (some p0),.int .i64 1] w (.v (.one .str)) (fun(aQ:ByteArray) b9=>aA (p1.add 3) (.string aQ) b9 (fun bz=>K (.tuple #[]) bz)))
 (aa (p2==67)
 (ab Tryz.prog 194 #[.pointer (some p0),.int .i64 1] w (.v (.one .str)) (fun(bu:ByteArray) bo=>aA (p1.add 4) (.string bu) bo (fun bB=>K (.tuple #[]) bB)))
 (K (.tuple #[]) w)))))))
def pl151:aB:=.auto
theorem c151 (p0:Addr)(p1:Addr)(p2:Int)(w:World)(K:Value->World->Prop)(h:C151 p0 p1 p2 w K):Ret Tryz.prog 151 #[.pointer (some p0),.pointer (some p1),.int .i32 p2] w K:=aC (by kernel_rfl) Tryz.func151 (p:=pl151) (Eq.mpr (by kernel_rfl) h)
def C93 (p0:Option Addr)(aH aP:Nat)(w:World)(K:Value->World->Prop):Prop:=
 ak (.cells #[.int .i64 0,.string (⟨#[]⟩:ByteArray),.string (⟨#[]⟩:ByteArray),.string (⟨#[]⟩:ByteArray),.string (⟨#[]⟩:ByteArray),.int .i64 0,.int .i64 0,.nilIface] 36) w (fun g1 w2=>ak (.cells #[.slice p0 aH aP,.bool false] 274) w2 (fun g3 w4=>ak (.cells #[.int .i64 0,.string (⟨#[]⟩:ByteArray),.string (⟨#[]⟩:ByteArray),.string (⟨#[]⟩:ByteArray),.string (⟨#[]⟩:ByteArray),.int .i64 0,.int .i64 0,.nilIface] 36) w4 (fun g5 w6=>ar (ad g5) [.int .i64 0,.string (⟨#[]⟩:ByteArray),.string (⟨#[]⟩:ByteArray),.string (⟨#[]⟩:ByteArray),.string (⟨#[]⟩:ByteArray),.int .i64 0,.int .i64 0,.nilIface] w6 (fun w7=>ab Tryz.prog 150 #[.pointer (some (ad g3)),.int .i64 1] w7 (.v (.one .aj)) (fun(x8:an) w9=>bw (Int×Unit) (fun _ sr aO Va=>aa (decide (sr.1<(x8.2.1:Int)))
 (bK x8.1 x8.2.1 sr.1 1 (fun Gm=>ae (.int .u8) Gm aO (fun(bd:Int)=>aA ((ad g5).add 0) (.int .i64 (IntKind.i64.wrap bd)) aO (fun bL=>Va (IntKind.i64.wrap (sr.1+1),()) bL))))
 (ae (.int .i64) ((ad g5).add 0) aO (fun(aQ:Int)=>ab Tryz.prog 71 #[.int .i64 aQ] aO (.v (.one .aj)) (fun(aX:an) bz=>bw (Int×Unit) (fun _ Gy bo Vb=>aa (decide (Gy.1<(aX.2.1:Int)))
 (bK aX.1 aX.2.1 Gy.1 1 (fun Gz=>ae (.int .i32) Gz bo (fun(cr:Int)=>ab Tryz.prog 151 #[.pointer (some (ad g3)),.pointer (some (ad g5)),.int .i32 cr] bo (.aN []) (fun(cj:Unit) dk=>Vb (IntKind.i64.wrap (Gy.1+1),()) dk))))
 (aq dt (ad g5) bo (fun(cZ:bE)=>ab Tryz.prog 33 #[.agg (bP cZ).toArray] bo (.aN [.one .aj,.one (.int .i64)]) (fun(cz:an×Int×Unit) bS=>ae .bool ((ad g3).add 1) bS (fun(cx:Bool)=>aa cx
 (ar (ad g1) [.int .i64 0,.string (⟨#[]⟩:ByteArray),.string (⟨#[]⟩:ByteArray),.string (⟨#[]⟩:ByteArray),.string (⟨#[]⟩:ByteArray),.int .i64 0,.int .i64 0,.nilIface] bS (fun bO=>aq dt (ad g1) bO (fun(bZ:bE)=>K (.tuple #[.agg (bP bZ).toArray,.int .i64 2]) bO)))
 (aa (cz.2.1 != 0)
 (ar (ad g1) [.int .i64 0,.string (⟨#[]⟩:ByteArray),.string (⟨#[]⟩:ByteArray),.string (⟨#[]⟩:ByteArray),.string (⟨#[]⟩:ByteArray),.int .i64 0,.int .i64 0,.nilIface] bS (fun cL=>aq dt (ad g1) cL (fun(dp:bE)=>K (.tuple #[.agg (bP dp).toArray,.int .i64 2]) cL)))
 (ab Tryz.prog 53 #[.slice cz.1.1 cz.1.2.1 cz.1.2.2,.slice p0 aH aP] bS (.v (.one .bool)) (fun(dj:Bool) dX=>aa (!dj)
 (ar (ad g1) [.int .i64 0,.string (⟨#[]⟩:ByteArray),.string (⟨#[]⟩:ByteArray),.string (⟨#[]⟩:ByteArray),.string (⟨#[]⟩:ByteArray),.int .i64 0,.int .i64 0,.nilIface] dX (fun cQ=>aq dt (ad g1) cQ (fun(gn:bE)=>K (.tuple #[.agg (bP gn).toArray,.int .i64 2]) cQ)))
 (aq dt (ad g5) dX (fun(dF:bE)=>ar (ad g1) (bP dF) dX (fun eh=>aq dt (ad g1) eh (fun(iX:bE)=>K (.tuple #[.agg (bP iX).toArray,.int .i64 0]) eh))))))))))))
 (0,()) bz))))
 (0,()) w9)))))
def pl93:aB:=(.seq .auto (.seq .auto (.seq .auto (.seq (.seq .auto (.block (.loop [(19,.one (.int .i64))] .auto))) (.seq (.seq .auto (.block (.loop [(31,.one (.int .i64))] .auto))) .auto)))))
theorem c93 (p0:Option Addr)(aH aP:Nat)(w:World)(K:Value->World->Prop)(h:C93 p0 aH aP w K):Ret Tryz.prog 93 #[.slice p0 aH aP] w K:=aC (by kernel_rfl) Tryz.func93 (p:=pl93) (Eq.mpr (by kernel_rfl) h)
def C91 (p0:Option Addr)(aH aP:Nat)(w:World)(K:Value->World->Prop):Prop:=
 ak (.cells #[.int .i64 0,.string (⟨#[]⟩:ByteArray),.string (⟨#[]⟩:ByteArray),.string (⟨#[]⟩:ByteArray),.string (⟨#[]⟩:ByteArray),.int .i64 0,.int .i64 0,.nilIface,.bool false] 110) w (fun g1 w2=>aa ((aH:Int)==0)
 (ar (ad g1) [.int .i64 0,.string (⟨#[]⟩:ByteArray),.string (⟨#[]⟩:ByteArray),.string (⟨#[]⟩:ByteArray),.string (⟨#[]⟩:ByteArray),.int .i64 0,.int .i64 0,.nilIface,.bool false] w2 (fun w3=>aq lI (ad g1) w3 (fun(x4:iA)=>K (.tuple #[.agg (iO x4).toArray,.int .i64 2]) w3)))
 (bK p0 aH 0 1 (fun a5=>ae (.int .u8) a5 w2 (fun(x6:Int)=>aa (decide (x6 > 1))
 (ar (ad g1) [.int .i64 0,.string (⟨#[]⟩:ByteArray),.string (⟨#[]⟩:ByteArray),.string (⟨#[]⟩:ByteArray),.string (⟨#[]⟩:ByteArray),.int .i64 0,.int .i64 0,.nilIface,.bool false] w2 (fun w7=>aq lI (ad g1) w7 (fun(x8:iA)=>K (.tuple #[.agg (iO x8).toArray,.int .i64 2]) w7)))
 (eX p0 aP 1 aH aP 1 (fun a9 l10 c11=>ab Tryz.prog 93 #[.slice a9 l10 c11] w2 (.aN [.agg dt,.one (.int .i64)]) (fun(bt:bE×Int×Unit) aW=>ak (.cells #[.int .i64 0,.string (⟨#[]⟩:ByteArray),.string (⟨#[]⟩:ByteArray),.string (⟨#[]⟩:ByteArray),.string (⟨#[]⟩:ByteArray),.int .i64 0,.int .i64 0,.nilIface] 36) aW (fun g14 bL=>ar (ad g14) [.int .i64 bt.1.1,.string bt.1.2.1,.string bt.1.2.2.1,.string bt.1.2.2.2.1,.string bt.1.2.2.2.2.1,.int .i64 bt.1.2.2.2.2.2.1,.int .i64 bt.1.2.2.2.2.2.2.1,bt.1.2.2.2.2.2.2.2.1] bL (fun bn=>aa (bt.2.1 != 0)
 (ar (ad g1) [.int .i64 0,.string (⟨#[]⟩:ByteArray),.string (⟨#[]⟩:ByteArray),.string (⟨#[]⟩:ByteArray),.string (⟨#[]⟩:ByteArray),.int .i64 0,.int .i64 0,.nilIface,.bool false] bn (fun b9=>aq lI (ad g1) b9 (fun(br:iA)=>K (.tuple #[.agg (iO br).toArray,.int .i64 bt.2.1]) b9)))
 (aD bn (fun bx=>aq dt (ad g14) bx (fun(cw:bE)=>bK p0 aH 0 1 (fun a21=>ae (.int .u8) a21 bx (fun(bR:Int)=>ar (ad g1) [.int .i64 cw.1,.string cw.2.1,.string cw.2.2.1,.string cw.2.2.2.1,.string cw.2.2.2.2.1,.int .i64 cw.2.2.2.2.2.1,.int .i64 cw.2.2.2.2.2.2.1,cw.2.2.2.2.2.2.2.1,.bool (bR==1)] bx (fun cV=>aq lI (ad g1) cV (fun(cj:iA)=>K (.tuple #[.agg (iO cj).toArray,.int .i64 0]) cV))))))))))))))))
def pl91:aB:=(.seq .auto (.seq .auto (.seq .auto (.seq .auto (.seq (.tail 6) .auto)))))
theorem c91 (p0:Option Addr)(aH aP:Nat)(w:World)(K:Value->World->Prop)(h:C91 p0 aH aP w K):Ret Tryz.prog 91 #[.slice p0 aH aP] w K:=aC (by kernel_rfl) Tryz.func91 (p:=pl91) (Eq.mpr (by kernel_rfl) h)
end Go.Proofs.YtmkehncgjnhhcaaGreatDoor
